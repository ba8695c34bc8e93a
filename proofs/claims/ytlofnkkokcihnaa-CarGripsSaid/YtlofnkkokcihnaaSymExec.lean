import Derived.Test.YtlofnkkokcihnaaSymAct
namespace Go.Lite

def SSR (σ : SSt) (τ : St) : Prop := VRL σ.tmps τ.tmps ∧ HR σ.h τ.h
theorem put_sim {ts : List SV} {as : List AV} (h : VRL ts as) (dst : Option Tmp) {v : SV} {a : AV} (hv : VR v a) : VRL (putS dst v ts) (put dst a as) := by
  cases dst with
  | none => exact h
  | some d => exact VRL_set d h hv
theorem und_sim : VR .und .und := by simp only [VR]
theorem wanted_sim {ops : Array Oper} {ts ts' : List SV} {as : List AV} {o : Oper} {w : Bool} (h : (wantedS ops ts o).run = some (w, ts')) (hv : VRL ts as) : wantedA ops as o = some w ∧ VRL ts' as := by
  unfold wantedS at h
  unfold wantedA
  cases hg : o.guard with
  | none =>
    rw [hg] at h
    simp only [T.run, Option.some.injEq, Prod.mk.injEq] at h
    obtain ⟨rfl, rfl⟩ := h
    exact ⟨rfl, hv⟩
  | some p =>
    obtain ⟨j, want⟩ := p
    rw [hg] at h
    simp only at h ⊢
    cases hd : (ops[j]?).bind (·.dst) with
    | none => rw [hd] at h; cases h
    | some d =>
      rw [hd] at h
      simp only [Option.bind_some] at h ⊢
      cases ht : ts[d]? with
      | none => rw [ht] at h; cases h
      | some c =>
        rw [ht] at h
        obtain ⟨a, ha, hr⟩ := VRL_get hv ht
        rw [ha]
        cases c <;> simp only at h <;> try (cases h; done)
        case und =>
          simp only [VR] at hr; subst hr
          simp only [T.run, Option.some.injEq, Prod.mk.injEq] at h
          obtain ⟨rfl, rfl⟩ := h
          exact ⟨rfl, hv⟩
        case bool b =>
          simp only [VR] at hr; subst hr
          simp only [T.run] at h
          cases b <;> simp only [Bool.false_eq_true, if_false, if_true, Option.some.injEq, Prod.mk.injEq] at h <;> obtain ⟨rfl, rfl⟩ := h
          · exact ⟨by cases want <;> rfl, VRL_setL d hv ha (by simp only [VR])⟩
          · exact ⟨by cases want <;> rfl, VRL_setL d hv ha (by simp only [VR])⟩
        case kb b =>
          simp only [VR] at hr; subst hr
          simp only [T.run, Option.some.injEq, Prod.mk.injEq] at h
          obtain ⟨rfl, rfl⟩ := h
          exact ⟨rfl, hv⟩

section
variable {C : Cfg} (hC : ∀ t Y, C.ty t = some Y → tyOf C.P t = some Y) {tab : Tab} {n : Nat} (hS : SpOK C tab n)
include hC hS
theorem step_sim {S : Type} {H : Option (Hd S)} {ops : Array Oper} {o : Oper} {σ σ' : SSt} {τ : St} (s : S) (h : (stepS C tab ops o σ).run = some σ') (hr : SSR σ τ) : ∃ τ', stepA C (callA C n) H ops o τ s = some (τ', s) ∧ SSR σ' τ' := by
  unfold stepS at h
  rw [T.run_bind, Option.bind_eq_some_iff] at h
  obtain ⟨⟨w, ts'⟩, hw, h⟩ := h
  obtain ⟨hw1, hw2⟩ := wanted_sim hw hr.1
  unfold stepA
  rw [hw1]
  cases w with
  | false =>
    simp only [T.run, Option.some.injEq] at h
    subst h
    exact ⟨_, rfl, put_sim hw2 _ und_sim, hr.2⟩
  | true =>
    simp only [T.run_bind, Option.bind_eq_some_iff] at h
    obtain ⟨ms, hms, r, hra, h⟩ := h
    simp only [T.run, Option.some.injEq] at h
    subst h
    -- the guard's slot reads as before
    obtain ⟨m, hm, hmr⟩ := planS_sim hC (evS_sim hw2) hms
    obtain ⟨r', hr', hrs, hrr⟩ := act_sim (H := H) hS hr.2.2 s hra hmr
    rw [hr.2.1] at hr'
    simp only [hm, hr', hrs]
    refine ⟨_, rfl, put_sim hw2 _ hrr.v, ?_⟩
    simp only
    rw [hr.2.1]
    exact HR.puts _ (HR.ups hr.2 hrr.ups) hrr.len hrr.news
theorem runS_sim {S : Type} {H : Option (Hd S)} {ops : Array Oper} : ∀ {l : List Oper} {σ σ' : SSt} {τ : St} (s : S), (runS C tab ops l σ).run = some σ' → SSR σ τ → ∃ τ', runA C (callA C n) H ops l τ s = some (τ', s) ∧ SSR σ' τ'
  | [], σ, σ', τ, s, h, hr => by
    simp only [runS, T.run, Option.some.injEq] at h; subst h
    exact ⟨τ, rfl, hr⟩
  | o :: l, σ, σ', τ, s, h, hr => by
    simp only [runS, T.run_bind, Option.bind_eq_some_iff] at h
    obtain ⟨σ1, h1, h2⟩ := h
    obtain ⟨τ1, h3, h4⟩ := step_sim hC hS (H := H) s h1 hr
    obtain ⟨τ2, h5, h6⟩ := runS_sim (H := H) (l := l) s h2 h4
    exact ⟨τ2, by simp only [runA, h3, h5], h6⟩
omit hC hS in
theorem sid_eq {x : SV} {a : AV} (h : VR x a) : sid a = sidS x := by
  cases x <;> simp only [VR] at h
  case any => cases a <;> first | rfl | (have := h 1; simp [ids] at this)
  case agg => obtain ⟨_, rfl, _⟩ := h; rfl
  case tup => obtain ⟨_, rfl, _⟩ := h; rfl
  case eptr => obtain ⟨_, _, rfl, _⟩ := h; rfl
  case ro => rcases h with ⟨rfl, _⟩ | ⟨_, _, _, rfl, _⟩ <;> rfl
  case sl => obtain ⟨_, rfl⟩ := h; rfl
  case fn => obtain ⟨_, _, rfl, _⟩ := h; rfl
  case ifc => obtain ⟨_, rfl, _⟩ := h; rfl
  all_goals (subst h; rfl)
omit hC hS in
theorem touch_eq {ms : MS} {m : MA} (h : MR ms m) : touch C m = touchS C ms := by
  cases ms <;> simp only [MR] at h
  case pure => obtain ⟨_, rfl, _⟩ := h; rfl
  case newbox => obtain ⟨_, rfl, _⟩ := h; rfl
  case newrow => obtain ⟨_, rfl, _⟩ := h; rfl
  case load => subst h; rfl
  case store => obtain ⟨_, rfl, _⟩ := h; rfl
  case append => obtain ⟨_, _, rfl, h1, h2, _⟩ := h; simp only [touch, touchS, sid_eq h1, sid_eq h2]
  case copy => obtain ⟨_, _, rfl, h1, h2⟩ := h; simp only [touch, touchS, sid_eq h1, sid_eq h2]
  case call => obtain ⟨_, rfl, _⟩ := h; rfl
theorem runDS_sim {S : Type} {H : Option (Hd S)} {ops : Array Oper} {deps : Array Nat} {m : Nat} : ∀ {l : List (Oper × Nat)} {done : List Done} {σ σ' : SSt} {τ : St} (s : S), (runDS C tab ops deps m l done σ).run = some σ' → SSR σ τ →
    ∃ τ', runD C (callA C n) H ops deps m l done τ s = some (τ', s) ∧ SSR σ' τ'
  | [], done, σ, σ', τ, s, h, hr => by
    simp only [runDS, T.run, Option.some.injEq] at h; subst h
    exact ⟨τ, rfl, hr⟩
  | (o, i) :: l, done, σ, σ', τ, s, h, hr => by
    unfold runDS at h
    rw [T.run_bind, Option.bind_eq_some_iff] at h
    obtain ⟨⟨w, ts'⟩, hw, h⟩ := h
    obtain ⟨hw1, hw2⟩ := wanted_sim hw hr.1
    unfold runD
    rw [hw1]
    cases w with
    | false => exact runDS_sim (H := H) (l := l) s h ⟨put_sim hw2 _ und_sim, hr.2⟩
    | true =>
      simp only [T.run_bind, Option.bind_eq_some_iff] at h
      obtain ⟨ms, hms, h⟩ := h
      obtain ⟨ma, hm, hmr⟩ := planS_sim hC (evS_sim hw2) hms
      simp only [hm]
      have ht := touch_eq (C := C) hmr
      rw [ht]
      split at h
      · cases h
      rename_i hcl
      rw [if_neg hcl]
      simp only [T.run_bind, Option.bind_eq_some_iff] at h
      obtain ⟨r, hra, h⟩ := h
      have hlook : ∀ id, OR (if visible m done (deps.getD i 0) id && (decide ((touchS C ms).cls = 3 ∨ (touchS C ms).cls = 4) || (touchS C ms).is.contains id) then sget σ.h id else none)
          (if visible m done (deps.getD i 0) id && (decide ((touchS C ms).cls = 3 ∨ (touchS C ms).cls = 4) || (touchS C ms).is.contains id) then hget τ.h id else none) := fun id => by
        split
        · exact hr.2.2 id
        · trivial
      obtain ⟨r', hr', hrs, hrr⟩ := act_sim (H := H) hS hlook s hra hmr
      rw [hr.2.1] at hr'
      simp only [hr', hrs]
      have := runDS_sim (H := H) (l := l) (τ := { tmps := put o.dst r'.v τ.tmps, h := hputs (hups τ.h r'.ups) τ.h.length r'.news }) s h ⟨put_sim hw2 _ hrr.v, by
        simp only
        rw [hr.2.1]
        exact HR.puts _ (HR.ups hr.2 hrr.ups) hrr.len hrr.news⟩
      rw [hr.2.1, hrr.len] at this
      exact this

omit hC hS in
/-- A loop does what the table says. -/
def LoopSim (C : Cfg) (n : Nat) (f : FuncId) (b : Code) (L : SSt → T (Ex × SSt)) : Prop := ∀ σ e σ', (L σ).run = some (e, σ') → ∀ τ, SSR σ τ → ∃ τ', execA C (callA C n) f 0 (none : Option (Hd Unit)) (.loop b) τ () = some (e, τ', ()) ∧ SSR σ' τ'
omit hC hS in
def LoopsOK (C : Cfg) (tab : Tab) (n : Nat) (f : FuncId) : Code → Prop
  | .loop b => ∀ L, tab.lp f (keyOf b) = some L → LoopSim C n f b L
  | .seq a b => LoopsOK C tab n f a ∧ LoopsOK C tab n f b
  | .cond _ a b => LoopsOK C tab n f a ∧ LoopsOK C tab n f b
  | .block _ b => LoopsOK C tab n f b
  | .scope b => LoopsOK C tab n f b
  | _ => True
theorem exec_sim {f : FuncId} : ∀ (c : Code), LoopsOK C tab n f c → ∀ {σ σ' : SSt} {e : Ex} {τ : St}, (execS C tab f c σ).run = some (e, σ') → SSR σ τ → ∃ τ', execA C (callA C n) f 0 (none : Option (Hd Unit)) c τ () = some (e, τ', ()) ∧ SSR σ' τ' := by
  intro c
  induction c with
  | skip =>
    intro _ σ σ' e τ h hr
    simp only [execS, T.run, Option.some.injEq, Prod.mk.injEq] at h
    obtain ⟨rfl, rfl⟩ := h
    exact ⟨τ, rfl, hr⟩
  | label l =>
    intro _ σ σ' e τ h hr
    simp only [execS, T.run, Option.some.injEq, Prod.mk.injEq] at h
    obtain ⟨rfl, rfl⟩ := h
    exact ⟨τ, rfl, hr⟩
  | region id ops draw =>
    intro _ σ σ' e τ h hr
    simp only [execS, T.run_bind, Option.bind_eq_some_iff] at h
    obtain ⟨σ1, h1, h2⟩ := h
    simp only [T.run, Option.some.injEq, Prod.mk.injEq] at h2
    obtain ⟨rfl, rfl⟩ := h2
    cases draw with
    | true =>
      obtain ⟨τ', h3, h4⟩ := runDS_sim hC hS (H := (none : Option (Hd Unit))) () h1 hr
      rw [hr.2.1] at h3
      exact ⟨τ', by simp only [execA, if_true, h3], h4⟩
    | false =>
      obtain ⟨τ', h3, h4⟩ := runS_sim hC hS (H := (none : Option (Hd Unit))) () h1 hr
      exact ⟨τ', by simp only [execA, Bool.false_eq_true, if_false, h3], h4⟩
  | seq a b iha ihb =>
    intro hl σ σ' e τ h hr
    simp only [LoopsOK] at hl
    simp only [execS, T.run_bind, Option.bind_eq_some_iff] at h
    obtain ⟨⟨e1, σ1⟩, h1, h2⟩ := h
    obtain ⟨τ1, h3, h4⟩ := iha hl.1 h1 hr
    cases e1 with
    | normal =>
      obtain ⟨τ2, h5, h6⟩ := ihb hl.2 h2 h4
      exact ⟨τ2, by simp only [execA, h3, h5], h6⟩
    | exit id =>
      simp only [T.run, Option.some.injEq, Prod.mk.injEq] at h2
      obtain ⟨rfl, rfl⟩ := h2
      exact ⟨τ1, by simp only [execA, h3], h4⟩
    | ret =>
      simp only [T.run, Option.some.injEq, Prod.mk.injEq] at h2
      obtain ⟨rfl, rfl⟩ := h2
      exact ⟨τ1, by simp only [execA, h3], h4⟩
  | cond c a b iha ihb =>
    intro hl σ σ' e τ h hr
    simp only [LoopsOK] at hl
    have hc := evS_sim hr.1 c
    simp only [execS] at h
    split at h
    · rename_i t ht
      rw [ht] at hc
      simp only [VR] at hc
      simp only [T.run] at h
      cases t with
      | true =>
        obtain ⟨τ', h1, h2⟩ := iha hl.1 (by simpa using h) hr
        exact ⟨τ', by simp only [execA, hc, if_true, h1], h2⟩
      | false =>
        obtain ⟨τ', h1, h2⟩ := ihb hl.2 (by simpa using h) hr
        exact ⟨τ', by simp only [execA, hc, Bool.false_eq_true, if_false, h1], h2⟩
    · rename_i t ht
      rw [ht] at hc
      simp only [VR] at hc
      cases t with
      | true =>
        obtain ⟨τ', h1, h2⟩ := iha hl.1 h hr
        exact ⟨τ', by simp only [execA, hc, if_true, h1], h2⟩
      | false =>
        obtain ⟨τ', h1, h2⟩ := ihb hl.2 h hr
        exact ⟨τ', by simp only [execA, hc, Bool.false_eq_true, if_false, h1], h2⟩
    · cases h
  | block id b ih =>
    intro hl σ σ' e τ h hr
    simp only [LoopsOK] at hl
    simp only [execS, T.run_bind, Option.bind_eq_some_iff] at h
    obtain ⟨⟨e1, σ1⟩, h1, h2⟩ := h
    obtain ⟨τ1, h3, h4⟩ := ih hl h1 hr
    cases e1 with
    | exit id' =>
      simp only [T.run, Option.some.injEq, Prod.mk.injEq] at h2
      obtain ⟨rfl, rfl⟩ := h2
      refine ⟨τ1, ?_, h4⟩
      simp only [execA, h3]
      split <;> rfl
    | normal =>
      simp only [T.run, Option.some.injEq, Prod.mk.injEq] at h2
      obtain ⟨rfl, rfl⟩ := h2
      exact ⟨τ1, by simp only [execA, h3], h4⟩
    | ret =>
      simp only [T.run, Option.some.injEq, Prod.mk.injEq] at h2
      obtain ⟨rfl, rfl⟩ := h2
      exact ⟨τ1, by simp only [execA, h3], h4⟩
  | loop b ih =>
    intro hl σ σ' e τ h hr
    simp only [LoopsOK] at hl
    simp only [execS] at h
    split at h
    · rename_i L hL
      exact hl L hL σ e σ' h τ hr
    · cases h
  | scope b ih =>
    intro hl σ σ' e τ h hr
    simp only [LoopsOK] at hl
    simp only [execS] at h
    obtain ⟨τ', h1, h2⟩ := ih hl h hr
    exact ⟨τ', by simp only [execA, h1], h2⟩
  | exit id =>
    intro _ σ σ' e τ h hr
    simp only [execS, T.run, Option.some.injEq, Prod.mk.injEq] at h
    obtain ⟨rfl, rfl⟩ := h
    exact ⟨τ, rfl, hr⟩
  | ret =>
    intro _ σ σ' e τ h hr
    simp only [execS, T.run, Option.some.injEq, Prod.mk.injEq] at h
    obtain ⟨rfl, rfl⟩ := h
    exact ⟨τ, rfl, hr⟩
  | rangeFunc g ps a b => intro _ σ σ' e τ h; simp [execS, T.run] at h
  | goto l => intro _ σ σ' e τ h; simp [execS, T.run] at h
  | refuse w => intro _ σ σ' e τ h; simp [execS, T.run] at h
end
end Go.Lite
