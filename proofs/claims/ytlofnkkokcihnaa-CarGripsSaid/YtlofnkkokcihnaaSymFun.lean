import Derived.Test.YtlofnkkokcihnaaSymExec
namespace Go.Lite

theorem keepOnly_sim (live : List Nat) : ∀ {ts : List SV} {as : List AV} (i : Nat), VRL ts as → VRL (keepOnlyS live i ts) (keepOnly live i as)
  | [], _, i, h => by simp only [VRL] at h; subst h; exact VRL_nil
  | c :: cs, _, i, h => by
    simp only [VRL] at h
    obtain ⟨v, vs, rfl, h1, h2⟩ := h
    simp only [keepOnlyS, keepOnly]
    refine VRL_cons ?_ (keepOnly_sim live (i + 1) h2)
    split
    · exact h1
    · simp only [VR]; exact noIds_plain fun _ => rfl
theorem gcList_eq {k : Nat} {vs : List SV} {as : List AV} {sh : SHeap} {h : Heap} (hv : VRL vs as) (hh : HR sh h) : gcList k as h = gcListS k vs sh := by
  unfold gcList gcListS
  simp only [ids_eqs hv, reach_eq hh.2]
theorem gcHeap_sim (kb ky : Bool) (R : List Nat) {sh : SHeap} {h : Heap} (hh : HR sh h) : HR (gcHeapS kb R sh) (gcHeap kb ky R h) := by
  refine ⟨by simp [gcHeapS, gcHeap], fun i => ?_⟩
  unfold gcHeapS gcHeap
  simp only [sget, hget, List.getElem?_map]
  cases hR : R[i]? with
  | none => trivial
  | some m =>
    simp only [Option.map_some, Option.getD_some]
    have := hh.2 m
    simp only [sget, hget] at this
    cases e : (sh[m]?).getD none with
    | none => rw [e] at this; rw [OR_none this]; trivial
    | some b =>
      rw [e] at this
      obtain ⟨B, hB, hr⟩ := OR_some this
      rw [hB]
      exact mvB_sim kb ky _ hr
theorem norm_sim {k : Nat} {live : List Nat} {σ : SSt} {τ : St} (h : SSR σ τ) : SSR (normS k live σ) (norm k live τ) := by
  have hk := keepOnly_sim live 0 h.1
  have hg := gcList_eq (k := k) hk h.2
  unfold normS norm
  simp only [hg]
  exact ⟨VRL_map (mv_sim true true _ deep) hk, gcHeap_sim true true _ h.2⟩
theorem gcOf_sim {C : Cfg} {k : Nat} {f : FuncId} {b : Code} {σ : SSt} {τ : St} (h : SSR σ τ) : SSR (gcOfS C k f b σ) (gcOf C k f b τ) := by
  unfold gcOfS gcOf
  cases C.ann f (keyOf b) with
  | none => exact h
  | some live => exact norm_sim h
def gcXS (C : Cfg) (k : Nat) (f : FuncId) (body : Code) (e : Ex) (σ : SSt) : SSt := match e with
  | .normal => σ
  | .exit id => match C.annX f (keyOf body) (some id) with
    | some live => normS k live σ
    | none => σ
  | .ret => match C.annX f (keyOf body) none with
    | some live => normS k live σ
    | none => σ
theorem gcX_sim {C : Cfg} {k : Nat} {f : FuncId} {b : Code} {e : Ex} {σ : SSt} {τ : St} (h : SSR σ τ) : SSR (gcXS C k f b e σ) (gcX C k f b e τ) := by
  unfold gcXS gcX
  cases e with
  | normal => exact h
  | exit id =>
    simp only
    cases C.annX f (keyOf b) (some id) with
    | none => exact h
    | some live => exact norm_sim h
  | ret =>
    simp only
    cases C.annX f (keyOf b) none with
    | none => exact h
    | some live => exact norm_sim h

/-! ### Loops -/
section
variable {C : Cfg} (hC : ∀ t Y, C.ty t = some Y → tyOf C.P t = some Y) {tab : Tab} {n : Nat} (hS : SpOK C tab n) {f : FuncId}
include hC hS
/-- A loop, by what holds at its head. -/
theorem loop_sim {b : Code} (hb : LoopsOK C tab n f b) {X : Type} (head : X → SSt) (R : X → Option (Ex × SSt)) (μ : X → Nat)
    (round : ∀ x e σ', R x = some (e, σ') → ∃ eb σb, (execS C tab f b (head x)).run = some (eb, σb) ∧
      ((eb = .normal ∧ ∃ x', gcOfS C 0 f b σb = head x' ∧ R x' = some (e, σ') ∧ μ x' < μ x) ∨ (eb ≠ .normal ∧ e = eb ∧ σ' = gcXS C 0 f b eb σb)))
    {L : SSt → T (Ex × SSt)} (hL : ∀ σ e σ', (L σ).run = some (e, σ') → ∃ x, gcOfS C 0 f b σ = head x ∧ R x = some (e, σ') ∧ μ x < C.fuel) : LoopSim C n f b L := by
  intro σ e σ' h τ hr
  obtain ⟨x, hx, hR, hμ⟩ := hL σ e σ' h
  have key : ∀ (m : Nat) (x : X) (τ : St), R x = some (e, σ') → μ x < m → SSR (head x) (gcOf C 0 f b τ) → ∃ τ', loopA (gcOf C 0 f b) (execA C (callA C n) f 0 (none : Option (Hd Unit)) b) m τ () = some (e, τ', ()) ∧ SSR σ' (gcX C 0 f b e τ') := by
    intro m
    induction m with
    | zero => intro x τ _ hlt; omega
    | succ m ih =>
      intro x τ hR hlt hr
      obtain ⟨eb, σb, h1, h2⟩ := round x e σ' hR
      obtain ⟨τb, h3, h4⟩ := exec_sim hC hS b hb h1 hr
      rcases h2 with ⟨rfl, x', h5, h6, h7⟩ | ⟨hne, rfl, rfl⟩
      · obtain ⟨τ', h8, h9⟩ := ih x' τb h6 (by omega) (by rw [← h5]; exact gcOf_sim h4)
        exact ⟨τ', by simp only [loopA, h3, h8], h9⟩
      · refine ⟨τb, ?_, gcX_sim h4⟩
        simp only [loopA, h3]
        cases e <;> first | exact absurd rfl hne | rfl
  obtain ⟨τ', h1, h2⟩ := key C.fuel x τ hR hμ (by rw [← hx]; exact gcOf_sim hr)
  exact ⟨_, by simp only [execA, h1, Option.map_some], h2⟩

/-! ### Functions -/
omit hC hS in
def FnOK (C : Cfg) (n : Nat) (f : FuncId) (F : List SV → T (SV × SHeap)) : Prop := ∀ args v hb, (F args).run = some (v, hb) → ∀ avs, VRL args avs →
  ∃ v' h', callA C n Unit none f avs [] () = some (v', h', ()) ∧ VR v v' ∧ HR hb h'
omit hC hS in
theorem loadRS_sim {σ : SSt} {τ : St} (hr : HR σ.h τ.h) {c : SV} {a : AV} (hc : VR c a) {t : TypeId} {v : SV} (h : loadRS σ.h C c t = some v) : ∃ u, loadR τ.h C a t = some u ∧ VR v u := by
  unfold loadRS at h
  split at h
  · rename_i ty i s q j hty
    simp only [VR] at hc; subst hc
    split at h
    · rename_i cs hi
      split at h
      · rename_i hcond
        obtain ⟨rfl, rfl⟩ := hcond
        have := hr.2 i
        rw [hi] at this
        obtain ⟨B, hB, hbr⟩ := OR_some this
        obtain ⟨s', es, fl, rfl⟩ := BlkR_row hbr
        simp only [BlkR] at hbr
        obtain ⟨vs, rfl, rfl, hv, -⟩ := hbr
        simp only [loadR, hty, hB, if_true, List.getElem?_cons_zero]
        split at h
        · rename_i hag
          rw [if_pos hag]
          split at h
          · rename_i hle
            cases h
            rw [if_pos (by rw [← VRL_length hv]; exact hle)]
            exact ⟨_, rfl, by simp only [VR]; exact ⟨_, rfl, VRL_take _ (VRL_drop _ hv)⟩⟩
          · cases h
        · rename_i hag
          rw [if_neg hag]
          obtain ⟨u, hu, hr⟩ := VRL_get hv h
          exact ⟨u, hu, hr⟩
      · cases h
    · cases h
  · cases h
omit hC hS in
theorem getD_sim {ts : List SV} {as : List AV} (h : VRL ts as) (t : Nat) : VR ((ts[t]?).getD .und) ((as[t]?).getD .und) := by
  cases ht : ts[t]? with
  | none => rw [VRL_none h ht]; simp only [Option.getD_none, VR]
  | some c =>
    obtain ⟨v, hv, hr⟩ := VRL_get h ht
    rw [hv]; exact hr
omit hC hS in
theorem resultsS_sim {σ : SSt} {τ : St} (hr : SSR σ τ) : ∀ (rs : List ResultVar) {vs : List SV}, resultsS C σ rs = some vs → ∃ us, resultsA C τ rs = some us ∧ VRL vs us
  | [], vs, h => by
    simp only [resultsS, Option.some.injEq] at h; subst h
    exact ⟨[], rfl, VRL_nil⟩
  | .tmp t :: rs, vs, h => by
    simp only [resultsS] at h
    split at h
    · rename_i vs' h'
      cases h
      obtain ⟨us, h1, h2⟩ := resultsS_sim hr rs h'
      exact ⟨_, by simp only [resultsA, h1] <;> rfl, VRL_cons (getD_sim hr.1 t) h2⟩
    · cases h
  | .cell a t :: rs, vs, h => by
    simp only [resultsS] at h
    split at h
    · rename_i v vs' hv h'
      cases h
      obtain ⟨us, h1, h2⟩ := resultsS_sim hr rs h'
      obtain ⟨u, h3, h4⟩ := loadRS_sim hr.2 (getD_sim hr.1 a) hv
      exact ⟨_, by simp only [resultsA, h1, h3] <;> rfl, VRL_cons h4 h2⟩
    · cases h
omit hC hS in
theorem one_sim {vs : List SV} {us : List AV} (h : VRL vs us) : VR (oneOfS vs) (oneOf us) := by
  match vs, us, h with
  | [], us, h => simp only [VRL] at h; subst h; simp only [oneOfS, oneOf, VR]; exact ⟨[], rfl, VRL_nil⟩
  | [v], us, h =>
    simp only [VRL] at h
    obtain ⟨u, us', rfl, h1, rfl⟩ := h
    simpa only [oneOfS, oneOf] using h1
  | v :: v' :: vs, us, h =>
    have hh := h
    simp only [VRL] at h
    obtain ⟨u, us', rfl, h1, u2, us2, rfl, h2, h3⟩ := h
    simp only [oneOfS, oneOf, VR]
    exact ⟨_, rfl, hh⟩
omit hC hS in
theorem finish_sim {fn : Func} {σ : SSt} {τ : St} (hr : SSR σ τ) {v : SV} {hb : SHeap} (h : finishS C fn σ = some (v, hb)) : ∃ v' h', finishA C 0 fn τ = some (v', h') ∧ VR v v' ∧ HR hb h' := by
  unfold finishS at h
  split at h
  · cases h
  rename_i vs hvs
  cases h
  obtain ⟨us, h1, h2⟩ := resultsS_sim hr _ hvs
  have h3 := one_sim h2
  have hg := gcList_eq (k := 0) (VRL_cons h3 VRL_nil) hr.2
  refine ⟨_, _, by simp only [finishA, h1] <;> rfl, ?_, ?_⟩
  · rw [hg]; exact mv_sim false true _ deep _ _ h3
  · rw [hg]; exact gcHeap_sim false true _ hr.2
theorem call_sim {fn : Func} {c : Code} (hfn : C.P.funcs[f]? = some fn) (hbody : fn.body = some c) (hl : LoopsOK C tab n f c) : FnOK C (n + 1) f (callS C tab f) := by
  intro args v hb h avs hv
  unfold callS at h
  rw [hfn] at h
  simp only [hbody, T.run_bind, Option.bind_eq_some_iff] at h
  obtain ⟨⟨e, σ⟩, h1, h2⟩ := h
  obtain ⟨τ, h3, h4⟩ := exec_sim hC hS c hl (τ := { tmps := avs ++ List.replicate (fn.ntmps - avs.length) .und, h := [] }) h1 ⟨by rw [← VRL_length hv]; exact VRL_append hv (VRL_replicate _), rfl, fun i => by simp only [sget, hget, List.getElem?_nil]; trivial⟩
  unfold callA
  simp only [hfn, hbody, List.length_nil, h3]
  cases e with
  | exit id => cases h2
  | normal =>
    simp only [T.run_ofO] at h2
    obtain ⟨v', h', h5, h6, h7⟩ := finish_sim h4 h2
    exact ⟨v', h', by simp only [h5, Option.map_some], h6, h7⟩
  | ret =>
    simp only [T.run_ofO] at h2
    obtain ⟨v', h', h5, h6, h7⟩ := finish_sim h4 h2
    exact ⟨v', h', by simp only [h5, Option.map_some], h6, h7⟩
end

/-! ### Tables -/
abbrev SpL := List (FuncId × (List SV → T (SV × SHeap)))
abbrev LpL := List (Nat × (SSt → T (Ex × SSt)))
def spOf : SpL → FuncId → Option (List SV → T (SV × SHeap))
  | [], _ => none
  | p :: ps, f => if p.1 = f then some p.2 else spOf ps f
def lpOf : LpL → Nat → Option (SSt → T (Ex × SSt))
  | [], _ => none
  | p :: ps, k => if p.1 = k then some p.2 else lpOf ps k
def mkTab (sp : SpL) (lp : LpL) : Tab := ⟨spOf sp, fun _ k => lpOf lp k⟩
def AllOK (C : Cfg) (n : Nat) : SpL → Prop
  | [] => True
  | p :: ps => FnOK C n p.1 p.2 ∧ AllOK C n ps
theorem spOK_of {C : Cfg} {n : Nat} {sp : SpL} {lp : LpL} (h : AllOK C n sp) : SpOK C (mkTab sp lp) n := by
  intro f F hF
  simp only [mkTab] at hF
  induction sp with
  | nil => cases hF
  | cons p ps ih =>
    simp only [spOf] at hF
    split at hF
    · rename_i e
      cases hF
      subst e
      exact h.1
    · exact ih h.2 hF
/-- Weaker words for the same. -/
theorem FnOK.mono {C : Cfg} {n : Nat} {f : FuncId} {F F' : List SV → T (SV × SHeap)} (h : FnOK C n f F) (hF : ∀ args v hb, (F' args).run = some (v, hb) → (F args).run = some (v, hb)) : FnOK C n f F' :=
  fun args v hb hr => h args v hb (hF args v hb hr)
end Go.Lite
