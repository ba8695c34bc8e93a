import Derived.Test.YtlofnkkokcihnaaLiteFun
namespace Go.Lite

theorem sliceA_congr {size : Nat} {E E' : Operand → AV} {x : AV} {lo hi mx : Option Operand} (hl : ∀ y, lo = some y → E y = E' y) (hh : ∀ y, hi = some y → E y = E' y) (hm : ∀ y, mx = some y → E y = E' y) : sliceA size E x lo hi mx = sliceA size E' x lo hi mx := by
  have e : ∀ (o : Option Operand) (d m : Nat), (∀ y, o = some y → E y = E' y) → evO E o d m = evO E' o d m := fun o d m h => by
    cases o with
    | none => rfl
    | some y => simp only [evO, h y rfl]
  unfold sliceA
  simp only [e _ _ _ hl, e _ _ _ hh, e _ _ _ hm]
theorem planB_congr {C : Cfg} {E E' : Operand → AV} {b : Builtin} {args : List Operand} {ts : List TypeId} (h : ∀ x ∈ args, E x = E' x) : planB C E b args ts = planB C E' b args ts := by
  unfold planB
  split
  case h_2 =>
    have hm := List.map_congr_left (fun x hx => h x (List.mem_cons_of_mem _ hx))
    simp only [h _ List.mem_cons_self, hm]
  case h_3 =>
    have hm := List.map_congr_left (fun x hx => h x (List.mem_cons_of_mem _ hx))
    simp only [h _ List.mem_cons_self, hm]
  all_goals simp_all
theorem plan_congr {C : Cfg} {E E' : Operand → AV} {o : Oper} (h : ∀ x ∈ o.op.operands, E x = E' x) : plan C E o = plan C E' o := by
  unfold plan
  cases hop : o.op <;> simp only [hop, Op.operands] at h <;> first | rfl | skip
  case slice t x lo hi mx =>
    simp only
    have hs : ∀ size z, sliceA size E z lo hi mx = sliceA size E' z lo hi mx := fun size z => sliceA_congr (fun y hy => h y (by simp [hy])) (fun y hy => h y (by simp [hy])) (fun y hy => h y (by simp [hy]))
    simp only [h x (by simp), hs]
  case build t ps =>
    have hm : (ps.toList.map fun p => (p.1, E p.2)) = ps.toList.map fun p => (p.1, E' p.2) := List.map_congr_left fun p hp => by rw [h p.2 (by simp; exact ⟨p.1, by simpa using hp⟩)]
    simp only [hm]
  case buildSlice t n ps =>
    have hm : (ps.toList.map fun p => (p.1, E p.2)) = ps.toList.map fun p => (p.1, E' p.2) := List.map_congr_left fun p hp => by rw [h p.2 (by simp; exact ⟨p.1, by simpa using hp⟩)]
    simp only [hm]
  case makeFunc fn a c =>
    have h1 : a.toList.map E = a.toList.map E' := List.map_congr_left fun x hx => h x (by simp; exact .inl (by simpa using hx))
    have h2 : c.toList.map E = c.toList.map E' := List.map_congr_left fun x hx => h x (by simp; exact .inr (by simpa using hx))
    simp only [h1, h2]
  case call c =>
    simp only
    have ha : ∀ x ∈ c.args.toList, E x = E' x := fun x hx => h x (by simp [Call.operands]; exact .inr (by simpa using hx))
    have hm : c.args.toList.map E = c.args.toList.map E' := List.map_congr_left ha
    cases hc : c.callee with
    | builtin b => simp only [planB_congr ha]
    | invoke _ _ => rfl
    | value f =>
      have hf : E f = E' f := h f (by simp [Call.operands, hc])
      simp only [hf, hm]
  all_goals simp_all

/-! ### Heaps as functions -/
def gups (g : Nat → Option Blk) : List (Nat × Option Blk) → Nat → Option Blk
  | [] => g
  | (i, b) :: r => gups (fun j => if i = j then b else g j) r
def gput (g : Nat → Option Blk) (ups : List (Nat × Option Blk)) (at_ : Nat) (news : Heap) : Nat → Option Blk := fun j => if at_ ≤ j ∧ j < at_ + news.length then hget news (j - at_) else gups g ups j
theorem hget_gups : ∀ (ups : List (Nat × Option Blk)) (h : Heap), hget (hups h ups) = gups (hget h) ups
  | [], h => rfl
  | (i, b) :: r, h => by
    rw [hups, gups, hget_gups r]
    congr 1
    funext j
    rw [hget_hset]
theorem hget_gput (h : Heap) (ups : List (Nat × Option Blk)) (at_ : Nat) (news : Heap) : hget (hputs (hups h ups) at_ news) = gput (hget h) ups at_ news := by
  funext j
  rw [hget_hputs, hget_gups]
  rfl
theorem gups_out : ∀ (ups : List (Nat × Option Blk)) (g : Nat → Option Blk) (j : Nat), (∀ p ∈ ups, p.1 ≠ j) → gups g ups j = g j
  | [], g, j, _ => rfl
  | (i, b) :: r, g, j, h => by
    rw [gups, gups_out r _ j (fun p hp => h p (by simp [hp])), if_neg (h (i, b) (by simp))]
theorem gups_in : ∀ (ups : List (Nat × Option Blk)) (g g' : Nat → Option Blk) (j : Nat), (∃ p ∈ ups, p.1 = j) → gups g ups j = gups g' ups j
  | [], _, _, j, h => by obtain ⟨p, hp, _⟩ := h; cases hp
  | (i, b) :: r, g, g', j, h => by
    rw [gups, gups]
    by_cases hr : ∃ p ∈ r, p.1 = j
    · exact gups_in r _ _ j hr
    · have hr' : ∀ p ∈ r, p.1 ≠ j := fun p hp e => hr ⟨p, hp, e⟩
      rw [gups_out r _ j hr', gups_out r _ j hr']
      obtain ⟨p, hp, e⟩ := h
      rcases List.mem_cons.1 hp with rfl | hp
      · simp only at e; rw [if_pos e, if_pos e]
      · exact absurd ⟨p, hp, e⟩ hr
/-- Updates in different places. -/
theorem gput_comm {g : Nat → Option Blk} {u1 u2 : List (Nat × Option Blk)} {a1 a2 : Nat} {n1 n2 : Heap} (hr : a1 + n1.length ≤ a2 ∨ a2 + n2.length ≤ a1) (h12 : ∀ p ∈ u1, ∀ q ∈ u2, p.1 ≠ q.1)
    (h1 : ∀ p ∈ u1, ¬ (a2 ≤ p.1 ∧ p.1 < a2 + n2.length)) (h2 : ∀ p ∈ u2, ¬ (a1 ≤ p.1 ∧ p.1 < a1 + n1.length)) : gput (gput g u1 a1 n1) u2 a2 n2 = gput (gput g u2 a2 n2) u1 a1 n1 := by
  have P : ∀ (g : Nat → Option Blk) u a n j, gput g u a n j = if a ≤ j ∧ j < a + n.length then hget n (j - a) else gups g u j := fun _ _ _ _ _ => rfl
  funext j
  rw [P, P]
  by_cases c1 : a1 ≤ j ∧ j < a1 + n1.length
  · have c2 : ¬ (a2 ≤ j ∧ j < a2 + n2.length) := by omega
    rw [if_neg c2, if_pos c1, gups_out u2 _ j (fun p hp e => h2 p hp (e ▸ c1)), P, if_pos c1]
  · by_cases c2 : a2 ≤ j ∧ j < a2 + n2.length
    · rw [if_pos c2, if_neg c1, gups_out u1 _ j (fun p hp e => h1 p hp (e ▸ c2)), P, if_pos c2]
    · rw [if_neg c2, if_neg c1]
      by_cases k1 : ∃ p ∈ u1, p.1 = j
      · have k2 : ∀ q ∈ u2, q.1 ≠ j := fun q hq e => by
          obtain ⟨p, hp, e'⟩ := k1
          exact h12 p hp q hq (e'.trans e.symm)
        rw [gups_out u2 _ j k2, P, if_neg c1]
        exact gups_in u1 _ _ j k1
      · have k1' : ∀ p ∈ u1, p.1 ≠ j := fun p hp e => k1 ⟨p, hp, e⟩
        rw [gups_out u1 _ j k1', P, if_neg c2]
        by_cases k2 : ∃ q ∈ u2, q.1 = j
        · exact gups_in u2 _ _ j k2
        · have k2' : ∀ q ∈ u2, q.1 ≠ j := fun p hp e => k2 ⟨p, hp, e⟩
          rw [gups_out u2 _ j k2', gups_out u2 _ j k2', P, if_neg c1, gups_out u1 _ j k1']

/-! ### What an action touches -/
theorem act_zero {C : Cfg} {call : CallT} {S : Type} {H : Option (Hd S)} {at_ : Nat} {look : Nat → Option Blk} {s : S} {ma : MA} {r : Res S} (h : act C call H at_ look s ma = some r) (ht : (touch C ma).cls = 0) :
    r.ups = [] ∧ r.s = s ∧ ∀ look' s', act C call H at_ look' s' ma = some { r with s := s' } := by
  cases ma <;> simp only [touch, reduceCtorEq] at ht
  case pure v => simp only [act, Option.some.injEq] at h; subst h; exact ⟨rfl, rfl, fun _ _ => rfl⟩
  case newp sz e =>
    simp only [act] at h
    split at h
    · rename_i hok; cases h; exact ⟨rfl, rfl, fun _ _ => by simp only [act, hok, if_true]⟩
    · cases h
  case news sz es n cap =>
    simp only [act] at h
    split at h
    · rename_i hok; cases h; exact ⟨rfl, rfl, fun _ _ => by simp only [act, hok, if_true]⟩
    · cases h
  case call f args => split at ht <;> simp at ht
theorem act_keeps {C : Cfg} {call : CallT} {S : Type} {H : Option (Hd S)} {at_ : Nat} {look : Nat → Option Blk} {s : S} {ma : MA} {r : Res S} (h : act C call H at_ look s ma = some r) (ht : (touch C ma).cls ≠ 4) :
    r.s = s ∧ ∀ p ∈ r.ups, (touch C ma).cls = 2 ∧ p.1 ∈ (touch C ma).is := by
  cases ma <;> simp only [touch, ne_eq, not_true_eq_false, reduceCtorEq] at ht
  case pure v => simp only [act, Option.some.injEq] at h; subst h; exact ⟨rfl, fun p hp => by cases hp⟩
  case newp sz e =>
    simp only [act] at h
    split at h
    · cases h; exact ⟨rfl, fun p hp => by cases hp⟩
    · cases h
  case news sz es n cap =>
    simp only [act] at h
    split at h
    · cases h; exact ⟨rfl, fun p hp => by cases hp⟩
    · cases h
  case load i sz k j agg n =>
    simp only [act] at h
    repeat' (split at h)
    all_goals first
      | (cases h; done)
      | (cases h; exact ⟨rfl, fun p hp => by cases hp⟩)
  case store i sz k j cs =>
    simp only [act] at h
    repeat' (split at h)
    all_goals first
      | (cases h; done)
      | (cases h; exact ⟨rfl, fun p hp => by simp only [List.mem_singleton] at hp; subst hp; exact ⟨rfl, by simp [touch]⟩⟩)
  case append a x sz by_ =>
    simp only [act] at h
    repeat' (split at h)
    all_goals first
      | (cases h; done)
      | (cases h
         refine ⟨rfl, fun p hp => ?_⟩
         first
           | exact absurd hp List.not_mem_nil
           | (simp only [List.mem_singleton] at hp; subst hp; exact ⟨rfl, by simp [touch, sid]⟩))
  case copy d x ss =>
    simp only [act] at h
    repeat' (split at h)
    all_goals first
      | (cases h; done)
      | (cases h
         refine ⟨rfl, fun p hp => ?_⟩
         first
           | exact absurd hp List.not_mem_nil
           | (simp only [List.mem_singleton] at hp; subst hp; exact ⟨rfl, by simp [touch, sid]⟩))
  case call f args =>
    simp only [act] at h
    split at h
    · rw [Option.map_eq_some_iff] at h
      obtain ⟨v, _, rfl⟩ := h
      exact ⟨rfl, fun p hp => by cases hp⟩
    · rename_i he
      split at h
      · split at h
        · cases h; exact ⟨rfl, fun p hp => by cases hp⟩
        · cases h
      · rename_i hw
        exfalso
        rw [he] at ht
        cases hwf : C.wr f with
        | nil => exact hw hwf
        | cons b bs => rw [hwf] at ht; exact ht rfl
theorem any_symm (xs ys : List Nat) : xs.any (ys.contains ·) = ys.any (xs.contains ·) := by
  rw [Bool.eq_iff_iff]
  simp only [List.any_eq_true, List.contains_iff_mem]
  exact ⟨fun ⟨x, h1, h2⟩ => ⟨x, h2, h1⟩, fun ⟨x, h1, h2⟩ => ⟨x, h2, h1⟩⟩
theorem clash_symm (a b : Touch) : clash a b = clash b a := by
  obtain ⟨ca, ia⟩ := a
  obtain ⟨cb, ib⟩ := b
  rcases ca with _ | _ | _ | _ | _ | ca <;> rcases cb with _ | _ | _ | _ | _ | cb <;> first | rfl | exact any_symm ia ib

/-! ### Runs with the places told -/
structure It where
  o : Oper
  i : Nat
  a : Nat
  n : Nat
def lookOf (m : Nat) (done : List Done) (dep : Nat) (t : Touch) (g : Nat → Option Blk) : Nat → Option Blk :=
  fun id => if visible m done dep id && (decide (t.cls = 3 ∨ t.cls = 4) || t.is.contains id) then g id else none
def RunX (C : Cfg) (call : CallT) {S : Type} (H : Option (Hd S)) (ops : Array Oper) (deps : Array Nat) (m : Nat) (ts' : List AV) (g' : Nat → Option Blk) (s' : S) : List It → List Done → List AV → (Nat → Option Blk) → S → Prop
  | [], _, ts, g, s => ts = ts' ∧ g = g' ∧ s = s'
  | x :: L, done, ts, g, s =>
    (wantedA ops ts x.o = some false ∧ x.n = 0 ∧ RunX C call H ops deps m ts' g' s' L done (put x.o.dst .und ts) g s) ∨
    (wantedA ops ts x.o = some true ∧ ∃ ma r, plan C (ev ts) x.o = some ma ∧ (∀ d ∈ done, (deps.getD x.i 0).testBit d.i = true ∨ clash d.t (touch C ma) = false) ∧
      act C call H x.a (lookOf m done (deps.getD x.i 0) (touch C ma) g) s ma = some r ∧ r.news.length = x.n ∧
      RunX C call H ops deps m ts' g' s' L (⟨x.i, touch C ma, x.a, x.n⟩ :: done) (put x.o.dst r.v ts) (gput g r.ups x.a r.news) r.s)

section
variable {C : Cfg} {call : CallT} {S : Type} {H : Option (Hd S)} {ops : Array Oper} {deps : Array Nat} {m : Nat} {ts' : List AV} {g' : Nat → Option Blk} {s' : S}
theorem visible_mem {done done' : List Done} (h : ∀ d, d ∈ done ↔ d ∈ done') (dep id : Nat) : visible m done dep id = visible m done' dep id := by
  unfold visible
  congr 1
  rw [Bool.eq_iff_iff]
  simp only [List.any_eq_true]
  exact ⟨fun ⟨d, hd, e⟩ => ⟨d, (h d).1 hd, e⟩, fun ⟨d, hd, e⟩ => ⟨d, (h d).2 hd, e⟩⟩
theorem RunX.mem : ∀ {L : List It} {done done' : List Done} {ts : List AV} {g : Nat → Option Blk} {s : S}, (∀ d, d ∈ done ↔ d ∈ done') → RunX C call H ops deps m ts' g' s' L done ts g s → RunX C call H ops deps m ts' g' s' L done' ts g s
  | [], _, _, _, _, _, _, h => h
  | x :: L, done, done', ts, g, s, hd, h => by
    rcases h with ⟨h1, h2, h3⟩ | ⟨h1, ma, r, h2, h3, h4, h5, h6⟩
    · exact .inl ⟨h1, h2, h3.mem hd⟩
    · refine .inr ⟨h1, ma, r, h2, fun d hd' => h3 d ((hd d).2 hd'), ?_, h5, h6.mem (fun d => by simp only [List.mem_cons, hd d])⟩
      have : lookOf m done' (deps.getD x.i 0) (touch C ma) g = lookOf m done (deps.getD x.i 0) (touch C ma) g := by
        funext id
        simp only [lookOf, visible_mem hd]
      rw [this]; exact h4

theorem runD_X {σ' : St} : ∀ (L : List (Oper × Nat)) (done : List Done) (σ : St) (s : S), runD C call H ops deps m L done σ s = some (σ', s') →
    ∃ its : List It, its.map (fun x => (x.o, x.i)) = L ∧ RunX C call H ops deps m σ'.tmps (hget σ'.h) s' its done σ.tmps (hget σ.h) s ∧ σ.h.length ≤ σ'.h.length ∧
      (∀ x ∈ its, σ.h.length ≤ x.a ∧ x.a + x.n ≤ σ'.h.length) ∧ its.Pairwise (fun x y => x.a + x.n ≤ y.a)
  | [], done, σ, s, h => by
    simp only [runD, Option.some.injEq, Prod.mk.injEq] at h
    obtain ⟨rfl, rfl⟩ := h
    exact ⟨[], rfl, ⟨rfl, rfl, rfl⟩, Nat.le_refl _, (fun x hx => by cases hx), List.Pairwise.nil⟩
  | (o, i) :: L, done, σ, s, h => by
    simp only [runD] at h
    split at h
    · cases h
    · rename_i hw
      obtain ⟨its, h1, h2, h3, h4, h5⟩ := runD_X L done _ s h
      refine ⟨⟨o, i, σ.h.length, 0⟩ :: its, by simp [h1], .inl ⟨hw, rfl, h2⟩, h3, fun x hx => ?_, List.pairwise_cons.2 ⟨fun x hx => (h4 x hx).1, h5⟩⟩
      rcases List.mem_cons.1 hx with rfl | hx
      · exact ⟨Nat.le_refl _, h3⟩
      · exact h4 x hx
    · rename_i hw
      split at h
      · cases h
      rename_i ma hp
      split at h
      · cases h
      rename_i hcl
      split at h
      · cases h
      rename_i r ha
      obtain ⟨its, h1, h2, h3, h4, h5⟩ := runD_X L _ _ _ h
      simp only at h2 h3 h4
      have hlen : σ.h.length + r.news.length ≤ (hputs (hups σ.h r.ups) σ.h.length r.news).length := by
        by_cases hn : r.news = []
        · rw [hn]; exact Nat.le_trans (length_hups _ _) (length_hputs _ _ _)
        · exact length_hputs_ge _ _ _ hn
      refine ⟨⟨o, i, σ.h.length, r.news.length⟩ :: its, by simp [h1], .inr ⟨hw, ma, r, hp, fun d hd => ?_, ha, rfl, ?_⟩, by omega, fun x hx => ?_, List.pairwise_cons.2 ⟨fun x hx => by have := (h4 x hx).1; simp only; omega, h5⟩⟩
      · apply Classical.byContradiction
        intro hne
        rw [not_or] at hne
        refine hcl (List.any_eq_true.2 ⟨d, hd, ?_⟩)
        simp only [Bool.and_eq_true, Bool.not_eq_true']
        exact ⟨by simpa using hne.1, by simpa using hne.2⟩
      · rw [← hget_gput]; exact h2
      · rcases List.mem_cons.1 hx with rfl | hx
        · exact ⟨Nat.le_refl _, by simp only; omega⟩
        · have := h4 x hx
          exact ⟨by omega, this.2⟩

theorem reach_some {look : Nat → Option Blk} : ∀ (f : Nat) (q acc : List Nat) (i : Nat), i ∈ reach look f q acc → i ∈ acc ∨ (look i).isSome = true
  | 0, q, acc, i, h => by cases q <;> simp only [reach, List.mem_reverse] at h <;> exact .inl h
  | f + 1, [], acc, i, h => by simp only [reach, List.mem_reverse] at h; exact .inl h
  | f + 1, j :: q, acc, i, h => by
    unfold reach at h
    split at h
    · exact reach_some f q acc i h
    · split at h
      · exact reach_some f q acc i h
      · rename_i b hb
        rcases reach_some f _ _ i h with h | h
        · rcases List.mem_cons.1 h with rfl | h
          · exact .inr (by rw [hb]; rfl)
          · exact .inl h
        · exact .inr h
/-- What is written to was looked at. -/
theorem act_seen {at_ : Nat} {look : Nat → Option Blk} {s : S} {ma : MA} {r : Res S} (h : act C call H at_ look s ma = some r) : ∀ p ∈ r.ups, (look p.1).isSome = true := by
  have hb : ∀ (flags : List Bool) (args : List AV) (nh : Heap), ∀ p ∈ (handBack (handIn look flags args).1 at_ nh).1, (look p.1).isSome = true := by
    intro flags args nh p hp
    have : p.1 ∈ (handIn look flags args).1 := by
      rw [← handBack_keys (handIn look flags args).1 at_ nh]
      exact List.mem_map_of_mem (f := fun p : Nat × Option Blk => p.1) hp
    exact (reach_some _ _ _ _ this).resolve_left (fun h => by cases h)
  cases ma <;> simp only [act, reduceCtorEq] at h
  all_goals
    repeat' (split at h)
    all_goals first
      | (cases h; done)
      | (rw [Option.map_eq_some_iff] at h; obtain ⟨v, _, rfl⟩ := h; exact fun p hp => absurd hp List.not_mem_nil)
      | (cases h; exact fun p hp => absurd hp List.not_mem_nil)
      | (cases h; exact hb _ _ _)
      | (cases h
         intro p hp
         simp only [List.mem_singleton] at hp
         subst hp
         simp [*])

/-! ### Two that may change places -/
theorem put_comm {ts : List AV} {x y : Option Tmp} (u v : AV) (h : ∀ d, x = some d → y ≠ some d) : put y v (put x u ts) = put x u (put y v ts) := by
  cases x with
  | none => rfl
  | some d =>
    cases y with
    | none => rfl
    | some e =>
      simp only [put]
      exact List.set_comm _ _ (fun e' => h d rfl (by rw [e']))
theorem ev_put {ts : List AV} {dst : Option Tmp} {v : AV} {x : Operand} (h : ∀ d, dst = some d → x ≠ .tmp d) : ev (put dst v ts) x = ev ts x := by
  cases dst with
  | none => rfl
  | some d =>
    cases x with
    | tmp t =>
      have hne : d ≠ t := fun e => h d rfl (by rw [e])
      simp only [ev, put]
      rw [List.getElem?_set_ne hne]
    | _ => rfl
theorem plan_put {ts : List AV} {o : Oper} {dst : Option Tmp} {v : AV} (h : ∀ d, dst = some d → d ∉ o.looksAt ops) : plan C (ev (put dst v ts)) o = plan C (ev ts) o :=
  plan_congr fun x hx => ev_put fun d hd hxd => h d hd (by
    subst hxd
    exact List.mem_append_left _ (List.mem_filterMap.2 ⟨.tmp d, by simpa using hx, rfl⟩))
theorem wanted_put' {ts : List AV} {o : Oper} {dst : Option Tmp} {v : AV} (h : ∀ d, dst = some d → d ∉ o.looksAt ops) : wantedA ops (put dst v ts) o = wantedA ops ts o := by
  unfold wantedA
  cases hg : o.guard with
  | none => rfl
  | some p =>
    obtain ⟨j, want⟩ := p
    simp only
    cases hd : (ops[j]?).bind (·.dst) with
    | none => rfl
    | some t =>
      simp only [Option.bind_some]
      cases dst with
      | none => rfl
      | some d =>
        have hne : d ≠ t := fun e => h d rfl (by
          refine List.mem_append_right _ ?_
          simp only [hg]
          rw [hd, e]; simp)
        simp only [put]
        rw [List.getElem?_set_ne hne]

theorem act_at {at_ : Nat} {l1 l2 : Nat → Option Blk} {s1 s2 : S} {ma : MA} {r : Res S} (h : act C call H at_ l1 s1 ma = some r) (hl : (touch C ma).cls ≠ 0 → l2 = l1 ∧ s2 = s1) :
    ∃ r', act C call H at_ l2 s2 ma = some r' ∧ r'.v = r.v ∧ r'.ups = r.ups ∧ r'.news = r.news ∧ (r'.s = if (touch C ma).cls = 0 then s2 else r.s) := by
  by_cases h0 : (touch C ma).cls = 0
  · obtain ⟨_, _, h3⟩ := act_zero h h0
    exact ⟨_, h3 l2 s2, rfl, rfl, rfl, by rw [if_pos h0]⟩
  · obtain ⟨rfl, rfl⟩ := hl h0
    exact ⟨r, h, rfl, rfl, rfl, by rw [if_neg h0]⟩
theorem clash_four {a b : Touch} (h : clash a b = false) : a.cls = 0 ∨ b.cls = 0 ∨ (a.cls ≠ 4 ∧ b.cls ≠ 4) := by
  obtain ⟨ca, ia⟩ := a
  obtain ⟨cb, ib⟩ := b
  rcases ca with _ | _ | _ | _ | _ | ca <;> rcases cb with _ | _ | _ | _ | _ | cb <;> simp_all [clash]
theorem clash_two {a b : Touch} (h : clash a b = false) (ha : a.cls = 2) (hb : b.cls ≠ 0) : b.cls ≠ 3 ∧ b.cls ≠ 4 ∧ ∀ i, i ∈ a.is → i ∉ b.is := by
  obtain ⟨ca, ia⟩ := a
  obtain ⟨cb, ib⟩ := b
  simp only at ha hb
  subst ha
  rcases cb with _ | _ | _ | _ | _ | cb <;> simp_all [clash]
theorem lookOf_gput {tx ty : Touch} (hc : clash tx ty = false) (hy : ty.cls ≠ 0) {u : List (Nat × Option Blk)} (hu : ∀ p ∈ u, tx.cls = 2 ∧ p.1 ∈ tx.is) {done : List Done} {X : Done} {dep : Nat} (hb : dep.testBit X.i = false)
    {a : Nat} {news : Heap} (hv : ∀ id, visible m done dep id = true → ¬ (a ≤ id ∧ id < a + news.length)) (g : Nat → Option Blk) : lookOf m (X :: done) dep ty (gput g u a news) = lookOf m done dep ty g := by
  funext id
  have hvis : visible m (X :: done) dep id = visible m done dep id := by simp [visible, hb]
  simp only [lookOf, hvis]
  split
  · rename_i h
    simp only [Bool.and_eq_true, Bool.or_eq_true, decide_eq_true_eq, List.contains_iff_mem] at h
    simp only [gput, if_neg (hv id h.1)]
    refine gups_out u g id fun p hp e => ?_
    obtain ⟨h1, h2⟩ := hu p hp
    obtain ⟨h3, h4, h5⟩ := clash_two hc h1 hy
    subst e
    rcases h.2 with h' | h'
    · exact h'.elim h3 h4
    · exact h5 _ h2 h'
  · rfl
theorem visible_out {done : List Done} {dep a n : Nat} (hm : m ≤ a) (hd : ∀ d ∈ done, d.a + d.n ≤ a ∨ a + n ≤ d.a) : ∀ id, visible m done dep id = true → ¬ (a ≤ id ∧ id < a + n) := by
  intro id h
  simp only [visible, Bool.or_eq_true, decide_eq_true_eq, List.any_eq_true, Bool.and_eq_true] at h
  rcases h with h | ⟨d, hd', _, h1, h2⟩
  · omega
  · have := hd d hd'; omega

theorem RunX.swap {x y : It} {L : List It} {done : List Done} {ts : List AV} {g : Nat → Option Blk} {s : S} (hxy : (deps.getD y.i 0).testBit x.i = false) (hyx : (deps.getD x.i 0).testBit y.i = false) (hap : y.o.apart ops x.o = true)
    (hr : x.a + x.n ≤ y.a ∨ y.a + y.n ≤ x.a) (hmx : m ≤ x.a) (hmy : m ≤ y.a) (hdx : ∀ d ∈ done, d.a + d.n ≤ x.a ∨ x.a + x.n ≤ d.a) (hdy : ∀ d ∈ done, d.a + d.n ≤ y.a ∨ y.a + y.n ≤ d.a)
    (h : RunX C call H ops deps m ts' g' s' (x :: y :: L) done ts g s) : RunX C call H ops deps m ts' g' s' (y :: x :: L) done ts g s := by
  obtain ⟨a1, a2, a3⟩ := Oper.apart_spec hap
  rcases h with ⟨x1, x2, h⟩ | ⟨x1, max, rx, x2, x3, x4, x5, h⟩
  · rcases h with ⟨y1, y2, h⟩ | ⟨y1, may, ry, y2, y3, y4, y5, h⟩
    · rw [wanted_put' a3] at y1
      refine .inl ⟨y1, y2, .inl ⟨by rw [wanted_put' a1]; exact x1, x2, ?_⟩⟩
      rw [put_comm _ _ a2]; exact h
    · rw [wanted_put' a3] at y1
      rw [plan_put a3] at y2
      refine .inr ⟨y1, may, ry, y2, y3, y4, y5, .inl ⟨by rw [wanted_put' a1]; exact x1, x2, ?_⟩⟩
      rw [put_comm _ _ a2]; exact h
  · rcases h with ⟨y1, y2, h⟩ | ⟨y1, may, ry, y2, y3, y4, y5, h⟩
    · rw [wanted_put' a3] at y1
      refine .inl ⟨y1, y2, .inr ⟨by rw [wanted_put' a1]; exact x1, max, rx, by rw [plan_put a1]; exact x2, x3, x4, x5, ?_⟩⟩
      rw [put_comm _ _ a2]; exact h
    · rw [wanted_put' a3] at y1
      rw [plan_put a3] at y2
      have hclash : clash (touch C max) (touch C may) = false := (y3 _ List.mem_cons_self).resolve_left (by simp only [hxy]; exact Bool.false_ne_true)
      have hclash' : clash (touch C may) (touch C max) = false := by rw [clash_symm]; exact hclash
      have h4 := clash_four hclash
      have ux : (touch C may).cls ≠ 0 → ∀ p ∈ rx.ups, (touch C max).cls = 2 ∧ p.1 ∈ (touch C max).is := fun hne p hp => by
        rcases h4 with h | h | h
        · rw [(act_zero x4 h).1] at hp; cases hp
        · exact absurd h hne
        · exact (act_keeps x4 h.1).2 p hp
      have uy : (touch C max).cls ≠ 0 → ∀ p ∈ ry.ups, (touch C may).cls = 2 ∧ p.1 ∈ (touch C may).is := fun hne p hp => by
        rcases h4 with h | h | h
        · exact absurd h hne
        · rw [(act_zero y4 h).1] at hp; cases hp
        · exact (act_keeps y4 h.2).2 p hp
      have vx := visible_out (dep := deps.getD y.i 0) hmx hdx
      have vy := visible_out (dep := deps.getD x.i 0) hmy hdy
      have ly : (touch C may).cls ≠ 0 → lookOf m (⟨x.i, touch C max, x.a, x.n⟩ :: done) (deps.getD y.i 0) (touch C may) (gput g rx.ups x.a rx.news) = lookOf m done (deps.getD y.i 0) (touch C may) g := fun hne =>
        lookOf_gput hclash hne (ux hne) hxy (by rw [x5]; exact vx) g
      have hsx : (touch C may).cls ≠ 0 → rx.s = s := fun hne => by
        rcases h4 with h | h | h
        · exact (act_zero x4 h).2.1
        · exact absurd h hne
        · exact (act_keeps x4 h.1).1
      have hsy : (touch C max).cls ≠ 0 → ry.s = rx.s := fun hne => by
        rcases h4 with h | h | h
        · exact absurd h hne
        · exact (act_zero y4 h).2.1
        · exact (act_keeps y4 h.2).1
      obtain ⟨ry', y4', hyv, hyu, hyn, hys⟩ := act_at (l2 := lookOf m done (deps.getD y.i 0) (touch C may) g) (s2 := s) y4 (fun hne => ⟨(ly hne).symm, (hsx hne).symm⟩)
      have lx : (touch C max).cls ≠ 0 → lookOf m (⟨y.i, touch C may, y.a, y.n⟩ :: done) (deps.getD x.i 0) (touch C max) (gput g ry'.ups y.a ry'.news) = lookOf m done (deps.getD x.i 0) (touch C max) g := fun hne =>
        lookOf_gput hclash' hne (by rw [hyu]; exact uy hne) hyx (by rw [hyn, y5]; exact vy) g
      have hs2 : (touch C max).cls ≠ 0 → ry'.s = s := fun hne => by
        rw [hys]; split
        · rfl
        · rename_i hne'; rw [hsy hne, hsx hne']
      obtain ⟨rx', x4', hxv, hxu, hxn, hxs⟩ := act_at (l2 := lookOf m (⟨y.i, touch C may, y.a, y.n⟩ :: done) (deps.getD x.i 0) (touch C max) (gput g ry'.ups y.a ry'.news)) (s2 := ry'.s) x4 (fun hne => ⟨lx hne, hs2 hne⟩)
      refine .inr ⟨y1, may, ry', y2, fun d hd => y3 d (List.mem_cons_of_mem _ hd), y4', by rw [hyn, y5], .inr ⟨by rw [wanted_put' a1]; exact x1, max, rx', by rw [plan_put a1]; exact x2, ?_, x4', by rw [hxn, x5], ?_⟩⟩
      · intro d hd
        rcases List.mem_cons.1 hd with rfl | hd
        · exact .inr hclash'
        · exact x3 d hd
      · have hseen := act_seen x4
        have hseen' := act_seen y4'
        rw [hxv, hxu, hxn, hyv, hyu, hyn, put_comm _ _ a2]
        rw [hyu] at hseen'
        have hg : gput (gput g ry.ups y.a ry.news) rx.ups x.a rx.news = gput (gput g rx.ups x.a rx.news) ry.ups y.a ry.news := by
          refine gput_comm (by rw [x5, y5]; omega) (fun p hp q hq e => ?_) (fun p hp hh => ?_) (fun p hp hh => ?_)
          · rcases h4 with h | h | h
            · rw [(act_zero x4 h).1] at hq; cases hq
            · rw [(act_zero y4 h).1] at hp; cases hp
            · obtain ⟨k1, k2⟩ := (act_keeps y4 h.2).2 p hp
              obtain ⟨k3, k4⟩ := (act_keeps x4 h.1).2 q hq
              obtain ⟨_, _, k5⟩ := clash_two hclash' k1 (by rw [k3]; simp)
              exact k5 _ k2 (e ▸ k4)
          · have := hseen' p hp
            simp only [lookOf] at this
            split at this
            · rename_i hv
              rw [x5] at hh
              exact vx _ (by simp only [Bool.and_eq_true] at hv; exact hv.1) hh
            · cases this
          · have := hseen p hp
            simp only [lookOf] at this
            split at this
            · rename_i hv
              rw [y5] at hh
              exact vy _ (by simp only [Bool.and_eq_true] at hv; exact hv.1) hh
            · cases this
        rw [hg]
        have hs : rx'.s = ry.s := by
          rw [hxs]
          by_cases h0 : (touch C max).cls = 0
          · rw [if_pos h0, hys]
            by_cases h0' : (touch C may).cls = 0
            · rw [if_pos h0', (act_zero y4 h0').2.1, (act_zero x4 h0).2.1]
            · rw [if_neg h0']
          · rw [if_neg h0, hsy h0]
        rw [hs]
        refine h.mem fun d => ?_
        simp only [List.mem_cons]
        constructor <;> rintro (h | h | h) <;> simp [h]
end
end Go.Lite
