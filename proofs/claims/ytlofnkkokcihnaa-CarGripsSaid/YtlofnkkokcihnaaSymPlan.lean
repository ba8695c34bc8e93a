import Derived.Test.YtlofnkkokcihnaaSymRel
namespace Go.Lite

theorem noIds_of1 (v : Value) : noIds (avOf1 v) := noIds_plain fun g => by unfold avOf1; split <;> rfl
theorem svOf1_sim (v : Value) : VR (svOf1 v) (avOf1 v) := by
  unfold svOf1
  split
  all_goals first
    | (simp only [VR]; rfl)
    | (simp only [VR]; exact noIds_of1 _)
theorem svOf1_simL : ∀ (vs : List Value), VRL (vs.map svOf1) (vs.map avOf1)
  | [] => VRL_nil
  | v :: vs => VRL_cons (svOf1_sim v) (svOf1_simL vs)
theorem svOf_sim (v : Value) : VR (svOf v) (avOf v) := by
  unfold svOf avOf
  cases v with
  | agg cs => simp only [VR]; exact ⟨_, rfl, svOf1_simL _⟩
  | _ => exact svOf1_sim _
theorem a2s_sim {a : AV} (h : noIds a) : VR (a2s a) a := by
  cases a with
  | int k n => simp only [a2s, VR]
  | bool b => simp only [a2s, VR]
  | nilp => simp only [a2s, VR]
  | nils => simp only [a2s, VR]
  | nilf => simp only [a2s, VR]
  | nili => simp only [a2s, VR]
  | _ => simp only [a2s, VR]; exact h
theorem a2s_simL : ∀ {as : List AV}, (∀ a ∈ as, noIds a) → VRL (as.map a2s) as
  | [], _ => VRL_nil
  | a :: _, h => VRL_cons (a2s_sim (h a List.mem_cons_self)) (a2s_simL fun b hb => h b (List.mem_cons_of_mem _ hb))
theorem evS_sim {ts : List SV} {as : List AV} (h : VRL ts as) (x : Operand) : VR (evS ts x) (ev as x) := by
  cases x with
  | tmp t =>
    simp only [evS, ev]
    cases ht : ts[t]? with
    | none => rw [VRL_none h ht]; simp only [Option.getD_none, VR]
    | some c =>
      obtain ⟨v, hv, hr⟩ := VRL_get h ht
      rw [hv]; exact hr
  | const v => exact svOf_sim v
  | global g => simp only [evS, ev, VR]; exact noIds_plain fun _ => rfl
  | func f => simp only [evS, ev, VR]; exact ⟨_, _, rfl, VRL_nil, VRL_nil⟩

/-- Zero values are plain. -/
theorem zero_noIds {P : Program} {t : TypeId} {Y : Ty} (hT : tyOf P t = some Y) {z : List AV} (hz : Y.zero = some z) : ∀ a ∈ z, noIds a := by
  unfold tyOf at hT
  split at hT
  · cases hT
    simp only [Option.map_eq_some_iff] at hz
    obtain ⟨v, _, rfl⟩ := hz
    intro a ha
    obtain ⟨u, _, rfl⟩ := List.mem_map.1 ha
    exact noIds_of1 u
  · cases hT

/-- Planned operations. -/
def MR : MS → MA → Prop
  | .pure v, m => ∃ a, m = .pure a ∧ VR v a
  | .newbox cs, m => ∃ vs, m = .newp vs.length vs ∧ VRL cs vs
  | .newrow ks l, m => ∃ es, m = .news ks.length es l.length l.length ∧ EncE ks l es ∧ okE es = true
  | .load i s k j agg n, m => m = .load i s k j agg n
  | .store i s k j cs, m => ∃ vs, m = .store i s k j vs ∧ VRL cs vs
  | .append a x s by_ ks, m => ∃ a' x', m = .append a' x' s by_ ∧ VR a a' ∧ VR x x' ∧ s = ks.length
  | .copy a x s, m => ∃ a' x', m = .copy a' x' s ∧ VR a a' ∧ VR x x'
  | .call f args, m => ∃ as, m = .call f as ∧ VRL args as

theorem VR_asB {x : SV} {a : AV} {b : Bool} (h : VR x a) (hb : x.asB = some b) : a = .bool b := by
  cases x <;> simp only [SV.asB, reduceCtorEq, Option.some.injEq] at hb <;> subst hb <;> simpa only [VR] using h
theorem VR_bool {a : AV} {b : Bool} (h : a = .bool b) : VR (.bool b) a := by simpa only [VR] using h

theorem binIntS_sim {op : BinOp} {k : IntKind} {a b : Int} {v : SV} (h : (binIntS op k a b).run = some v) : ∃ u, binInt op k a b = some u ∧ VR v u := by
  cases op <;> simp only [binIntS, T.run, Option.some.injEq, reduceCtorEq] at h <;> simp only [binInt]
  case quo =>
    split at h
    · rename_i hb; cases h
      have : ¬ b = 0 := by simpa using hb
      exact ⟨_, by rw [if_neg this], by simp only [VR]⟩
    · cases h
  case rem =>
    split at h
    · rename_i hb; cases h
      have : ¬ b = 0 := by simpa using hb
      exact ⟨_, by rw [if_neg this], by simp only [VR]⟩
    · cases h
  all_goals (subst h; exact ⟨_, rfl, by simp only [VR]⟩)
theorem eqCellsS_sim : ∀ {ks : List Bool} {xs ys : List SV} {xs' ys' : List AV} {r : Bool}, eqCellsS ks xs ys = some r → VRL xs xs' → VRL ys ys' → eqCells ks xs' ys' = some r
  | [], [], [], _, _, r, h, hx, hy => by
    simp only [VRL] at hx hy; subst hx; subst hy; simpa [eqCellsS, eqCells] using h
  | true :: ks, x :: xs, y :: ys, _, _, r, h, hx, hy => by
    simp only [VRL] at hx hy
    obtain ⟨u, us, rfl, h1, h2⟩ := hx
    obtain ⟨w, ws, rfl, h3, h4⟩ := hy
    cases x <;> try (simp [eqCellsS] at h; done)
    cases y <;> try (simp [eqCellsS] at h; done)
    simp only [VR] at h1 h3
    subst h1; subst h3
    simp only [eqCellsS] at h
    split at h
    · rename_i e
      simp only [Option.map_eq_some_iff] at h
      obtain ⟨q, hq, rfl⟩ := h
      simp only [eqCells, if_pos e, eqCellsS_sim hq h2 h4, Option.map_some]
    · cases h
  | false :: ks, x :: xs, y :: ys, _, _, r, h, hx, hy => by
    simp only [VRL] at hx hy
    obtain ⟨u, us, rfl, h1, h2⟩ := hx
    obtain ⟨w, ws, rfl, h3, h4⟩ := hy
    simp only [eqCellsS] at h
    split at h
    · rename_i a b e1 e2
      rw [VR_asB h1 e1, VR_asB h3 e2]
      simp only [Option.map_eq_some_iff] at h
      obtain ⟨q, hq, rfl⟩ := h
      simp only [eqCells, eqCellsS_sim hq h2 h4, Option.map_some]
    · cases h
  | [], _ :: _, _, _, _, _, h, _, _ => by simp [eqCellsS] at h
  | [], [], _ :: _, _, _, _, h, _, _ => by simp [eqCellsS] at h
  | b :: _, [], _, _, _, _, h, _, _ => by cases b <;> simp [eqCellsS] at h
  | b :: _, _ :: _, [], _, _, _, h, _, _ => by cases b <;> simp [eqCellsS] at h
theorem eqS_sim {Y : Option Ty} {x y : SV} {a b : AV} {r : Bool} (h : eqS Y x y = some r) (hx : VR x a) (hy : VR y b) : eqA Y a b = some r := by
  unfold eqS at h
  split at h
  · rename_i p q e1 e2
    rw [VR_asB hx e1, VR_asB hy e2]
    split at h
    · cases h; rfl
    · cases h
  · split at h
    · rename_i xs ys _
      simp only [VR] at hx hy
      obtain ⟨vs, rfl, hx⟩ := hx
      obtain ⟨us, rfl, hy⟩ := hy
      split at h
      · simp only [eqA]; exact eqCellsS_sim h hx hy
      · cases h
    · split at h <;> simp only [Option.some.injEq, reduceCtorEq] at h <;> subst h
      all_goals
        simp only [VR] at hx hy
        first
          | (subst hx; subst hy; rfl)
          | (subst hx; obtain ⟨_, _, rfl, _⟩ := hy; rfl)
          | (subst hy; obtain ⟨_, _, rfl, _⟩ := hx; rfl)
          | (subst hx; obtain ⟨_, rfl, _⟩ := hy; rfl)
          | (subst hy; obtain ⟨_, rfl, _⟩ := hx; rfl)
          | (subst hx; obtain ⟨_, rfl⟩ := hy; rfl)
          | (subst hy; obtain ⟨_, rfl⟩ := hx; rfl)
theorem binS_sim {Y : Option Ty} {op : BinOp} {x y : SV} {a b : AV} {v : SV} (h : (binS Y op x y).run = some v) (hx : VR x a) (hy : VR y b) : ∃ u, binA Y op a b = some u ∧ VR v u := by
  unfold binS at h
  split at h
  · rename_i k n k' m
    simp only [VR] at hx hy; subst hx; subst hy
    simp only [T.run] at h
    split at h
    · rename_i hb; cases h
      have : ¬ m < 0 := by simpa using hb
      exact ⟨.int k (k.wrap (n * 2 ^ (min m.toNat k.bits))), by simp only [binA, if_neg this], by simp only [VR]⟩
    · cases h
  · rename_i k n k' m
    simp only [VR] at hx hy; subst hx; subst hy
    simp only [T.run] at h
    split at h
    · rename_i hb; cases h
      have : ¬ m < 0 := by simpa using hb
      exact ⟨.int k (n.fdiv (2 ^ (min m.toNat k.bits))), by simp only [binA, if_neg this], by simp only [VR]⟩
    · cases h
  · rename_i k n k' m hn1 hn2
    simp only [VR] at hx hy; subst hx; subst hy
    split at h
    · rename_i e
      obtain ⟨u, h1, h2⟩ := binIntS_sim h
      refine ⟨u, ?_, h2⟩
      subst e
      cases op <;> first | exact absurd rfl (hn1 ) | exact absurd rfl (hn2) | (simp only [binA, if_true]; exact h1) | (simp [binIntS, T.run] at h)
    · cases h
  · rename_i hn
    rw [T.run_ofO, Option.map_eq_some_iff] at h
    obtain ⟨r, hr, rfl⟩ := h
    have := eqS_sim hr hx hy
    refine ⟨.bool r, ?_, by simp only [VR]⟩
    have hne : ∀ k n k' m, ¬ (a = .int k n ∧ b = .int k' m) := fun k n k' m hh => by
      rw [hh.1, hh.2] at this; simp [eqA] at this
    cases a <;> cases b <;> first | exact absurd ⟨rfl, rfl⟩ (hne _ _ _ _) | simp only [binA, this, Option.map_some]
  · rename_i hn
    rw [T.run_ofO, Option.map_eq_some_iff] at h
    obtain ⟨r, hr, rfl⟩ := h
    have := eqS_sim hr hx hy
    refine ⟨.bool (!r), ?_, by simp only [VR]⟩
    have hne : ∀ k n k' m, ¬ (a = .int k n ∧ b = .int k' m) := fun k n k' m hh => by
      rw [hh.1, hh.2] at this; simp [eqA] at this
    cases a <;> cases b <;> first | exact absurd ⟨rfl, rfl⟩ (hne _ _ _ _) | simp only [binA, this, Option.map_some]
  · cases h
theorem unS_sim {op : UnOp} {x : SV} {a : AV} {v : SV} (h : unS op x = some v) (hx : VR x a) : ∃ u, unA op a = some u ∧ VR v u := by
  unfold unS at h
  split at h <;> simp only [Option.some.injEq, reduceCtorEq] at h <;> subst h <;> simp only [VR] at hx <;> subst hx <;> exact ⟨_, rfl, by simp only [VR]⟩
theorem evOS_sim {E : Operand → SV} {E' : Operand → AV} (hE : ∀ x, VR (E x) (E' x)) {x : Option Operand} {d m r : Nat} (h : (evOS E x d m).run = some r) : evO E' x d m = some r := by
  unfold evOS at h
  cases x with
  | none => simpa [evO, T.run] using h
  | some y =>
    simp only at h
    have := hE y
    split at h
    · rename_i k n e
      rw [e] at this
      simp only [VR] at this
      simp only [T.run] at h
      split at h
      · rename_i hc
        cases h
        simp only [evO, this, asNat]
        rw [if_pos (by simpa using hc)]
      · cases h
    · cases h
theorem sliceS_sim {E : Operand → SV} {E' : Operand → AV} (hE : ∀ x, VR (E x) (E' x)) {size : Nat} {x : SV} {a : AV} {lo hi mx : Option Operand} {v : SV} (h : (sliceS size E x lo hi mx).run = some v) (hx : VR x a) : ∃ u, sliceA size E' a lo hi mx = some u ∧ VR v u := by
  unfold sliceS at h
  split at h
  · simp only [VR] at hx; subst hx
    split at h
    · cases h
    rename_i hm
    simp only [T.run_bind, Option.bind_eq_some_iff] at h
    obtain ⟨m, h1, q, h2, l, h3, h4⟩ := h
    cases h4
    refine ⟨.nils, ?_, by simp only [VR]⟩
    simp only [sliceA, evOS_sim hE h1, evOS_sim hE h2, evOS_sim hE h3, Option.bind_eq_bind, Option.bind_some, if_neg hm]
  · rename_i c0 ks l
    split at h
    · cases h
    rename_i hm
    split at h
    · rename_i hs
      simp only [T.run_bind, Option.bind_eq_some_iff] at h
      obtain ⟨m, h1, q, h2, p, h3, h4⟩ := h
      cases h4
      have e1 := evOS_sim hE h1
      have e2 := evOS_sim hE h2
      have e3 := evOS_sim hE h3
      simp only [VR] at hx
      rcases hx with ⟨rfl, rfl⟩ | ⟨kd, c0', es, rfl, hc, h5, h6⟩
      · have z : ∀ {y d}, evO E' y d 0 = some d → True := fun _ => trivial
        have lez : ∀ {y : Option Operand} {d m' r : Nat}, evO E' y d m' = some r → d ≤ m' → r ≤ m' := by
          intro y d m' r hh hd
          cases y with
          | none => simp only [evO, Option.some.injEq] at hh; omega
          | some y =>
            simp only [evO, asNat] at hh
            split at hh
            · split at hh
              · rename_i hc; simp only [Option.some.injEq] at hh; omega
              · cases hh
            · cases hh
        simp only [List.length_nil] at e1 e2
        have hm0 : m = 0 := Nat.le_zero.1 (lez e1 (Nat.le_refl _))
        subst hm0
        have hq0 : q = 0 := Nat.le_zero.1 (lez e2 (Nat.le_refl _))
        subst hq0
        have hp0 : p = 0 := Nat.le_zero.1 (lez e3 (Nat.le_refl _))
        subst hp0
        refine ⟨.nils, ?_, by simp only [VR]; exact .inl ⟨by trivial, by simp⟩⟩
        simp only [sliceA, e1, e2, e3, Option.bind_eq_bind, Option.bind_some, if_neg hm]
      · refine ⟨.ro kd (if mx.isSome then decide (m = q) else c0' && decide (q = es.length)) ks.length ((es.drop p).take (q - p)), ?_, ?_⟩
        · simp only [sliceA, if_neg hm, h5, e1, e2, e3, Option.bind_eq_bind, Option.bind_some, if_pos hs]
        · simp only [VR]
          refine .inr ⟨kd, _, _, rfl, ?_, EncE_take _ (EncE_drop _ ⟨h5, h6⟩)⟩
          intro hh
          cases hmx : mx.isSome
          · simp only [hmx, Bool.false_eq_true, if_false, Bool.and_eq_true, decide_eq_true_eq] at hh ⊢
            exact ⟨hc hh.1, by rw [h5]; exact hh.2⟩
          · simpa only [hmx, if_true] using hh
    · cases h
  · cases h
theorem lenS_sim {x : SV} {a : AV} {n : Nat} (h : lenS x = some n) (hx : VR x a) : lenA a = some n := by
  cases x <;> simp only [lenS, reduceCtorEq, Option.some.injEq] at h <;> subst h <;> simp only [VR] at hx
  · subst hx; rfl
  · rcases hx with ⟨rfl, rfl⟩ | ⟨kd, c0, es, rfl, _, h1, _⟩
    · rfl
    · simp only [lenA, h1]
  · obtain ⟨cap, rfl⟩ := hx; rfl
theorem foldS_sim {f : Int → Int → Int} {k : IntKind} : ∀ {xs : List SV} {as : List AV} {a : Int} {v : SV}, foldS f k xs a = some v → VRL xs as → ∃ u, foldInts f k as a = some u ∧ VR v u
  | [], _, a, v, h, hx => by
    simp only [VRL] at hx; subst hx
    simp only [foldS, Option.some.injEq] at h; subst h
    exact ⟨_, rfl, by simp only [VR]⟩
  | x :: xs, _, a, v, h, hx => by
    simp only [VRL] at hx
    obtain ⟨u, us, rfl, h1, h2⟩ := hx
    cases x <;> try (simp [foldS] at h; done)
    simp only [VR] at h1; subst h1
    simp only [foldS] at h
    split at h
    · rename_i e
      obtain ⟨w, hw, hr⟩ := foldS_sim h h2
      exact ⟨w, by simp only [foldInts, if_pos e]; exact hw, hr⟩
    · cases h
/-- Parts of an aggregate. -/
def PR : List (Nat × SV) → List (Nat × AV) → Prop
  | [], qs => qs = []
  | p :: ps, qs => ∃ q qs', qs = q :: qs' ∧ p.1 = q.1 ∧ VR p.2 q.2 ∧ PR ps qs'
theorem PR_map {E : Operand → SV} {E' : Operand → AV} (hE : ∀ x, VR (E x) (E' x)) : ∀ (ps : List (Nat × Operand)), PR (ps.map fun p => (p.1, E p.2)) (ps.map fun p => (p.1, E' p.2))
  | [] => by simp only [List.map_nil, PR]
  | p :: ps => by simp only [List.map_cons, PR]; exact ⟨_, _, rfl, rfl, hE _, PR_map hE ps⟩
theorem fillS_sim {places : Nat → Option (Nat × Nat)} : ∀ {ps : List (Nat × SV)} {qs : List (Nat × AV)} {cs : List SV} {vs : List AV} {r : List SV}, fillS places cs ps = some r → PR ps qs → VRL cs vs → ∃ r', fillA places vs qs = some r' ∧ VRL r r'
  | [], _, cs, vs, r, h, hp, hv => by
    simp only [PR] at hp; subst hp
    simp only [fillS, Option.some.injEq] at h; subst h
    exact ⟨vs, rfl, hv⟩
  | (i, x) :: ps, _, cs, vs, r, h, hp, hv => by
    simp only [PR] at hp
    obtain ⟨⟨j, a⟩, qs, rfl, h1, h2, h3⟩ := hp
    simp only at h1 h2
    subst h1
    have hx : x ≠ .any := by rintro rfl; simp [fillS] at h
    have hcells := VR_cells h2 (fun cs => .inr hx)
    have ha : a ≠ .any := by
      rintro rfl
      cases x <;> simp only [VR, reduceCtorEq] at h2
      all_goals first
        | exact hx rfl
        | (simp at h2; done)
    cases hpl : places i with
    | none =>
      exfalso
      cases x <;> first | exact hx rfl | (simp only [fillS, hpl, reduceCtorEq] at h)
    | some p =>
      obtain ⟨off, size⟩ := p
      have h' : fillS places cs ((i, x) :: ps) = if x.cells.length = size ∧ off + size ≤ cs.length then fillS places (cs.take off ++ x.cells ++ cs.drop (off + size)) ps else none := by
        cases x <;> first | exact absurd rfl hx | simp only [fillS, hpl]
      have hA : fillA places vs ((i, a) :: qs) = if a.cells.length = size ∧ off + size ≤ vs.length then fillA places (vs.take off ++ a.cells ++ vs.drop (off + size)) qs else none := by
        cases a <;> first | exact absurd rfl ha | simp only [fillA, hpl]
      rw [hA]
      rw [h'] at h
      split at h
      · rename_i hc
        rw [if_pos (by rw [← VRL_length hcells, ← VRL_length hv]; exact hc)]
        exact fillS_sim h h3 (VRL_append (VRL_append (VRL_take _ hv) hcells) (VRL_drop _ hv))
      · cases h
theorem chunks_sim {s : Nat} : ∀ {n : Nat} {cs : List SV} {vs : List AV}, VRL cs vs → (chunksS s n cs).length = (chunks s n vs).length ∧ ∀ (i : Nat) c v, (chunksS s n cs)[i]? = some c → (chunks s n vs)[i]? = some v → VRL c v
  | 0, _, _, _ => ⟨rfl, fun i c v h => by simp [chunksS] at h⟩
  | n + 1, cs, vs, h => by
    obtain ⟨h1, h2⟩ := chunks_sim (s := s) (n := n) (VRL_drop s h)
    refine ⟨by simp [chunksS, chunks, h1], fun i c v hc hv => ?_⟩
    cases i with
    | zero => simp [chunksS, chunks] at hc hv; subst hc; subst hv; exact VRL_take s h
    | succ i => simp [chunksS, chunks] at hc hv; exact h2 i c v hc hv
theorem EncV_ok {k : K} {d : D} {v : AV} (h : EncV k d v) : okV v = true := by
  cases k <;> simp only [EncV] at h
  · subst h; rfl
  · subst h; rfl
  · rcases h with ⟨rfl, _⟩ | ⟨_, _, _, rfl, _⟩ <;> rfl
theorem EncC_ok : ∀ {ks : List K} {c : List D} {j : Nat} {vs : List AV}, EncC ks c j vs → okL vs = true
  | [], _, _, _, h => by simp only [EncC] at h; subst h; rfl
  | k :: ks, _, _, _, h => by
    simp only [EncC] at h
    obtain ⟨u, us, rfl, h1, h2⟩ := h
    simp only [okL, EncV_ok h1, EncC_ok h2, Bool.and_self]
theorem okE_of {es : List (List AV)} (h : ∀ e ∈ es, okL e = true) : okE es = true := by
  induction es with
  | nil => rfl
  | cons e es ih => simp only [okE, h e List.mem_cons_self, ih fun e' he => h e' (List.mem_cons_of_mem _ he), Bool.and_self]
theorem EncE_ok {ks : List K} {l : List (List D)} {es : List (List AV)} (h : EncE ks l es) : okE es = true := okE_of fun e he => by
  obtain ⟨i, hi, rfl⟩ := List.getElem_of_mem he
  exact EncC_ok (h.2 i _ (l[i]'(by have := h.1; omega)) (List.getElem?_eq_getElem hi) (List.getElem?_eq_getElem (by have := h.1; omega)))
theorem EncE_lens {ks : List K} {l : List (List D)} {es : List (List AV)} (h : EncE ks l es) : lens ks.length es = true := by
  have : ∀ {es : List (List AV)}, (∀ e ∈ es, e.length = ks.length) → lens ks.length es = true := by
    intro es
    induction es with
    | nil => intro _; rfl
    | cons e es ih => intro h; simp only [lens, h e List.mem_cons_self, ih fun e' he => h e' (List.mem_cons_of_mem _ he), decide_true, Bool.and_self]
  refine this fun e he => ?_
  obtain ⟨i, hi, rfl⟩ := List.getElem_of_mem he
  exact EncC_length (h.2 i _ (l[i]'(by have := h.1; omega)) (List.getElem?_eq_getElem hi) (List.getElem?_eq_getElem (by have := h.1; omega)))
end Go.Lite
