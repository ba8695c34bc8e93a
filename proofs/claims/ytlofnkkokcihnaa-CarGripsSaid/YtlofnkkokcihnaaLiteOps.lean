import Derived.Test.YtlofnkkokcihnaaLiteEq
namespace Go.Lite
section
variable {P : Program} {w : World} {G : Nat → Prop} {ν : Names} {J : Nat → Prop}

theorem run_sizeOf {t : TypeId} {i : TypeInfo} (h : P.info? t = some i) : (sizeOf t).run P w = .ok i.size w := by
  simp [sizeOf, typeInfo, h]
theorem add_none (b o n : Nat) : (⟨b, o, none⟩ : Addr).add n = ⟨b, o + n, none⟩ := by
  unfold Addr.add; split <;> simp_all

/-! ### Slices -/
theorem rel_len {c : AV} {n : Nat} {v : Value} (hc : lenA c = some n) (h : Rel w G c ν J v) : ∃ a cap, v = .slice a n cap ∧ n ≤ cap := by
  cases c <;> simp only [lenA, reduceCtorEq, Option.some.injEq] at hc
  case nils => subst hc; simp only [Rel] at h; exact ⟨_, _, h, Nat.le_refl _⟩
  case ro kd c0 s es => subst hc; simp only [Rel] at h; rcases h with ⟨rfl, a, c, rfl, _⟩ | ⟨b, o, cap, rfl, h, _⟩ <;> first | exact ⟨_, _, rfl, Nat.zero_le _⟩ | exact ⟨_, _, rfl, h⟩
  case sl i s lo n cap => subst hc; simp only [Rel] at h; obtain ⟨b, o, c, _, rfl, h, _⟩ := h; exact ⟨_, _, rfl, h⟩

theorem run_bound {x : Value} {c : AV} {most r y : Nat} (h : asNat c most = some r) (hx : Rel w G c ν J x) (hy : most ≤ y) (code : BoundsCode) :
    (Instr.sliceBound x y code).run P w = .ok r w ∧ r ≤ most := by
  unfold asNat at h
  split at h
  · rename_i k n
    split at h
    · rename_i hn
      cases h
      rw [rel_int rfl hx]
      have h2 : n ≤ (y : Int) := by omega
      refine ⟨?_, by omega⟩
      simp only [Instr.sliceBound, Sem.run_bind]
      simp [asIntOf, hn.1, h2]
    · cases h
  · cases h

theorem run_bounds {E : Operand → AV} {ρ : Operand → Value} (hE : ∀ x, Rel w G (E x) ν J (ρ x)) {lo hi mx : Option Operand} {n cap m h l M : Nat} (hn : n ≤ cap)
    (hmh : (mx.isSome && hi.isNone) = false) (em : evO E mx M n = some m) (eh : evO E hi n m = some h) (el : evO E lo 0 h = some l) (hM : M = n) :
    ∃ m', (Instr.sliceBounds true n cap (lo.map ρ) (hi.map ρ) (mx.map ρ)).run P w = .ok (l, h, m') w ∧ l ≤ h ∧ h ≤ m ∧ m ≤ n ∧ m ≤ m' ∧ (mx.isSome = true → m' = m) ∧ (mx.isSome = false → m' = cap) := by
  subst hM
  have hl : l ≤ h := by
    cases lo with
    | none => simp only [evO, Option.some.injEq] at el; omega
    | some x => exact (run_bound (P := P) (y := h) el (hE x) (Nat.le_refl _) .sliceB).2
  have lw : ∀ (code : BoundsCode) (x : Operand), lo = some x → (Instr.sliceBound (ρ x) h code).run P w = .ok l w := by
    rintro code x rfl
    exact (run_bound el (hE x) (Nat.le_refl _) code).1
  have l0 : lo = none → l = 0 := by
    rintro rfl; simp only [evO, Option.some.injEq] at el; exact el.symm
  cases mx with
  | none =>
    simp only [evO, Option.some.injEq] at em
    subst em
    cases hi with
    | none =>
      simp only [evO, Option.some.injEq] at eh
      subst eh
      refine ⟨cap, ?_, hl, Nat.le_refl _, Nat.le_refl _, hn, by simp, by simp⟩
      cases lo with
      | none => simp [Instr.sliceBounds, Sem.run_bind, l0 rfl]
      | some z => simp [Instr.sliceBounds, Sem.run_bind, lw .sliceB z rfl]
    | some x =>
      obtain ⟨h1, h2⟩ := run_bound (P := P) (y := cap) eh (hE x) hn .sliceAcap
      refine ⟨cap, ?_, hl, h2, Nat.le_refl _, hn, by simp, by simp⟩
      cases lo with
      | none => simp [Instr.sliceBounds, Sem.run_bind, h1, l0 rfl]
      | some z => simp [Instr.sliceBounds, Sem.run_bind, h1, lw .sliceB z rfl]
  | some y =>
    cases hi with
    | none => simp at hmh
    | some x =>
      obtain ⟨h3, h4⟩ := run_bound (P := P) (y := cap) em (hE y) hn .slice3Acap
      obtain ⟨h1, h2⟩ := run_bound (P := P) (y := m) eh (hE x) (Nat.le_refl _) .slice3B
      refine ⟨m, ?_, hl, h2, h4, by omega, by simp, by simp⟩
      cases lo with
      | none => simp [Instr.sliceBounds, Sem.run_bind, h3, h1, l0 rfl]
      | some z => simp [Instr.sliceBounds, Sem.run_bind, h3, h1, lw .slice3C z rfl]

theorem sliceA_run {E : Operand → AV} {ρ : Operand → Value} (hE : ∀ x, Rel w G (E x) ν J (ρ x)) {t e : TypeId} {i : TypeInfo} (ht : P.underlying t = some (.slice e)) (hi : P.info? e = some i)
    {x c : AV} {v : Value} {lo hi' mx : Option Operand} (h : sliceA i.size E x lo hi' mx = some c) (hx : Rel w G x ν J v) :
    ∃ r, (Instr.sliceAt t v (lo.map ρ) (hi'.map ρ) (mx.map ρ)).run P w = .ok r w ∧ Rel w G c ν J r := by
  have conc : ∀ (a : Option Addr) (n cap l h m : Nat), (Instr.sliceBounds true n cap (lo.map ρ) (hi'.map ρ) (mx.map ρ)).run P w = .ok (l, h, m) w →
      (Instr.sliceAt t (.slice a n cap) (lo.map ρ) (hi'.map ρ) (mx.map ρ)).run P w = .ok (.slice (if m = l then a else a.map (·.add (l * i.size))) (h - l) (m - l)) w := by
    intro a n cap l h m hb
    simp [Instr.sliceAt, Instr.slice, Sem.run_bind, run_underlying ht, hb, run_sizeOf hi]
  unfold sliceA at h
  split at h
  · -- nil
    simp only [Rel] at hx
    subst hx
    simp only [Option.bind_eq_bind, Option.bind_eq_some_iff] at h
    obtain ⟨m, em, h', eh, l, el, h⟩ := h
    split at h
    · cases h
    rename_i hmh
    cases h
    have b0 : ∀ y z, evO E y 0 0 = some z → z = 0 := by
      intro y z hz
      cases y with
      | none => simp only [evO, Option.some.injEq] at hz; exact hz.symm
      | some y => have := (run_bound (P := P) (y := 0) hz (hE y) (Nat.le_refl _) .sliceB).2; omega
    have e1 := b0 _ _ em; have e2 := b0 _ _ eh; have e3 := b0 _ _ el
    subst e1; subst e2; subst e3
    obtain ⟨m', hb, _, _, _, _, h5, h6⟩ := run_bounds (P := P) hE (cap := 0) (Nat.le_refl _) (eq_false_of_ne_true hmh) em eh el rfl
    have : m' = 0 := by
      cases hs : mx.isSome
      · exact h6 hs
      · exact h5 hs
    subst this
    exact ⟨_, conc none 0 0 _ _ _ hb, by simp [Rel]⟩
  · -- immutable
    rename_i kd c0 s es
    split at h
    · cases h
    rename_i hmh
    simp only [Option.bind_eq_bind, Option.bind_eq_some_iff] at h
    obtain ⟨m, em, h', eh, l, el, h⟩ := h
    split at h
    case isFalse => cases h
    rename_i hs
    cases h
    simp only [Rel] at hx
    rcases hx with ⟨rfl, ad, cp, rfl, hc0⟩ | ⟨b, o, cap, rfl, hcap, hc0, hloc, hmem⟩
    · have b0 : ∀ (most : Nat) y z, most = 0 → evO E y most most = some z → z = 0 := by
        rintro _ y z rfl hz
        cases y with
        | none => simp only [evO, Option.some.injEq] at hz; exact hz.symm
        | some y => have := (run_bound (P := P) (y := 0) hz (hE y) (Nat.le_refl _) .sliceB).2; omega
      have e1 := b0 _ _ _ rfl em
      subst e1
      have e2 := b0 _ _ _ rfl eh
      subst e2
      have e3 := b0 _ _ _ rfl el
      subst e3
      obtain ⟨m', hb, _, _, _, _, h5, h6⟩ := run_bounds (P := P) hE (cap := cp) (Nat.zero_le _) (eq_false_of_ne_true hmh) em eh el rfl
      refine ⟨_, conc ad 0 cp _ _ _ hb, ?_⟩
      simp only [Rel]
      refine .inl ⟨by simp, _, _, rfl, ?_⟩
      cases hs : mx.isSome
      · simp only [Bool.false_eq_true, if_false, Bool.and_eq_true]
        intro hh
        have := h6 hs
        have := hc0 hh.1
        omega
      · intro _
        have := h5 hs
        omega
    obtain ⟨m', hb, h1, h2, h3, h4, h5, h6⟩ := run_bounds (P := P) hE hcap (eq_false_of_ne_true hmh) em eh el rfl
    refine ⟨_, conc _ _ _ _ _ _ hb, ?_⟩
    have hlen : ((es.drop l).take (h' - l)).length = h' - l := by simp; omega
    simp only [Rel, hlen]
    have hcap' : (if mx.isSome then decide (m = h') else c0 && decide (h' = es.length)) = true → m' - l = h' - l := by
      cases hsm : mx.isSome
      · simp only [Bool.false_eq_true, if_false, Bool.and_eq_true, decide_eq_true_eq]
        rintro ⟨a1, a2⟩
        have := hc0 a1; have := h6 hsm; omega
      · simp only [if_true, decide_eq_true_eq]
        intro a1; have := h5 hsm; omega
    by_cases hz : m' = l
    · have : (es.drop l).take (h' - l) = [] := by rw [← List.length_eq_zero_iff, hlen]; omega
      rw [if_pos hz, this]
      exact .inr ⟨b, o, m' - l, rfl, by omega, hcap', fun hn => absurd rfl hn, by simp only [MemE]⟩
    · rw [if_neg hz]
      refine .inr ⟨b, o + l * i.size, m' - l, by simp [add_none], by omega, hcap', fun hn => hloc (fun e => hn (by simp [e])), ?_⟩
      rw [← hs]
      exact MemE_take _ (MemE_drop l hmem)
  · -- own
    rename_i j s a n cap
    split at h
    · cases h
    rename_i hmh
    simp only [Option.bind_eq_bind, Option.bind_eq_some_iff] at h
    obtain ⟨m, em, h', eh, l, el, h⟩ := h
    split at h
    case isFalse => cases h
    rename_i hs
    cases h
    simp only [Rel] at hx
    obtain ⟨b, o, c, hφ, rfl, hn, ho, hc, hroom⟩ := hx
    obtain ⟨m', hb, h1, h2, h3, h4, h5, h6⟩ := run_bounds (P := P) hE hn (eq_false_of_ne_true hmh) em eh el rfl
    refine ⟨_, conc _ _ _ _ _ _ hb, ?_⟩
    simp only [Rel]
    have hmc : m' ≤ c := by
      cases hsm : mx.isSome
      · have := h6 hsm; omega
      · have := h5 hsm; omega
    have hcap' : ∀ k, (if mx.isSome then some (m - l) else cap.map (· - l)) = some k → m' - l = k := by
      intro k
      cases hsm : mx.isSome
      · simp only [Bool.false_eq_true, if_false, Option.map_eq_some_iff]
        rintro ⟨q, hq, rfl⟩
        have := hc q hq; have := h6 hsm; omega
      · simp only [if_true, Option.some.injEq]
        rintro rfl; have := h5 hsm; omega
    by_cases hz : m' = l
    · rw [if_pos hz]
      refine ⟨b, o, m' - l, hφ, rfl, by omega, fun hq => ?_, hcap', by
        have h0 : m' - l = 0 := by omega
        rw [h0, Nat.zero_mul]; omega⟩
      rcases hq with hq | hq
      · omega
      · have : a = 0 ∧ l = 0 := by omega
        have := ho (.inr this.1)
        simp_all
    · rw [if_neg hz]
      refine ⟨b, o + l * i.size, m' - l, hφ, by simp [add_none], by omega, fun hq => ?_, hcap', by
        have : l * s + (m' - l) * s ≤ c * s := by rw [← Nat.add_mul]; exact Nat.mul_le_mul_right s (by omega)
        rw [← hs]; omega⟩
      have : o = a * s := ho (by omega)
      rw [this, ← hs, Nat.add_mul]
  · cases h

/-! ### Addresses -/
theorem field_run {t : TypeId} {T : Ty} (hT : tyOf P t = some T) {fs : List (Nat × Nat × Bool)} (hk : T.kind = .struct fs) {f off sz : Nat} {ag : Bool} (hf : fs[f]? = some (off, sz, ag)) :
    ∃ gs g i d, P.underlying t = some (.struct gs) ∧ gs[f]? = some g ∧ g.offset = off ∧ P.cellsOf g.type = sz ∧ tyAgg P g.type = ag ∧ P.info? g.type = some i ∧ P.underlying g.type = some d := by
  obtain ⟨i, d, _, _, hk', _⟩ := ty_info hT
  obtain ⟨gs, hu, rfl, hv⟩ := kind_struct (hk'.symm.trans hk)
  rw [List.getElem?_map, Option.map_eq_some_iff] at hf
  obtain ⟨g, hg, he⟩ := hf
  cases he
  obtain ⟨i, d, hi, hd⟩ := valid_parts (List.all_eq_true.1 hv g (List.mem_of_getElem? hg))
  exact ⟨gs, g, i, d, hu, by simpa using hg, rfl, rfl, rfl, hi, hd⟩
theorem run_sizeOf_cells {t : TypeId} (h : P.cellsOf t ≠ 0) : (sizeOf t).run P w = .ok (P.cellsOf t) w := by
  unfold Program.cellsOf at *
  cases e : P.info? t with
  | none => rw [e] at h; exact absurd rfl h
  | some i => simp [sizeOf, typeInfo, e]

theorem fieldAddr_run {t : TypeId} {T : Ty} (hT : tyOf P t = some T) {fs : List (Nat × Nat × Bool)} (hk : T.kind = .struct fs) {f off sz : Nat} {ag : Bool} (hf : fs[f]? = some (off, sz, ag)) (hz : sz ≠ 0) (b o : Nat) :
    (Instr.fieldAt t (.pointer (some ⟨b, o, none⟩)) f).run P w = .ok (.pointer (some ⟨b, o + off, none⟩)) w := by
  obtain ⟨gs, g, _, _, hu, hg, rfl, rfl, _⟩ := field_run hT hk hf
  simp [Instr.fieldAt, Sem.run_bind, run_underlying hu, hg, Instr.sureAddr, fieldPlace, run_sizeOf_cells hz, hz, add_none]

theorem part_run {t : TypeId} (hagg : tyAgg P t = true) (hz : ∃ i, P.info? t = some i) (vs : Array Value) (off : Nat) : (part t vs off).run P w = .ok (.agg (vs.extract off (off + P.cellsOf t))) w := by
  obtain ⟨i, hi⟩ := hz
  obtain ⟨d, hd⟩ : ∃ d, P.underlying t = some d := by
    unfold tyAgg at hagg; split at hagg <;> first | exact ⟨_, ‹_›⟩ | cases hagg
  simp [part, Sem.run_bind, run_isAgg hd, hagg, run_sizeOf hi, Program.cellsOf, hi]
theorem part_run1 {t : TypeId} {d : TypeDesc} (hd : P.underlying t = some d) (hagg : tyAgg P t = false) (vs : Array Value) (off : Nat) {v : Value} (hv : vs[off]? = some v) : (part t vs off).run P w = .ok v w := by
  unfold part
  simp only [Sem.run_bind, run_isAgg hd, Result.andThen_ok, hagg, Bool.false_eq_true, if_false, hv]
  rfl

/-! ### Literals -/
theorem cells_rel {c : AV} {v : Value} (hc : c ≠ .any) (h : Rel w G c ν J v) : RelL w G c.cells ν J v.cells.toList := by
  cases c
  case any => exact absurd rfl hc
  case agg cs => simp only [Rel] at h; obtain ⟨vs, rfl, h⟩ := h; exact h
  case tup cs => have h' := h; simp only [Rel] at h'; obtain ⟨vs, rfl, _⟩ := h'; exact RelL_cons h RelL_nil
  case und => have h' := h; simp only [Rel] at h'; subst h'; exact RelL_cons h RelL_nil
  all_goals
    have ho : v.oneCell' = true := okV_one rfl h
    have : v.cells = #[v] := by cases v <;> first | rfl | (exact absurd ho (by simp [Value.oneCell']))
    rw [this]
    exact RelL_cons h RelL_nil

theorem splice_foldl (off : Nat) : ∀ (vs : List Value) (k : Nat) (cells : Array Value), off + k + vs.length ≤ cells.size →
    ((vs.zipIdx k).foldl (fun cs (p : Value × Nat) => cs.setIfInBounds (off + p.2) p.1) cells).toList = cells.toList.take (off + k) ++ vs ++ cells.toList.drop (off + k + vs.length)
  | [], k, cells, _ => by simp
  | v :: vs, k, cells, h => by
    simp only [List.zipIdx_cons, List.foldl_cons]
    rw [splice_foldl off vs (k + 1) _ (by simp at h ⊢; omega)]
    rw [Array.toList_setIfInBounds]
    have := list_seg_step cells.toList (off + k) v vs (by simp at h ⊢; omega)
    rw [show off + (k + 1) = off + k + 1 by omega]
    rw [this]; rfl

theorem fillA_run {E : Operand → AV} {ρ : Operand → Value} (hE : ∀ x, Rel w G (E x) ν J (ρ x)) {places : Nat → Option (Nat × Nat)} : ∀ (ps : List (Nat × Operand)) (cells : List AV) (vs : Array Value) (out : List AV),
    RelL w G cells ν J vs.toList → fillA places cells (ps.map fun p => (p.1, E p.2)) = some out →
    ∃ us : Array Value, Instr.fill places vs (ps.map fun p => (p.1, ρ p.2)) = some us ∧ RelL w G out ν J us.toList
  | [], cells, vs, out, hv, h => by
    simp only [List.map_nil, fillA, Option.some.injEq] at h; subst h
    exact ⟨vs, rfl, hv⟩
  | (i, x) :: ps, cells, vs, out, hv, h => by
    have hc := hE x
    simp only [List.map_cons] at h ⊢
    have hne : E x ≠ .any := by intro e; rw [e] at h; simp [fillA] at h
    have h' : (match places i with
      | none => none
      | some (off, size) => if (E x).cells.length = size ∧ off + size ≤ cells.length then fillA places (cells.take off ++ (E x).cells ++ cells.drop (off + size)) (ps.map fun p => (p.1, E p.2)) else none) = some out := by
      revert h hne
      generalize E x = c
      intro h hne
      cases c <;> first | (exact absurd rfl hne) | exact h
    clear h
    simp only [Instr.fill]
    cases hp : places i with
    | none => rw [hp] at h'; cases h'
    | some q =>
      obtain ⟨off, size⟩ := q
      rw [hp] at h'
      simp only at h'
      split at h'
      case isFalse => cases h'
      rename_i hs
      have hcr := cells_rel hne hc
      have hcl := RelL_length hcr
      have hvl : cells.length = vs.size := by simpa using RelL_length hv
      have hsz : (ρ x).cells.size = size := by rw [← hs.1, hcl]; rfl
      have hle : ¬ ((ρ x).cells.size ≠ size ∨ off + (ρ x).cells.size > vs.size) := by
        rw [hsz]; omega
      have hle' : ((decide ((ρ x).cells.size ≠ size)) || (decide (off + (ρ x).cells.size > vs.size))) = false := by
        simpa using hle
      simp only [hle', Bool.false_eq_true, if_false]
      have hsp := splice_foldl off (ρ x).cells.toList 0 vs (by rw [Array.length_toList, hsz]; omega)
      have hconv : ((ρ x).cells.zipIdx.foldl (fun cs (p : Value × Nat) => cs.setIfInBounds (off + p.2) p.1) vs).toList = vs.toList.take off ++ (ρ x).cells.toList ++ vs.toList.drop (off + size) := by
        rw [← Array.foldl_toList, Array.toList_zipIdx]
        rw [hsp, Array.length_toList, hsz]; simp
      refine fillA_run hE ps _ _ out ?_ h'
      rw [hconv]
      exact RelL_append (RelL_append (RelL_take off hv) hcr) (RelL_drop (off + size) hv)
end
end Go.Lite
