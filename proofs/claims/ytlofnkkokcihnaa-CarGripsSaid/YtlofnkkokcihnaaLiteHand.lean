import Derived.Test.YtlofnkkokcihnaaLitePlain
namespace Go.Lite

/-! ### Lists of names -/
theorem nodup_rev {l : List Nat} (h : l.Nodup) : l.reverse.Nodup := List.pairwise_reverse.2 (List.Pairwise.imp (fun h => Ne.symm h) h)
theorem reach_nodup (look : Nat → Option Blk) : ∀ (f : Nat) (q acc : List Nat), acc.Nodup → (reach look f q acc).Nodup
  | 0, q, acc, h => by cases q <;> simpa [reach] using nodup_rev h
  | f + 1, [], acc, h => by simpa [reach] using nodup_rev h
  | f + 1, i :: q, acc, h => by
    unfold reach
    split
    · exact reach_nodup look f q acc h
    · rename_i hc
      have hn : (i :: acc).Nodup := List.nodup_cons.2 ⟨fun hm => hc (by simpa using hm), h⟩
      cases look i with
      | none => exact reach_nodup look f _ _ h
      | some b => exact reach_nodup look f _ _ hn
theorem nodup_inj {l : List Nat} (h : l.Nodup) {i j m : Nat} (hi : l[i]? = some m) (hj : l[j]? = some m) : i = j := by
  obtain ⟨hi1, hi2⟩ := List.getElem?_eq_some_iff.1 hi
  obtain ⟨hj1, hj2⟩ := List.getElem?_eq_some_iff.1 hj
  rcases Nat.lt_trichotomy i j with hlt | he | hgt
  · exact absurd (hi2.trans hj2.symm) (List.pairwise_iff_getElem.1 h i j hi1 hj1 hlt)
  · exact he
  · exact absurd (hj2.trans hi2.symm) (List.pairwise_iff_getElem.1 h j i hj1 hi1 hgt)
theorem pos_get : ∀ {ms : List Nat} {i j : Nat}, pos ms i = some j → ms[j]? = some i
  | [], _, _, h => by cases h
  | x :: xs, i, j, h => by
    unfold pos at h
    split at h
    · rename_i e; subst e; cases h; rfl
    · rw [Option.map_eq_some_iff] at h
      obtain ⟨j', h', rfl⟩ := h
      simpa using pos_get h'

/-! ### Heaps that are put together -/
theorem hget_hputs : ∀ (news : Heap) (h : Heap) (k j : Nat), hget (hputs h k news) j = if k ≤ j ∧ j < k + news.length then hget news (j - k) else hget h j
  | [], h, k, j => by
    rw [hputs, if_neg (by simp only [List.length_nil]; omega)]
  | b :: bs, h, k, j => by
    rw [hputs, hget_hputs bs]
    by_cases e : j = k
    · subst e
      rw [if_neg (by omega), if_pos (by simp), hget_hset, if_pos rfl, Nat.sub_self, hget_cons_zero]
    · by_cases e2 : k ≤ j ∧ j < k + (b :: bs).length
      · simp only [List.length_cons] at e2
        rw [if_pos (by omega), if_pos (by simp; omega), show j - k = (j - (k + 1)) + 1 by omega, hget_cons_succ]
      · simp only [List.length_cons] at e2
        rw [if_neg (by omega), if_neg (by simp only [List.length_cons]; omega), hget_hset, if_neg (by omega)]
theorem length_hputs : ∀ (news : Heap) (h : Heap) (k : Nat), h.length ≤ (hputs h k news).length
  | [], h, k => Nat.le_refl _
  | b :: bs, h, k => by
    rw [hputs]
    exact Nat.le_trans (by rw [length_hset]; exact Nat.le_max_left _ _) (length_hputs bs _ _)
theorem length_hputs_ge : ∀ (news : Heap) (h : Heap) (k : Nat), news ≠ [] → k + news.length ≤ (hputs h k news).length
  | [], h, k, hn => absurd rfl hn
  | [b], h, k, _ => by rw [hputs, hputs, length_hset]; simp; omega
  | b :: c :: bs, h, k, _ => by
    rw [hputs]
    have := length_hputs_ge (c :: bs) (hset h k b) (k + 1) (by simp)
    simp only [List.length_cons] at this ⊢
    omega
theorem length_hups : ∀ (ups : List (Nat × Option Blk)) (h : Heap), h.length ≤ (hups h ups).length
  | [], h => Nat.le_refl _
  | (i, b) :: r, h => by
    rw [hups]
    exact Nat.le_trans (by rw [length_hset]; exact Nat.le_max_left _ _) (length_hups r _)
/-- Blocks under names that differ: those of one's own list. -/
theorem hget_hups_out : ∀ (ups : List (Nat × Option Blk)) (h : Heap) (j : Nat), (∀ p ∈ ups, p.1 ≠ j) → hget (hups h ups) j = hget h j
  | [], h, j, _ => rfl
  | (i, b) :: r, h, j, hn => by
    rw [hups, hget_hups_out r _ j (fun p hp => hn p (by simp [hp])), hget_hset, if_neg (hn (i, b) (by simp))]
theorem hget_hups_in : ∀ (ups : List (Nat × Option Blk)) (h : Heap) (j : Nat) (b : Option Blk), (ups.map (·.1)).Nodup → (j, b) ∈ ups → hget (hups h ups) j = b
  | [], h, j, b, _, hm => by cases hm
  | (i, c) :: r, h, j, b, hn, hm => by
    rw [List.map_cons, List.nodup_cons] at hn
    rw [hups]
    rcases List.mem_cons.1 hm with e | hm
    · obtain ⟨e1, e2⟩ := Prod.mk.inj e
      subst e1; subst e2
      rw [hget_hups_out r _ _ (fun p hp e => hn.1 (List.mem_map.2 ⟨p, hp, e⟩)), hget_hset, if_pos rfl]
    · exact hget_hups_in r _ j b hn.2 hm
theorem hget_map (f : Blk → Blk) : ∀ (h : Heap) (i : Nat), hget (h.map fun b => b.map f) i = (hget h i).map f := by
  intro h i
  unfold hget
  rw [List.getElem?_map]
  cases h[i]? with
  | none => rfl
  | some b => rfl
theorem hget_drop (h : Heap) (k i : Nat) : hget (h.drop k) i = hget h (k + i) := by
  unfold hget; rw [List.getElem?_drop]
theorem hget_take (h : Heap) (k i : Nat) : hget (h.take k) i = if i < k then hget h i else none := by
  unfold hget
  rw [List.getElem?_take]
  split <;> rfl
theorem hget_maps (g : Nat → Option Blk) (ms : List Nat) (i : Nat) : hget (ms.map g) i = (ms[i]?).bind g := by
  unfold hget
  rw [List.getElem?_map]
  cases ms[i]? with
  | none => rfl
  | some m => cases hg : g m <;> simp [hg]

section
variable {w w' : World} {G G' J J' U U' N N' : Nat → Prop} {ν ν' : Names} {h : Heap}

theorem BlkRel_mv {ρ : Nat → Option Nat} {kb ky : Bool} (hρ : ∀ i i', ρ i = some i' → ∀ b, ν.φ i = some b → ν'.φ i' = some b) (hy : ky = true → ∀ l, ν.y = some l → ν'.y = some l) (hb : kb = true → ∀ b, J b → J' b ∨ G b) {b : Nat} {B : Blk}
    (h : BlkRel w G ν J b B) : BlkRel w G ν' J' b (mvB kb ky ρ B) := by
  cases B with
  | map _ => exact h.elim
  | row s es flat =>
    obtain ⟨⟨cells, elem, h1, h2⟩, h3⟩ := h
    cases flat with
    | true => exact ⟨⟨cells, elem, h1, h2⟩, h3⟩
    | false =>
      simp only [mvB, Bool.false_eq_true, if_false]
      exact ⟨⟨cells, elem, h1, by rw [List.length_map]; exact h2⟩, map_mv_memE (Rel_mv hρ hy hb deep) h3⟩

/-- The names of blocks that are handed over. -/
def Names.over (ν : Names) (ms : List Nat) : Names := ⟨fun i => (ms[i]?).bind ν.φ, ν.y⟩
theorem over_pos {ms : List Nat} : ∀ i i', pos ms i = some i' → ∀ b, ν.φ i = some b → (ν.over ms).φ i' = some b := by
  intro i i' hp b hb
  simp [Names.over, pos_get hp, hb]

/-- Blocks handed over: a private heap of their own; the rest of one's own is borrowed. -/
theorem hand_sr (S : SR w G J U N ν h) {look : Nat → Option Blk} (hl : ∀ i B, look i = some B → hget h i = some B) {ms : List Nat} (hn : ms.Nodup) (J' U' N' : Nat → Prop) (hJ : ∀ b, J b → J' b) (hJ' : ∀ b, J' b → J b ∨ (Own ν h b ∧ ∀ i, ν.φ i = some b → i ∉ ms ∨ hget h i = none))
    (hU : ∀ b, U' b → N b) (hN : ∀ b, N' b → N b) (hUN : ∀ b, U' b → N' b) (hGU : ∀ b, U' b → U b) : SR w G J' U' N' (ν.over ms) (ms.map fun i => (look i).map (mvB true true (pos ms))) where
  blk i B hB := by
    rw [hget_maps] at hB
    cases hm : ms[i]? with
    | none => rw [hm] at hB; cases hB
    | some m =>
      rw [hm] at hB
      simp only [Option.bind_some, Option.map_eq_some_iff] at hB
      obtain ⟨B0, hB0, rfl⟩ := hB
      obtain ⟨b, hb, hr⟩ := S.blk m B0 (hl _ _ hB0)
      exact ⟨b, by simp [Names.over, hm, hb], BlkRel_mv over_pos (fun _ _ h => h) (fun _ b hb => .inl (hJ b hb)) hr⟩
  inj i j B B' b h1 h2 h3 h4 := by
    rw [hget_maps] at h1 h2
    cases hm : ms[i]? with
    | none => rw [hm] at h1; cases h1
    | some m =>
    cases hm' : ms[j]? with
    | none => rw [hm'] at h2; cases h2
    | some m' =>
      rw [hm] at h1; rw [hm'] at h2
      simp only [Option.bind_some, Option.map_eq_some_iff] at h1 h2
      obtain ⟨B0, hB0, -⟩ := h1
      obtain ⟨B1, hB1, -⟩ := h2
      simp only [Names.over, hm, hm', Option.bind_some] at h3 h4
      have e := S.inj m m' _ _ b (hl _ _ hB0) (hl _ _ hB1) h3 h4
      subst e
      exact nodup_inj hn hm hm'
  dom i b hi := by
    rw [List.length_map]
    simp only [Names.over] at hi
    cases hm : ms[i]? with
    | none => rw [hm] at hi; cases hi
    | some m => exact (List.getElem?_eq_some_iff.1 hm).1
  glt := S.glt
  jlt b hb := (hJ' b hb).elim (S.jlt b) (fun h => S.own_lt h.1)
  nlt b hb := S.nlt b (hN b hb)
  gown b hb := by
    rintro ⟨i, B, h1, h2⟩
    rw [hget_maps] at h1
    cases hm : ms[i]? with
    | none => rw [hm] at h1; cases h1
    | some m =>
      rw [hm] at h1
      simp only [Option.bind_some, Option.map_eq_some_iff] at h1
      obtain ⟨B0, hB0, -⟩ := h1
      simp only [Names.over, hm, Option.bind_some] at h2
      exact S.gown b hb ⟨m, B0, hl _ _ hB0, h2⟩
  jown b hb := by
    rintro ⟨i, B, h1, h2⟩
    rw [hget_maps] at h1
    cases hm : ms[i]? with
    | none => rw [hm] at h1; cases h1
    | some m =>
      rw [hm] at h1
      simp only [Option.bind_some, Option.map_eq_some_iff] at h1
      obtain ⟨B0, hB0, -⟩ := h1
      simp only [Names.over, hm, Option.bind_some] at h2
      rcases hJ' b hb with hj | ⟨_, hj⟩
      · exact S.jown b hj ⟨m, B0, hl _ _ hB0, h2⟩
      · rcases hj m h2 with hj | hj
        · exact hj (List.mem_of_getElem? hm)
        · rw [hl _ _ hB0] at hj; cases hj
  nown b hb := by
    rintro ⟨i, B, h1, h2⟩
    rw [hget_maps] at h1
    cases hm : ms[i]? with
    | none => rw [hm] at h1; cases h1
    | some m =>
      rw [hm] at h1
      simp only [Option.bind_some, Option.map_eq_some_iff] at h1
      obtain ⟨B0, hB0, -⟩ := h1
      simp only [Names.over, hm, Option.bind_some] at h2
      exact S.nown b (hN b hb) ⟨m, B0, hl _ _ hB0, h2⟩
  gu b hb hu := S.gu b hb (hGU b hu)
  ju b hb hu := (hJ' b hb).elim (fun h => S.ju b h (hGU b hu)) (fun h => S.nown b (hU b hu) h.1)
  un := hUN

/-- Own blocks that are not handed over. -/
def Kept (ν : Names) (h : Heap) (ms : List Nat) (b : Nat) : Prop := ∃ i B, hget h i = some B ∧ ν.φ i = some b ∧ i ∉ ms
/-- Arguments handed over: those that may be written to are moved, the others lent. -/
theorem hand_args (S : SR w G J U N ν h) {look : Nat → Option Blk} (hl : ∀ i B, look i = some B → hget h i = some B) {ms : List Nat} : ∀ (args : List AV) (fl : List Bool) (vs : List Value), RelL w G args ν J vs → args.length ≤ fl.length →
    RelL w G ((args.zip fl).map (fun p => if p.2 then mv true true (pos ms) deep p.1 else fz (fun i => if ms.contains i then none else look i) deep p.1)) (ν.over ms) (fun b => J b ∨ Kept ν h ms b) vs
  | [], fl, vs, hr, _ => by simp only [RelL] at hr; subst hr; simpa using RelL_nil
  | c :: cs, [], vs, hr, hlen => by simp at hlen
  | c :: cs, f :: fl, vs, hr, hlen => by
    simp only [RelL] at hr
    obtain ⟨u, us, rfl, h1, h2⟩ := hr
    simp only [List.zip_cons_cons, List.map_cons]
    refine RelL_cons ?_ (hand_args S hl cs fl us h2 (by simpa using hlen))
    cases f with
    | true =>
      simp only [if_true]
      exact Rel_mv over_pos (fun _ _ h => h) (fun _ b hb => .inl (.inl hb)) deep c u h1
    | false =>
      simp only [Bool.false_eq_true, if_false]
      have := Rel_fz (w := w) (G := G) (ν := ν) (J := J) (J' := fun b => J b ∨ Kept ν h ms b) (look := fun i => if ms.contains i then none else look i) (fun i B e => by
        split at e
        · cases e
        · rename_i hc
          obtain ⟨b, hb, hB⟩ := S.blk i B (hl _ _ e)
          exact ⟨b, hb, .inr ⟨i, B, hl _ _ e, hb, fun hm => hc (by simpa using hm)⟩, hB⟩) (fun b hb => .inl (.inl hb)) deep c u h1
      exact Rel_mono (fun _ h => h) (fun _ _ => rfl) (fun _ => Nat.le_refl _) _ (Names.none_le _) (fun _ h => .inl h) (fun _ _ => rfl) this
end
end Go.Lite
