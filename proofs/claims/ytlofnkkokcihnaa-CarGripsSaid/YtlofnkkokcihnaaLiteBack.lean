import Derived.Test.YtlofnkkokcihnaaLiteHand
namespace Go.Lite
section
variable {w w' : World} {G G' J U U' N N' : Nat → Prop} {ν ν' : Names} {h nh : Heap}

theorem back_some {ms : List Nat} {at_ i j : Nat} (e : back ms at_ i = some j) : ms[i]? = some j ∨ (ms.length ≤ i ∧ j = at_ + (i - ms.length)) := by
  unfold back at e
  split at e
  · rename_i m hm; cases e; exact .inl hm
  · split at e
    · rename_i hle; cases e; exact .inr ⟨hle, rfl⟩
    · cases e
theorem back_new {ms : List Nat} {at_ i : Nat} (hle : ms.length ≤ i) : back ms at_ i = some (at_ + (i - ms.length)) := by
  unfold back
  rw [List.getElem?_eq_none hle]
  simp [hle]
theorem back_old {ms : List Nat} {at_ i m : Nat} (hm : ms[i]? = some m) : back ms at_ i = some m := by
  unfold back; rw [hm]

/-- The heap when blocks have come back. -/
def backHeap (ms : List Nat) (at_ : Nat) (nh h : Heap) : Heap := hputs (hups h (handBack ms at_ nh).1) at_ (handBack ms at_ nh).2
/-- .. and the names. -/
def Names.back (ν ν' : Names) (ms : List Nat) (at_ n : Nat) : Names := ⟨fun j => if at_ ≤ j ∧ j < at_ + n then ν'.φ (ms.length + (j - at_)) else ν.φ j, ν.y⟩

theorem handBack_keys (ms : List Nat) (at_ : Nat) (nh : Heap) : (handBack ms at_ nh).1.map (·.1) = ms := by
  simp only [handBack, List.map_map]
  have : ((fun x : Nat × Option Blk => x.1) ∘ fun p : Nat × Nat => (p.1, (hget nh p.2).map (mvB true true (Go.Lite.back ms at_)))) = Prod.fst := rfl
  rw [this, List.map_fst_zip]
  simp
theorem handBack_mem {ms : List Nat} {at_ : Nat} {nh : Heap} {i m : Nat} (hm : ms[i]? = some m) : (m, (hget nh i).map (mvB true true (Go.Lite.back ms at_))) ∈ (handBack ms at_ nh).1 := by
  simp only [handBack]
  refine List.mem_map.2 ⟨(m, i), ?_, rfl⟩
  rw [List.mem_iff_getElem?]
  refine ⟨i, ?_⟩
  rw [List.getElem?_zip_eq_some]
  refine ⟨hm, ?_⟩
  rw [List.getElem?_range (List.getElem?_eq_some_iff.1 hm).1]

theorem hget_back {ms : List Nat} {at_ : Nat} (hn : ms.Nodup) {j : Nat} {B : Blk} (e : hget (backHeap ms at_ nh h) j = some B) :
    (∃ i B0, hget nh i = some B0 ∧ B = mvB true true (Go.Lite.back ms at_) B0 ∧ Go.Lite.back ms at_ i = some j ∧ (at_ ≤ j ∨ ms[i]? = some j)) ∨ (hget h j = some B ∧ j ∉ ms) := by
  unfold backHeap at e
  rw [hget_hputs] at e
  split at e
  · rename_i hr
    simp only [handBack] at e
    rw [hget_map, hget_drop, Option.map_eq_some_iff] at e
    obtain ⟨B0, h0, rfl⟩ := e
    refine .inl ⟨_, B0, h0, rfl, ?_, .inl hr.1⟩
    rw [back_new (by omega)]
    congr 1; omega
  · by_cases hm : j ∈ ms
    · obtain ⟨i, hi⟩ := List.mem_iff_getElem?.1 hm
      rw [hget_hups_in _ _ _ _ (by rw [handBack_keys]; exact hn) (handBack_mem hi), Option.map_eq_some_iff] at e
      obtain ⟨B0, h0, rfl⟩ := e
      exact .inl ⟨i, B0, h0, rfl, back_old hi, .inr hi⟩
    · rw [hget_hups_out _ _ _ (fun p hp e => hm (by rw [← e, ← handBack_keys ms at_ nh]; exact List.mem_map_of_mem (f := fun p : Nat × Option Blk => p.1) hp))] at e
      exact .inr ⟨e, hm⟩

/-- The callee's heap. -/
abbrev handHeap (look : Nat → Option Blk) (ms : List Nat) : Heap := ms.map fun i => (look i).map (mvB true true (pos ms))
theorem own_hand {look : Nat → Option Blk} (hl : ∀ i B, look i = some B → hget h i = some B) {ms : List Nat} {b : Nat} (ho : Own (ν.over ms) (handHeap look ms) b) : ∃ m B, m ∈ ms ∧ hget h m = some B ∧ ν.φ m = some b := by
  obtain ⟨i, B, h1, h2⟩ := ho
  rw [hget_maps] at h1
  cases hm : ms[i]? with
  | none => rw [hm] at h1; cases h1
  | some m =>
    rw [hm] at h1
    simp only [Option.bind_some, Option.map_eq_some_iff] at h1
    obtain ⟨B0, hB0, -⟩ := h1
    simp only [Names.over, hm, Option.bind_some] at h2
    exact ⟨m, B0, List.mem_of_getElem? hm, hl _ _ hB0, h2⟩

/-- What holds when a call has come back. -/
theorem back_sr (S : SR w G J U N ν h) {look : Nat → Option Blk} (hl : ∀ i B, look i = some B → hget h i = some B) {ms : List Nat} (hn : ms.Nodup) {at_ : Nat} (hat : ∀ j, at_ ≤ j → j < at_ + (nh.length - ms.length) → ν.φ j = none) {J' Uc Uc' Nc Nc' : Nat → Prop}
    (hJ' : ∀ b, J' b → J b ∨ G' b) (R : SR w' G' J' Uc' Nc' ν' nh) (hφ : ∀ i, i < ms.length → ν'.φ i = (ν.over ms).φ i) (hy : ∀ l, ν'.y = some l → ν.y = some l) (E : Ext w w' G G' Uc Uc' Nc Nc' (Own (ν.over ms) (handHeap look ms)) (Own ν' nh))
    (hUc : ∀ b, Uc b → U b) (hU : ∀ b, U' b → U b ∨ Own (ν.over ms) (handHeap look ms) b ∨ w.heap.size ≤ b) (hN : ∀ b, N' b → N b ∨ Own (ν.over ms) (handHeap look ms) b ∨ w.heap.size ≤ b) (hnlt : ∀ b, N' b → b < w'.heap.size) (hgu : ∀ b, G' b → ¬ U' b) (hun : ∀ b, U' b → N' b)
    (hno : ∀ b, N' b → ¬ Own ν' nh b) :
    SR w' G' J U' N' (ν.back ν' ms at_ (nh.length - ms.length)) (backHeap ms at_ nh h) ∧ ν.le (ν.back ν' ms at_ (nh.length - ms.length)) ∧ Ext w w' G G' U U' N N' (Own ν h) (Own (ν.back ν' ms at_ (nh.length - ms.length)) (backHeap ms at_ nh h)) ∧
      (∀ i i', Go.Lite.back ms at_ i = some i' → ∀ b, ν'.φ i = some b → (ν.back ν' ms at_ (nh.length - ms.length)).φ i' = some b) := by
  have hρ : ∀ i i', Go.Lite.back ms at_ i = some i' → ∀ b, ν'.φ i = some b → (ν.back ν' ms at_ (nh.length - ms.length)).φ i' = some b := by
    intro i i' hb b hib
    rcases back_some hb with hm | ⟨hle, rfl⟩
    · have hi := (List.getElem?_eq_some_iff.1 hm).1
      rw [hφ i hi] at hib
      simp only [Names.over, hm, Option.bind_some] at hib
      simp only [Names.back]
      rw [if_neg (fun h => by rw [hat _ h.1 h.2] at hib; cases hib)]; exact hib
    · have := R.dom _ _ hib
      simp only [Names.back]
      rw [if_pos (by omega), show ms.length + (at_ + (i - ms.length) - at_) = i by omega]; exact hib
  have hle : ν.le (ν.back ν' ms at_ (nh.length - ms.length)) := ⟨fun i b hb => by
    simp only [Names.back]
    rw [if_neg (fun h => by rw [hat _ h.1 h.2] at hb; cases hb)]; exact hb, fun _ h => h⟩
  have hoc : ∀ b, Own (ν.over ms) (handHeap look ms) b → Own ν h b := fun b hb => by
    obtain ⟨m, B, _, h1, h2⟩ := own_hand hl hb
    exact ⟨m, B, h1, h2⟩
  have hkept : ∀ b, Kept ν h ms b → Own ν h b ∧ ¬ Own (ν.over ms) (handHeap look ms) b := by
    rintro b ⟨i, B, h1, h2, h3⟩
    refine ⟨⟨i, B, h1, h2⟩, fun hb => ?_⟩
    obtain ⟨m, B', hm, h4, h5⟩ := own_hand hl hb
    exact h3 (by rw [S.inj i m _ _ b h1 h4 h2 h5]; exact hm)
  have hkn : ∀ {j B}, hget h j = some B → ¬ (at_ ≤ j ∧ j < at_ + (nh.length - ms.length)) := fun {j B} hj hr => by
    obtain ⟨b, hb, _⟩ := S.blk j B hj
    rw [hat j hr.1 hr.2] at hb; cases hb
  have hown : ∀ b, Own (ν.back ν' ms at_ (nh.length - ms.length)) (backHeap ms at_ nh h) b → Own ν' nh b ∨ Kept ν h ms b := by
    rintro b ⟨j, B, h1, h2⟩
    rcases hget_back hn h1 with ⟨i, B0, h3, _, h4, h5⟩ | ⟨h3, h4⟩
    · obtain ⟨b', hb', _⟩ := R.blk i B0 h3
      have := hρ i j h4 b' hb'
      rw [h2] at this; cases this
      exact .inl ⟨i, B0, h3, hb'⟩
    · simp only [Names.back] at h2
      rw [if_neg (hkn h3)] at h2
      exact .inr ⟨j, B, h3, h2, h4⟩
  have hou : ∀ b, U b → ¬ Own ν h b := fun b hb => S.nown b (S.un b hb)
  have hkeep : ∀ b, b < w.heap.size → ¬ Own (ν.over ms) (handHeap look ms) b → ¬ U b → w'.heap[b]? = w.heap[b]? := fun b h1 h2 h3 => E.keep b h1 h2 (fun hu => h3 (hUc b hu))
  have hkG : ∀ b, G b → w'.heap[b]? = w.heap[b]? := fun b hb => hkeep b (S.glt b hb) (fun h => S.gown b hb (hoc b h)) (S.gu b hb)
  have hkJ : ∀ b, J b → w'.heap[b]? = w.heap[b]? := fun b hb => hkeep b (S.jlt b hb) (fun h => S.jown b hb (hoc b h)) (S.ju b hb)
  have hownlt : ∀ b, Own ν' nh b → Own ν h b ∨ w.heap.size ≤ b := fun b hb => (E.own b hb).imp_left (hoc b)
  refine ⟨?_, hle, ?_, hρ⟩
  · constructor
    · intro j B hj
      rcases hget_back hn hj with ⟨i, B0, h3, rfl, h4, h5⟩ | ⟨h3, h4⟩
      · obtain ⟨b', hb', hB⟩ := R.blk i B0 h3
        exact ⟨b', hρ i j h4 b' hb', BlkRel_mv hρ (fun _ l hl => hy l hl) (fun _ b hb => hJ' b hb) hB⟩
      · obtain ⟨b, hb, hB⟩ := S.blk j B h3
        have hk := hkept b ⟨j, B, h3, hb, h4⟩
        exact ⟨b, hle.1 _ _ hb, BlkRel_mono E.g hkG E.sz hkJ hle (hkeep b (S.own_lt hk.1) hk.2 (fun hu => hou b hu hk.1)) hB⟩
    · intro j k B1 B2 b h1 h2 h3 h4
      rcases hget_back hn h1 with ⟨i, B0, h5, _, h6, _⟩ | ⟨h5, h6⟩ <;> rcases hget_back hn h2 with ⟨i', B0', h7, _, h8, _⟩ | ⟨h7, h8⟩
      · obtain ⟨b1, hb1, _⟩ := R.blk i B0 h5
        obtain ⟨b2, hb2, _⟩ := R.blk i' B0' h7
        have e1 := hρ i j h6 b1 hb1
        have e2 := hρ i' k h8 b2 hb2
        rw [h3] at e1; rw [h4] at e2; cases e1; cases e2
        have := R.inj i i' _ _ b h5 h7 hb1 hb2
        subst this
        rw [h6] at h8; cases h8; rfl
      · obtain ⟨b1, hb1, _⟩ := R.blk i B0 h5
        have e1 := hρ i j h6 b1 hb1
        rw [h3] at e1; cases e1
        simp only [Names.back] at h4
        rw [if_neg (hkn h7)] at h4
        have hk := hkept b ⟨k, B2, h7, h4, h8⟩
        rcases E.own b ⟨i, B0, h5, hb1⟩ with h | h
        · exact absurd h hk.2
        · have := S.own_lt hk.1; omega
      · obtain ⟨b2, hb2, _⟩ := R.blk i' B0' h7
        have e2 := hρ i' k h8 b2 hb2
        rw [h4] at e2; cases e2
        simp only [Names.back] at h3
        rw [if_neg (hkn h5)] at h3
        have hk := hkept b ⟨j, B1, h5, h3, h6⟩
        rcases E.own b ⟨i', B0', h7, hb2⟩ with h | h
        · exact absurd h hk.2
        · have := S.own_lt hk.1; omega
      · simp only [Names.back] at h3 h4
        rw [if_neg (hkn h5)] at h3
        rw [if_neg (hkn h7)] at h4
        exact S.inj j k _ _ b h5 h7 h3 h4
    · intro j b hj
      have hlen1 : h.length ≤ (backHeap ms at_ nh h).length := Nat.le_trans (length_hups _ _) (length_hputs _ _ _)
      simp only [Names.back] at hj
      split at hj
      · have hd := R.dom _ _ hj
        have hnl : (handBack ms at_ nh).2.length = nh.length - ms.length := by simp [handBack]
        have := length_hputs_ge (handBack ms at_ nh).2 (hups h (handBack ms at_ nh).1) at_ (by
          intro e; rw [e] at hnl; simp at hnl; omega)
        rw [hnl] at this
        show j < (hputs _ _ _).length
        omega
      · exact Nat.lt_of_lt_of_le (S.dom _ _ hj) hlen1
    · exact R.glt
    · exact fun b hb => Nat.lt_of_lt_of_le (S.jlt b hb) E.size
    · exact hnlt
    · intro b hb ho
      rcases hown b ho with ho | ho
      · exact R.gown b hb ho
      · have hk := hkept b ho
        rcases E.g' b hb with h | h | h | h
        · exact S.gown b h hk.1
        · exact hk.2 h
        · exact hou b (hUc b h) hk.1
        · have := S.own_lt hk.1; omega
    · intro b hb ho
      rcases hown b ho with ho | ho
      · rcases hownlt b ho with h | h
        · exact S.jown b hb h
        · have := S.jlt b hb; omega
      · exact S.jown b hb (hkept b ho).1
    · intro b hb ho
      rcases hown b ho with ho | ho
      · exact hno b hb ho
      · have hk := hkept b ho
        rcases hN b hb with h | h | h
        · exact S.nown b h hk.1
        · exact hk.2 h
        · have := S.own_lt hk.1; omega
    · exact hgu
    · intro b hb hu
      rcases hU b hu with h | h | h
      · exact S.ju b hb h
      · exact S.jown b hb (hoc b h)
      · have := S.jlt b hb; omega
    · exact hun
  · exact ⟨E.size, fun b h1 h2 h3 => hkeep b h1 (fun h => h2 (hoc b h)) h3, fun b hb => (hown b hb).elim (hownlt b) (fun h => .inl (hkept b h).1), fun b hb => (hU b hb).imp_right (fun h => h.imp_left (hoc b)), fun b hb => (hN b hb).imp_right (fun h => h.imp_left (hoc b)), E.g,
      fun b hb => (E.g' b hb).imp_right (fun h => h.imp (hoc b) (fun h => h.imp_left (hUc b))), E.sz, E.env⟩
end
end Go.Lite
