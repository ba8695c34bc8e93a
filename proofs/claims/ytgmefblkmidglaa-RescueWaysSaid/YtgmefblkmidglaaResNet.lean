/-
  Searches, plainly: a search ends, and its times are the least ones.
-/
import Derived.Test.YtgmefblkmidglaaResPC
namespace Go.Proofs.Ytgmefblkmidglaa
open Go.Lite
/-! ### Swaps permute -/
def prQ (c : List D) : Int × Int := (ix c 0, ix c 1)
def bagQ (l : List (List D)) (n : Nat) : List (Int × Int) := (l.take n).map prQ
theorem prQ_row2 (c : List D) : prQ (row2 c) = prQ c := rfl
/-- Someone waits. -/
def inQ (s : Sr) (p : Int × Int) : Prop := ∃ i, i < s.k ∧ prQ (s.q.getD i []) = p
theorem swap_get {l : List (List D)} {i j k : Nat} (hi : i < l.length) (hj : j < l.length) : prQ ((swapR l i j).getD k []) = if k = j then prQ (l.getD i []) else if k = i then prQ (l.getD j []) else prQ (l.getD k []) := by
  unfold swapR
  rw [getD_set (by rw [List.length_set]; exact hj)]
  split
  · rfl
  · rw [getD_set hi]
    split
    · rfl
    · rfl
/-- The same pairs stand in the first n rows. -/
def sameQ (n : Nat) (l l' : List (List D)) : Prop := l'.length = l.length ∧ ∀ p, (∃ i, i < n ∧ prQ (l'.getD i []) = p) ↔ ∃ i, i < n ∧ prQ (l.getD i []) = p
theorem sameQ.refl (n : Nat) (l : List (List D)) : sameQ n l l := ⟨rfl, fun _ => Iff.rfl⟩
theorem sameQ.trans {n : Nat} {a b c : List (List D)} (h : sameQ n a b) (h' : sameQ n b c) : sameQ n a c := ⟨h'.1.trans h.1, fun p => (h'.2 p).trans (h.2 p)⟩
theorem swap_same {l : List (List D)} {n i j : Nat} (hn : n ≤ l.length) (hi : i < n) (hj : j < n) : sameQ n l (swapR l i j) := by
  refine ⟨len_swap _ _ _, fun p => ⟨fun ⟨k, hk, e⟩ => ?_, fun ⟨k, hk, e⟩ => ?_⟩⟩
  · rw [swap_get (by omega) (by omega)] at e
    split at e
    · exact ⟨i, hi, e⟩
    · split at e
      · exact ⟨j, hj, e⟩
      · exact ⟨k, hk, e⟩
  · by_cases h1 : k = i
    · subst h1
      exact ⟨j, hj, by rw [swap_get (by omega) (by omega), if_pos rfl]; exact e⟩
    · by_cases h2 : k = j
      · subst h2
        refine ⟨i, hi, ?_⟩
        rw [swap_get (by omega) (by omega), if_neg (fun h => h1 h.symm), if_pos rfl]
        exact e
      · exact ⟨k, hk, by rw [swap_get (by omega) (by omega), if_neg h2, if_neg h1]; exact e⟩
theorem up_same {n : Nat} : ∀ (f : Nat) (l : List (List D)) (j : Nat), n ≤ l.length → j < n → sameQ n l (upF f l j)
  | 0, l, _, _, _ => sameQ.refl n l
  | f + 1, l, j, hn, hj => by
    simp only [upF]
    split
    · exact sameQ.refl n l
    · exact (swap_same hn (by omega) hj).trans (up_same f _ _ (by rw [len_swap]; exact hn) (by omega))
theorem down_same {n m : Nat} (hm : m ≤ n) : ∀ (f : Nat) (l : List (List D)) (i : Nat), n ≤ l.length → i < n → sameQ n l (downF f l m i).1
  | 0, l, _, _, _ => sameQ.refl n l
  | f + 1, l, i, hn, hi => by
    simp only [downF]
    split
    · exact sameQ.refl n l
    · rename_i hc
      rw [not_or] at hc
      have hk := kid_lt (l := l) (m := m) (i := i) (by omega)
      exact (swap_same hn hi (by omega)).trans (down_same hm f _ _ (by rw [len_swap]; exact hn) (by omega))
theorem pop_same {l : List (List D)} {n : Nat} (hn : n ≤ l.length) (h0 : 0 < n) : sameQ n l (popR l n) :=
  (swap_same hn h0 (by omega)).trans (down_same (by omega) n _ 0 (by rw [len_swap]; exact hn) h0)
/-- Who waits after one was taken. -/
theorem pop_in {s : Sr} (hk : s.k ≠ 0) (hq : s.k ≤ s.q.length) (p : Int × Int) : inQ s p ↔ p = (takeV s, takeT s) ∨ inQ ⟨s.o, s.k - 1, popR s.q s.k⟩ p := by
  have h := (pop_same hq (by omega)).2 p
  unfold inQ
  rw [← h]
  refine ⟨fun ⟨i, hi, e⟩ => ?_, fun hh => ?_⟩
  · by_cases h1 : i = s.k - 1
    · subst h1
      exact .inl e.symm
    · exact .inr ⟨i, by simp only; omega, e⟩
  · rcases hh with rfl | ⟨i, hi, e⟩
    · exact ⟨s.k - 1, by omega, rfl⟩
    · exact ⟨i, by simp only at hi; omega, e⟩
theorem push_in {o : List (List D)} {k : Nat} {q : List (List D)} (hq : k ≤ q.length) (v t : Int) (p : Int × Int) : inQ ⟨o, k + 1, pushR q k v t⟩ p ↔ p = (v, t) ∨ inQ ⟨o, k, q⟩ p := by
  have hlen : (q.take k ++ [[D.i v, D.i t]]).length = k + 1 := by rw [List.length_append, List.length_take]; simp; omega
  have h := (up_same (n := k + 1) (k + 1) (q.take k ++ [[D.i v, D.i t]]) k (by omega) (by omega)).2 p
  unfold inQ
  simp only
  unfold pushR
  rw [h]
  have hget : ∀ i, i < k → (q.take k ++ [[D.i v, D.i t]]).getD i [] = q.getD i [] := fun i hi => by
    simp only [List.getD_eq_getElem?_getD]
    rw [List.getElem?_append_left (by rw [List.length_take]; omega), List.getElem?_take, if_pos hi]
  have hlast : (q.take k ++ [[D.i v, D.i t]]).getD k [] = [D.i v, D.i t] := by
    simp only [List.getD_eq_getElem?_getD]
    rw [List.getElem?_append_right (by rw [List.length_take]; omega), List.length_take, Nat.min_eq_left hq, Nat.sub_self]
    rfl
  refine ⟨fun ⟨i, hi, e⟩ => ?_, fun hh => ?_⟩
  · by_cases h1 : i = k
    · subst h1
      rw [hlast] at e
      exact .inl e.symm
    · rw [hget i (by omega)] at e
      exact .inr ⟨i, by omega, e⟩
  · rcases hh with rfl | ⟨i, hi, e⟩
    · exact ⟨k, by omega, by rw [hlast]; rfl⟩
    · exact ⟨i, by omega, by rw [hget i hi]; exact e⟩
end Go.Proofs.Ytgmefblkmidglaa
