/-
  Searches over any roads, plainly: what relaxing does, why a search ends, and that its times are the least ones.
-/
import Derived.Test.YtgmefblkmidglaaResNet
namespace Go.Proofs.Ytgmefblkmidglaa
open Go.Lite
/-- Roads: from where, to where, and when one is there. -/
structure Ed where
  m : Nat
  fr : Nat → Int
  to : Nat → Int
  fn : Nat → Int → Int
structure Ed.OK (E : Ed) (n : Nat) (H : Int) : Prop where
  fr : ∀ j, j < E.m → 0 ≤ E.fr j ∧ E.fr j < n
  to : ∀ j, j < E.m → 0 ≤ E.to j ∧ E.to j < n
  up : ∀ j, j < E.m → ∀ t, t < E.fn j t
  mono : ∀ j, j < E.m → ∀ t t', t ≤ t' → E.fn j t ≤ E.fn j t'
  bnd : ∀ j, j < E.m → ∀ t, E.fn j t ≤ max t H + 10000
inductive Walk (E : Ed) (v0 t0 : Int) : Int → Int → Prop
  | here : Walk E v0 t0 v0 t0
  | step {t : Int} {j : Nat} : Walk E v0 t0 (E.fr j) t → j < E.m → Walk E v0 t0 (E.to j) (E.fn j t)
abbrev INF : Int := 9223372036854775807
/-- The times of a list are the least ones. -/
def Least (E : Ed) (n : Nat) (v0 t0 : Int) (d : Nat → Int) : Prop := (∀ v, v < n → d v ≤ INF) ∧ (∀ v, v < n → d v < INF → Walk E v0 t0 v (d v)) ∧ ∀ v t, Walk E v0 t0 v t → d v.toNat ≤ t
/-- What roads yield from a place. -/
def Yields (E : Ed) (N : Int → Int → List (List D)) : Prop := ∀ v t, (∀ e ∈ N v t, ∃ j, j < E.m ∧ E.fr j = v ∧ ix e 0 = E.to j ∧ ix e 1 = E.fn j t) ∧ ∀ j, j < E.m → E.fr j = v → ∃ e ∈ N v t, ix e 0 = E.to j ∧ ix e 1 = E.fn j t
/-! ### Sums and counts -/
def sumN (g : Nat → Nat) : Nat → Nat
  | 0 => 0
  | n + 1 => sumN g n + g n
theorem sumN_le {g g' : Nat → Nat} : ∀ {n : Nat}, (∀ i, i < n → g i ≤ g' i) → sumN g n ≤ sumN g' n
  | 0, _ => Nat.le_refl _
  | n + 1, h => by
    simp only [sumN]
    have := sumN_le (n := n) fun i hi => h i (by omega)
    have := h n (by omega)
    omega
theorem sumN_lt {g g' : Nat → Nat} : ∀ {n : Nat}, (∀ i, i < n → g i ≤ g' i) → (∃ i, i < n ∧ g i < g' i) → sumN g n < sumN g' n
  | 0, _, ⟨i, hi, _⟩ => by omega
  | n + 1, h, ⟨i, hi, hlt⟩ => by
    simp only [sumN]
    have h1 := sumN_le (n := n) fun i hi => h i (by omega)
    have h2 := h n (by omega)
    by_cases he : i = n
    · subst he; omega
    · have := sumN_lt (n := n) (fun i hi => h i (by omega)) ⟨i, by omega, hlt⟩
      omega
theorem sumN_const (c : Nat) : ∀ n, sumN (fun _ => c) n = c * n
  | 0 => rfl
  | n + 1 => by simp only [sumN, sumN_const c n]; rw [Nat.mul_succ]
section
variable {n : Nat}
/-- Relaxing. -/
theorem rel_spec : ∀ (es : List (List D)) (s : Sr), s.o.length = n → s.k ≤ s.q.length → (∀ e ∈ es, 0 ≤ ix e 0 ∧ ix e 0 < n) →
    (relF es s).o.length = n ∧ (relF es s).k ≤ (relF es s).q.length ∧ (∀ u, rg (relF es s).o u ≤ rg s.o u) ∧ (∀ e ∈ es, rg (relF es s).o (ix e 0).toNat ≤ ix e 1) ∧
      (∀ u, u < n → rg (relF es s).o u = rg s.o u ∨ ∃ e ∈ es, (ix e 0).toNat = u ∧ rg (relF es s).o u = ix e 1 ∧ inQ (relF es s) (ix e 0, ix e 1)) ∧
      (∀ p, inQ s p → inQ (relF es s) p) ∧ ∀ p, inQ (relF es s) p → inQ s p ∨ ∃ e ∈ es, p = (ix e 0, ix e 1)
  | [], s, h1, h2, _ => ⟨h1, h2, fun _ => Int.le_refl _, fun e he => by simp at he, fun u _ => .inl rfl, fun _ h => h, fun _ h => .inl h⟩
  | e :: es, s, h1, h2, h3 => by
    obtain ⟨e1, e2⟩ := h3 e List.mem_cons_self
    have h4 : ∀ x ∈ es, 0 ≤ ix x 0 ∧ ix x 0 < n := fun x hx => h3 x (List.mem_cons_of_mem _ hx)
    simp only [relF]
    by_cases hc : ix e 1 < rg s.o (ix e 0).toNat
    · rw [if_pos hc]
      obtain ⟨k1, k2, k3, k4, k5, k6, k7⟩ := rel_spec es ⟨rs s.o (ix e 0).toNat (ix e 1), s.k + 1, pushR s.q s.k (ix e 0) (ix e 1)⟩ (by simp only [len_rs]; exact h1) (by simp only; rw [len_push _ _ _ h2]; exact Nat.le_refl _) h4
      generalize relF es ⟨rs s.o (ix e 0).toNat (ix e 1), s.k + 1, pushR s.q s.k (ix e 0) (ix e 1)⟩ = s' at *
      have hrs : ∀ u, rg (rs s.o (ix e 0).toNat (ix e 1)) u = if u = (ix e 0).toNat then ix e 1 else rg s.o u := fun u => rg_rs (by omega) _ _
      have hle : ∀ u, rg (rs s.o (ix e 0).toNat (ix e 1)) u ≤ rg s.o u := fun u => by rw [hrs]; split <;> first | (subst_vars; omega) | exact Int.le_refl _
      refine ⟨k1, k2, fun u => Int.le_trans (k3 u) (hle u), fun x hx => ?_, fun u hu => ?_, fun p hp => k6 p ((push_in h2 _ _ p).2 (.inr hp)), fun p hp => ?_⟩
      · rcases List.mem_cons.1 hx with rfl | hx
        · refine Int.le_trans (k3 _) ?_
          simp only [hrs, if_true]
          exact Int.le_refl _
        · exact k4 x hx
      · rcases k5 u hu with h | ⟨x, hx, h5, h6, h7⟩
        · rw [h]
          simp only [hrs]
          split
          · rename_i he
            exact .inr ⟨e, List.mem_cons_self, he.symm, rfl, k6 _ ((push_in h2 _ _ _).2 (.inl rfl))⟩
          · exact .inl rfl
        · exact .inr ⟨x, List.mem_cons_of_mem _ hx, h5, h6, h7⟩
      · rcases k7 p hp with h | ⟨x, hx, h⟩
        · rcases (push_in h2 _ _ p).1 h with h | h
          · exact .inr ⟨e, List.mem_cons_self, h⟩
          · exact .inl h
        · exact .inr ⟨x, List.mem_cons_of_mem _ hx, h⟩
    · rw [if_neg hc]
      obtain ⟨k1, k2, k3, k4, k5, k6, k7⟩ := rel_spec es s h1 h2 h4
      refine ⟨k1, k2, k3, fun x hx => ?_, fun u hu => ?_, k6, fun p hp => ?_⟩
      · rcases List.mem_cons.1 hx with rfl | hx
        · have := k3 (ix x 0).toNat; omega
        · exact k4 x hx
      · rcases k5 u hu with h | ⟨x, hx, h5⟩
        · exact .inl h
        · exact .inr ⟨x, List.mem_cons_of_mem _ hx, h5⟩
      · rcases k7 p hp with h | ⟨x, hx, h⟩
        · exact .inl h
        · exact .inr ⟨x, List.mem_cons_of_mem _ hx, h⟩
/-- How far a time is from the least one there can be. -/
def capN (B t0 x : Int) : Nat := (if x < INF then x - t0 else B + 1 - t0).toNat
def potN (n : Nat) (B t0 : Int) (s : Sr) : Nat := s.k + 2 * sumN (fun u => capN B t0 (rg s.o u)) n
theorem rel_pot {B t0 : Int} (hB : B < INF) : ∀ (es : List (List D)) (s : Sr), s.o.length = n → (∀ e ∈ es, (0 ≤ ix e 0 ∧ ix e 0 < n) ∧ t0 ≤ ix e 1 ∧ ix e 1 ≤ B) → potN n B t0 (relF es s) ≤ potN n B t0 s
  | [], _, _, _ => Nat.le_refl _
  | e :: es, s, h1, h3 => by
    obtain ⟨⟨e1, e2⟩, e3, e4⟩ := h3 e List.mem_cons_self
    have h4 : ∀ x ∈ es, (0 ≤ ix x 0 ∧ ix x 0 < n) ∧ t0 ≤ ix x 1 ∧ ix x 1 ≤ B := fun x hx => h3 x (List.mem_cons_of_mem _ hx)
    simp only [relF]
    by_cases hc : ix e 1 < rg s.o (ix e 0).toNat
    · rw [if_pos hc]
      refine Nat.le_trans (rel_pot hB es _ (by simp only [len_rs]; exact h1) h4) ?_
      have hrs : ∀ u, rg (rs s.o (ix e 0).toNat (ix e 1)) u = if u = (ix e 0).toNat then ix e 1 else rg s.o u := fun u => rg_rs (by omega) _ _
      have hlt : sumN (fun u => capN B t0 (rg (rs s.o (ix e 0).toNat (ix e 1)) u)) n < sumN (fun u => capN B t0 (rg s.o u)) n := by
        have hone : capN B t0 (ix e 1) < capN B t0 (rg s.o (ix e 0).toNat) := by
          unfold capN
          rw [if_pos (by omega)]
          split <;> omega
        refine sumN_lt (fun u _ => ?_) ⟨(ix e 0).toNat, by omega, ?_⟩
        · simp only [hrs]
          split
          · rename_i he; subst he; exact Nat.le_of_lt hone
          · exact Nat.le_refl _
        · simp only [hrs, if_true]; exact hone
      unfold potN
      simp only
      omega
    · rw [if_neg hc]
      exact rel_pot hB es s h1 h4
end
end Go.Proofs.Ytgmefblkmidglaa
