/-
  A search ends, and its times are the least ones.
-/
import Derived.Test.YtgmefblkmidglaaResEd
namespace Go.Proofs.Ytgmefblkmidglaa
open Go.Lite
noncomputable section
def popS (s : Sr) : Sr := ⟨s.o, s.k - 1, popR s.q s.k⟩
def stepG (N : Int → Int → List (List D)) (s : Sr) : Sr := if takeT s > rg s.o (takeV s).toNat then popS s else relF (N (takeV s) (takeT s)) (popS s)
def cntN (n : Nat) (o : List (List D)) : Nat := sumN (fun u => if rg o u < INF then 1 else 0) n
end
structure InvS (E : Ed) (n : Nat) (H v0 t0 : Int) (s : Sr) : Prop where
  len : s.o.length = n
  kq : s.k ≤ s.q.length
  src : rg s.o v0.toNat ≤ t0
  le : ∀ u, u < n → rg s.o u ≤ INF
  q : ∀ p, inQ s p → (0 ≤ p.1 ∧ p.1 < n) ∧ rg s.o p.1.toNat ≤ p.2 ∧ p.2 ≤ max t0 H + 10000 * ((n : Int) + 1)
  walk : ∀ u, u < n → rg s.o u < INF → Walk E v0 t0 u (rg s.o u)
  front : ∀ u, u < n → rg s.o u < INF → inQ s ((u : Int), rg s.o u) ∨ ∀ j, j < E.m → E.fr j = (u : Int) → rg s.o (E.to j).toNat ≤ E.fn j (rg s.o u)
  bnd : ∀ u, u < n → rg s.o u < INF → rg s.o u ≤ max t0 H + 10000 * (cntN n s.o : Int)
theorem walk_lo {E : Ed} {n : Nat} {H v0 t0 : Int} (hE : E.OK n H) {v t : Int} (h : Walk E v0 t0 v t) : t0 ≤ t := by
  induction h with
  | here => exact Int.le_refl _
  | step _ hj ih => have := hE.up _ hj; exact Int.le_of_lt (Int.lt_of_le_of_lt ih (this _))
theorem cnt_le (n : Nat) (o : List (List D)) : cntN n o ≤ n := by
  have := sumN_le (n := n) (g := fun u => if rg o u < INF then 1 else 0) (g' := fun _ => 1) fun i _ => by split <;> omega
  rw [sumN_const] at this
  unfold cntN
  omega
theorem pot_pop {n : Nat} {B t0 : Int} {s : Sr} (hk : s.k ≠ 0) : potN n B t0 (popS s) < potN n B t0 s := by
  unfold potN popS
  simp only
  omega
section
variable {E : Ed} {N : Int → Int → List (List D)} {n : Nat} {H v0 t0 : Int}
theorem inv_step (hE : E.OK n H) (hN : Yields E N) (hB : max t0 H + 10000 * ((n : Int) + 1) < INF) {s : Sr} (I : InvS E n H v0 t0 s) (hk : s.k ≠ 0) :
    InvS E n H v0 t0 (stepG N s) ∧ potN n (max t0 H + 10000 * ((n : Int) + 1)) t0 (stepG N s) < potN n (max t0 H + 10000 * ((n : Int) + 1)) t0 s := by
  have hpin := fun p => pop_in hk I.kq p
  obtain ⟨⟨v1, v2⟩, v3, v4⟩ := I.q _ ((hpin (takeV s, takeT s)).2 (.inl rfl))
  simp only at v1 v2 v3 v4
  have hpq : (popS s).k ≤ (popS s).q.length := by unfold popS; simp only [len_pop]; have := I.kq; omega
  unfold stepG
  by_cases hc : takeT s > rg s.o (takeV s).toNat
  · rw [if_pos hc]
    refine ⟨⟨I.len, hpq, I.src, I.le, fun p hp => I.q p ((hpin p).2 (.inr hp)), I.walk, fun u hu hf => ?_, I.bnd⟩, pot_pop hk⟩
    rcases I.front u hu hf with h | h
    · rcases (hpin _).1 h with h | h
      · exfalso
        simp only [Prod.mk.injEq] at h
        rw [← h.1, ← h.2] at hc
        simp at hc
      · exact .inl h
    · exact .inr h
  · rw [if_neg hc]
    have hT : takeT s = rg s.o (takeV s).toNat := by omega
    have hVn : (takeV s).toNat < n := by omega
    have hVc : ((takeV s).toNat : Int) = takeV s := by omega
    have hfV : rg s.o (takeV s).toNat < INF := by omega
    have hbV := I.bnd _ hVn hfV
    have hcl := cnt_le n s.o
    have hwV := I.walk _ hVn hfV
    rw [hVc, ← hT] at hwV
    have hloV := walk_lo hE hwV
    have hes : ∀ e ∈ N (takeV s) (takeT s), (0 ≤ ix e 0 ∧ ix e 0 < n) ∧ t0 ≤ ix e 1 ∧ ix e 1 ≤ max t0 H + 10000 * ((cntN n s.o : Int) + 1) := fun e he => by
      obtain ⟨j, hj, e1, e2, e3⟩ := (hN _ _).1 e he
      rw [e2, e3]
      have h1 := hE.to j hj
      have h2 := hE.up j hj (takeT s)
      have h3 := hE.bnd j hj (takeT s)
      refine ⟨h1, by omega, ?_⟩
      rw [hT] at h3 ⊢
      omega
    obtain ⟨k1, k2, k3, k4, k5, k6, k7⟩ := rel_spec (n := n) (N (takeV s) (takeT s)) (popS s) I.len hpq fun e he => (hes e he).1
    have hpot := rel_pot (n := n) (B := max t0 H + 10000 * ((n : Int) + 1)) (t0 := t0) hB (N (takeV s) (takeT s)) (popS s) I.len fun e he => by
      obtain ⟨h1, h2, h3⟩ := hes e he
      exact ⟨h1, h2, by omega⟩
    refine ⟨?_, Nat.lt_of_le_of_lt hpot (pot_pop hk)⟩
    generalize relF (N (takeV s) (takeT s)) (popS s) = s' at *
    have k3 : ∀ u, rg s'.o u ≤ rg s.o u := k3
    have k5 : ∀ u, u < n → rg s'.o u = rg s.o u ∨ ∃ e ∈ N (takeV s) (takeT s), (ix e 0).toNat = u ∧ rg s'.o u = ix e 1 ∧ inQ s' (ix e 0, ix e 1) := k5
    have hcnt : cntN n s.o ≤ cntN n s'.o := sumN_le fun u _ => by
      have := k3 u
      split
      · rw [if_pos (by omega)]; exact Nat.le_refl _
      · exact Nat.zero_le _
    refine ⟨k1, k2, Int.le_trans (k3 _) I.src, fun u hu => Int.le_trans (k3 u) (I.le u hu), fun p hp => ?_, fun u hu hf => ?_, fun u hu hf => ?_, fun u hu hf => ?_⟩
    · rcases k7 p hp with h | ⟨e, he, rfl⟩
      · obtain ⟨h1, h2, h3⟩ := I.q p ((hpin p).2 (.inr h))
        exact ⟨h1, Int.le_trans (k3 _) h2, h3⟩
      · obtain ⟨h1, h2, h3⟩ := hes e he
        exact ⟨h1, k4 e he, by simp only; omega⟩
    · rcases k5 u hu with h | ⟨e, he, h1, h2, -⟩
      · rw [h] at hf ⊢
        exact I.walk u hu hf
      · obtain ⟨j, hj, e1, e2, e3⟩ := (hN _ _).1 e he
        have h3 := (hes e he).1
        have hw : Walk E v0 t0 (E.to j) (E.fn j (takeT s)) := .step (by rw [e1]; exact hwV) hj
        rw [h2, e3, show (u : Int) = E.to j by rw [← e2]; omega]
        exact hw
    · rcases k5 u hu with h | ⟨e, he, h1, h2, h3⟩
      · rw [h] at hf ⊢
        rcases I.front u hu hf with h5 | h5
        · rcases (hpin _).1 h5 with h6 | h6
          · right
            intro j hj hfr
            simp only [Prod.mk.injEq] at h6
            obtain ⟨e, he, e1, e2⟩ := (hN (takeV s) (takeT s)).2 j hj (by rw [hfr, h6.1])
            have := k4 e he
            rw [e1, e2] at this
            rw [h6.2]
            exact this
          · exact .inl (k6 _ h6)
        · exact .inr fun j hj hfr => Int.le_trans (k3 _) (h5 j hj hfr)
      · left
        have h4 := (hes e he).1
        rw [h2, show (u : Int) = ix e 0 by omega]
        exact h3
    · rcases k5 u hu with h | ⟨e, he, h1, h2, -⟩
      · rw [h] at hf ⊢
        have := I.bnd u hu hf
        omega
      · obtain ⟨-, -, h3⟩ := hes e he
        by_cases hfu : rg s.o u < INF
        · have h4 := I.bnd u hu hfu
          have h5 := k3 u
          omega
        · have hlt : cntN n s.o < cntN n s'.o := sumN_lt (fun w _ => by
            have := k3 w
            split
            · rw [if_pos (by omega)]; exact Nat.le_refl _
            · exact Nat.zero_le _) ⟨u, hu, by rw [if_neg hfu, if_pos hf]; exact Nat.zero_lt_one⟩
          rw [h2]
          omega
theorem inv_least (hE : E.OK n H) (hv0 : 0 ≤ v0 ∧ v0 < n) {s : Sr} (I : InvS E n H v0 t0 s) (hk : s.k = 0) : Least E n v0 t0 (rg s.o) := by
  refine ⟨I.le, I.walk, fun v t h => ?_⟩
  have hr : ∀ {v t : Int}, Walk E v0 t0 v t → 0 ≤ v ∧ v < n := fun h => by
    cases h with
    | here => exact hv0
    | step _ hj => exact hE.to _ hj
  induction h with
  | here => exact I.src
  | @step t j hw hj ih =>
    obtain ⟨r1, r2⟩ := hr hw
    have hlt : (E.fr j).toNat < n := by omega
    have hup := hE.up j hj t
    have ht := hE.to j hj
    by_cases hf : rg s.o (E.fr j).toNat < INF
    · rcases I.front _ hlt hf with ⟨i, hi, -⟩ | h
      · omega
      · have := h j hj (by omega)
        have := hE.mono j hj _ _ ih
        omega
    · have := I.le (E.to j).toNat (by omega)
      have := I.le _ hlt
      omega
/-- Steps that end, whatever they need. -/
def endsG (need : Sr → Prop) (step : Sr → Sr) : Nat → Sr → Prop
  | 0, s => s.k = 0
  | f + 1, s => s.k ≠ 0 ∧ need s ∧ endsG need step f (step s)
def runG (step : Sr → Sr) : Nat → Sr → List (List D)
  | 0, s => s.o
  | f + 1, s => runG step f (step s)
theorem inv_ends (hE : E.OK n H) (hN : Yields E N) (hB : max t0 H + 10000 * ((n : Int) + 1) < INF) (hv0 : 0 ≤ v0 ∧ v0 < n) {need : Sr → Prop} {Q : Nat} (hneed : ∀ s, InvS E n H v0 t0 s → s.k ≠ 0 → potN n (max t0 H + 10000 * ((n : Int) + 1)) t0 s ≤ Q → need s) :
    ∀ (m : Nat) (s : Sr), InvS E n H v0 t0 s → potN n (max t0 H + 10000 * ((n : Int) + 1)) t0 s ≤ m → m ≤ Q → ∃ f, f ≤ m ∧ endsG need (stepG N) f s ∧ Least E n v0 t0 (rg (runG (stepG N) f s))
  | 0, s, I, hm, hQ => by
    have hk : s.k = 0 := by unfold potN at hm; omega
    exact ⟨0, Nat.le_refl _, hk, inv_least hE hv0 I hk⟩
  | m + 1, s, I, hm, hQ => by
    by_cases hk : s.k = 0
    · exact ⟨0, Nat.zero_le _, hk, inv_least hE hv0 I hk⟩
    · obtain ⟨I', hp⟩ := inv_step hE hN hB I hk
      obtain ⟨f, h1, h2, h3⟩ := inv_ends hE hN hB hv0 hneed m (stepG N s) I' (by omega) (by omega)
      exact ⟨f + 1, by omega, ⟨hk, hneed s I hk (by omega), h2⟩, h3⟩
end
end Go.Proofs.Ytgmefblkmidglaa
