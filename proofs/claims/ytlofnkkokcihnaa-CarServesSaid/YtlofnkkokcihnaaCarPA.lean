/-
  The functions of grips compute what their words say.
-/
import Derived.Test.YtlofnkkokcihnaaCarTreeA
namespace Go.Proofs.Ytlofnkkokcihnaa
open Go.Lite

theorem hC : ∀ t Y, C.ty t = some Y → tyOf C.P t = some Y := by
  intro t Y h
  dsimp only [C] at h ⊢
  exact h
theorem fuelC : C.fuel = 18446744073709551616 := by kernel_rfl

theorem ok47 (n : Nat) : FnOK C (n + 1) 47 (mkF s47 G47) := by
  refine fn_of hC (sp := sp47) (lp := lp47) trivial (by kernel_rfl) [] (by kernel_rfl) rfl (fun k hk => by cases hk) fun ds r h => ?_
  unfold G47 at h
  split at h
  · rename_i a b c
    rw [← h]
    refine (congrArg T.run (t47 a b c)).trans ?_
    simp only [run_ite, run_leaf, within]
    split <;> rename_i hc
    · have : b.I ≤ a.I := of_decide_eq_true hc
      simp [this]
    · have : ¬ b.I ≤ a.I := fun h => hc (decide_eq_true h)
      simp [this]
  · cases h
theorem ok50 (n : Nat) : FnOK C (n + 1) 50 (mkF s50 G50) := by
  refine fn_of hC (sp := sp50) (lp := lp50) trivial (by kernel_rfl) [] (by kernel_rfl) rfl (fun k hk => by cases hk) fun ds r h => ?_
  unfold G50 at h
  split at h
  · rename_i a b c
    rw [← h]
    refine (congrArg T.run (t50 a b c)).trans ?_
    simp only [run_ite, run_leaf, within]
    split <;> rename_i hc
    · have : b.I ≤ a.I := of_decide_eq_true hc
      simp [this]
    · have : ¬ b.I ≤ a.I := fun h => hc (decide_eq_true h)
      simp [this]
  · cases h

theorem ok75_2 (n : Nat) : LoopSim C (n + 1) 75 (loopOf C.P 75 2) (mkL l75_2 G75_2) := by
  refine loop_of hC (sp := sp75) (lp := lp75) ⟨ok47 n, trivial⟩ [] (by kernel_rfl) rfl (fun k hk => by cases hk) (by kernel_rfl) (fun ds => ((ds.getD 2 default).I - (ds.getD 3 default).I).toNat) fun ds r h => ?_
  unfold G75_2 at h
  split at h
  · rename_i l0 l n i
    obtain ⟨hp, h⟩ := need_some h
    rw [yes_iff] at hp
    obtain ⟨h1, h2, h3, h4, h5⟩ := hp
    have hb : big = 4611686018427387904 := rfl
    refine ⟨by rw [fuelC]; simp; omega, ?_⟩
    rw [show roundT C (mkTab sp75 lp75) 75 (loopOf C.P 75 2) l75_2 [l0, l, n, i] = _ from t75_2 l0 l n i]
    obtain ⟨k, hk⟩ : ∃ k : Nat, i.I = k := ⟨i.I.toNat, by omega⟩
    simp only [run_ite, run_need, run_leaf, hk, h1, h2, Int.toNat_natCast, ix_def, Nat.zero_add] at h h4 ⊢
    refine all_loop (p := knotAt l.L) (i := k) (len := l.L.length) [D.l l.L, D.l l.L, D.i l.L.length, D.i (k + 1 : Nat)] h ?_ ?_
    · simp only [knotAt, wrap_succ (show k < 9223372036854775807 by omega), wrap_pred (show k < 9223372036854775807 by omega), toNat_pred]
      grind
    · intro hlt hp hh
      refine ⟨Eq.trans (need_yes (p := _) (t := _) ?_) hh, ?_⟩
      · simp only [I_i, L_l]
        exact ⟨trivial, trivial, by omega, by omega, h5⟩
      · show ((l.L.length : Int) - ((k + 1 : Nat) : Int)).toNat < (n.I - i.I).toNat
        omega
  · cases h

theorem ok75 (n : Nat) : FnOK C (n + 2) 75 (mkF s75 G75) := by
  refine fn_of hC (sp := sp75) (lp := lp75) ⟨ok47 n, trivial⟩ (by kernel_rfl) [2] (by kernel_rfl) (by kernel_rfl) (fun k hk L hL => by simp at hk; subst hk; cases hL; exact ok75_2 n) fun ds r h => ?_
  unfold G75 at h
  split at h
  · rename_i l
    obtain ⟨hp, h⟩ := need_some h
    rw [yes_iff] at hp
    rw [← h]
    refine (congrArg T.run (t75 l)).trans ?_
    simp [run_ite, run_need, run_leaf, yes_iff, hp, rowOk]
    split <;> rename_i hc <;> simp [hc]
  · cases h
theorem ok74 (n : Nat) : FnOK C (n + 3) 74 (mkF s74 G74) := by
  refine fn_of hC (sp := sp74) (lp := lp74) ⟨ok75 n, trivial⟩ (by kernel_rfl) [] (by kernel_rfl) rfl (fun k hk => by cases hk) fun ds r h => ?_
  unfold G74 at h
  split at h
  · rename_i l
    rw [← h]
    exact congrArg T.run (t74 l)
  · cases h
theorem ok78 (n : Nat) : FnOK C (n + 2) 78 (mkF s78 G78) := by
  refine fn_of hC (sp := sp78) (lp := lp78) ⟨ok47 n, trivial⟩ (by kernel_rfl) [] (by kernel_rfl) rfl (fun k hk => by cases hk) fun ds r h => ?_
  unfold G78 at h
  split at h
  · rename_i l
    rw [← h]
    exact congrArg T.run (t78 l)
  · cases h
theorem ok98_2 (n : Nat) : LoopSim C (n + 3) 98 (loopOf C.P 98 2) (mkL l98_2 G98_2) := by
  refine loop_of hC (sp := sp98) (lp := lp98) ⟨ok74 n, trivial⟩ [] (by kernel_rfl) rfl (fun k hk => by cases hk) (by kernel_rfl) (fun ds => ((ds.getD 1 default).I - (ds.getD 2 default).I).toNat) fun ds r h => ?_
  unfold G98_2 at h
  split at h
  · rename_i l n i
    obtain ⟨hp, h⟩ := need_some h
    rw [yes_iff] at hp
    obtain ⟨h1, h2, h3, h4⟩ := hp
    have hb : big = 4611686018427387904 := rfl
    have hsm := h1.1
    refine ⟨by rw [fuelC]; simp; omega, ?_⟩
    rw [show roundT C (mkTab sp98 lp98) 98 (loopOf C.P 98 2) l98_2 [l, n, i] = _ from t98_2 l n i]
    obtain ⟨k, hk⟩ : ∃ k : Nat, i.I = k := ⟨i.I.toNat, by omega⟩
    simp only [run_ite, run_need, run_leaf, hk, h2, Int.toNat_natCast] at h h4 ⊢
    refine first_loop (p := fun j => !rowOk (rowAt l.L j)) (i := k) (len := l.L.length) [D.l l.L, D.i l.L.length, D.i (k + 1 : Nat)] h ?_ ?_
    · simp only [wrap_succ (show k < 9223372036854775807 by omega)]
      have := h1.2 k
      simp only [rowAt, lx_def, yes_iff] at this ⊢
      grind
    · intro hlt hp hh
      refine ⟨Eq.trans (need_yes (p := _) (t := _) ?_) hh, ?_⟩
      · simp only [I_i, L_l]
        exact ⟨h1, trivial, by omega, by omega⟩
      · show ((l.L.length : Int) - ((k + 1 : Nat) : Int)).toNat < (n.I - i.I).toNat
        omega
  · cases h
theorem ok98 (n : Nat) : FnOK C (n + 4) 98 (mkF s98 G98) := by
  refine fn_of hC (sp := sp98) (lp := lp98) ⟨ok74 n, trivial⟩ (by kernel_rfl) [2] (by kernel_rfl) (by kernel_rfl) (fun k hk L hL => by simp at hk; subst hk; cases hL; exact ok98_2 n) fun ds r h => ?_
  unfold G98 at h
  split at h
  · rename_i l
    obtain ⟨hp, h⟩ := need_some h
    rw [yes_iff] at hp
    rw [← h]
    refine (congrArg T.run (t98 l)).trans ?_
    refine (need_yes ⟨hp, by omega, by omega, by omega⟩).trans ?_
    simp only [run_ite, run_leaf, Int.toNat_zero, Nat.sub_zero]
    split
    · rfl
    · rename_i hc
      have : ¬ firstFrom (fun j => !rowOk (rowAt l.L j)) 0 l.L.length ≥ 0 := fun hh => hc (decide_eq_true hh)
      rw [firstFrom_neg (by omega)]
  · cases h
theorem ok99_2 (n : Nat) : LoopSim C (n + 2) 99 (loopOf C.P 99 2) (mkL l99_2 G99_2) := by
  refine loop_of hC (sp := sp99) (lp := lp99) ⟨ok78 n, trivial⟩ [] (by kernel_rfl) rfl (fun k hk => by cases hk) (by kernel_rfl) (fun ds => ((ds.getD 1 default).I - (ds.getD 2 default).I).toNat) fun ds r h => ?_
  unfold G99_2 at h
  split at h
  · rename_i l n i
    obtain ⟨hp, h⟩ := need_some h
    rw [yes_iff] at hp
    obtain ⟨h1, h2, h3, h4⟩ := hp
    have hb : big = 4611686018427387904 := rfl
    refine ⟨by rw [fuelC]; simp; omega, ?_⟩
    rw [show roundT C (mkTab sp99 lp99) 99 (loopOf C.P 99 2) l99_2 [l, n, i] = _ from t99_2 l n i]
    obtain ⟨k, hk⟩ : ∃ k : Nat, i.I = k := ⟨i.I.toNat, by omega⟩
    simp only [run_ite, run_need, run_leaf, hk, h2, Int.toNat_natCast] at h h4 ⊢
    refine first_loop (p := fun j => !within (ix (l.L.getD j []) 0) 0 1000) (i := k) (len := l.L.length) [D.l l.L, D.i l.L.length, D.i (k + 1 : Nat)] h ?_ ?_
    · simp only [wrap_succ (show k < 9223372036854775807 by omega), ix_def]
      grind
    · intro hlt hp hh
      refine ⟨Eq.trans (need_yes (p := _) (t := _) ?_) hh, ?_⟩
      · simp only [I_i, L_l]
        exact ⟨h1, trivial, by omega, by omega⟩
      · show ((l.L.length : Int) - ((k + 1 : Nat) : Int)).toNat < (n.I - i.I).toNat
        omega
  · cases h
theorem ok99 (n : Nat) : FnOK C (n + 3) 99 (mkF s99 G99) := by
  refine fn_of hC (sp := sp99) (lp := lp99) ⟨ok78 n, trivial⟩ (by kernel_rfl) [2] (by kernel_rfl) (by kernel_rfl) (fun k hk L hL => by simp at hk; subst hk; cases hL; exact ok99_2 n) fun ds r h => ?_
  unfold G99 at h
  split at h
  · rename_i l
    obtain ⟨hp, h⟩ := need_some h
    rw [yes_iff] at hp
    rw [← h]
    refine (congrArg T.run (t99 l)).trans ?_
    refine (need_yes ⟨hp, by omega, by omega, by omega⟩).trans ?_
    simp only [run_ite, run_leaf, Int.toNat_zero, Nat.sub_zero]
    split
    · rfl
    · rename_i hc
      have : ¬ firstFrom (fun j => !within (ix (l.L.getD j []) 0) 0 1000) 0 l.L.length ≥ 0 := fun hh => hc (decide_eq_true hh)
      rw [firstFrom_neg (by omega)]
  · cases h
theorem ok76 (n : Nat) : FnOK C (n + 5) 76 (mkF s76 G76) := by
  refine fn_of hC (sp := sp76) (lp := lp76) ⟨ok98 n, (ok74 (n + 1)), trivial⟩ (by kernel_rfl) [] (by kernel_rfl) rfl (fun k hk => by cases hk) fun ds r h => ?_
  unfold G76 at h
  split at h
  · rename_i l
    rw [← h]
    refine (congrArg T.run (t76 l)).trans ?_
    rw [firstFrom_all]
    simp only [Bool.not_not]
    rfl
  · cases h
theorem ok77 (n : Nat) : FnOK C (n + 4) 77 (mkF s77 G77) := by
  refine fn_of hC (sp := sp77) (lp := lp77) ⟨ok99 n, ok78 (n + 1), trivial⟩ (by kernel_rfl) [] (by kernel_rfl) rfl (fun k hk => by cases hk) fun ds r h => ?_
  unfold G77 at h
  split at h
  · rename_i l
    rw [← h]
    refine (congrArg T.run (t77 l)).trans ?_
    rw [firstFrom_all]
    simp only [Bool.not_not]
    rfl
  · cases h
theorem ok46 (n : Nat) : FnOK C (n + 6) 46 (mkF s46 G46) := by
  refine fn_of hC (sp := sp46) (lp := lp46) ⟨ok47 (n + 4), ok76 n, ok77 (n + 1), trivial⟩ (by kernel_rfl) [] (by kernel_rfl) rfl (fun k hk => by cases hk) fun ds r h => ?_
  unfold G46 at h
  split at h
  · rename_i a b c d
    obtain ⟨hp, h⟩ := need_some h
    rw [yes_iff] at hp
    rw [← h]
    refine (congrArg T.run (t46 a b c d)).trans ?_
    simp only [run_ite, run_need, run_leaf, compoundOk, yes_true hp.1, yes_true hp.2.1, yes_true hp.2.2, if_true]
    have e1 : ((b.L.length : Int) = a.L.length) ↔ b.L.length = a.L.length := Int.ofNat_inj
    have e2 : ((c.L.length : Int) = a.L.length) ↔ c.L.length = a.L.length := Int.ofNat_inj
    grind
  · cases h
end Go.Proofs.Ytlofnkkokcihnaa
