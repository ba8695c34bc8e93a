/-
  The reference functions of grips compute what their words say.
-/
import Derived.Test.YtlofnkkokcihnaaCarPB
namespace Go.Proofs.Ytlofnkkokcihnaa
open Go.Lite

theorem ok51_4 (n : Nat) : LoopSim C (n + 1) 51 (loopOf C.P 51 4) (mkL l51_4 G51_4) := by
  refine loop_of hC (sp := sp51) (lp := lp51) trivial [] (by kernel_rfl) rfl (fun k hk => by cases hk) (by kernel_rfl) (fun ds => (((ds.getD 0 default).L.length : Int) - (ds.getD 2 default).I).toNat) fun ds r h => ?_
  unfold G51_4 at h
  split at h
  · rename_i b a c
    obtain ⟨hp, h⟩ := need_some h
    rw [yes_iff] at hp
    obtain ⟨h1, h2, h3, h4, h5⟩ := hp
    have hl := row_len h1
    refine ⟨by rw [fuelC]; simp; omega, ?_⟩
    rw [show roundT C (mkTab sp51 lp51) 51 (loopOf C.P 51 4) l51_4 [b, a, c] = _ from t51_4 b a c]
    obtain ⟨k, hk⟩ : ∃ k : Nat, c.I = k := ⟨c.I.toNat, by omega⟩
    simp only [run_ite, run_need, run_leaf, hk, Int.toNat_natCast] at h h4 ⊢
    refine find_loop (q := fun j => !decide (a.I ≤ ix (b.L.getD j []) 0)) (i := k) (len := b.L.length) (val := fun i k => (.ret, [.i (freshFrom b.L a.I i k)])) (w := (.ret, [.i (interp (b.L.getD (k - 1) []) (b.L.getD k []) a.I)])) [D.l b.L, D.i a.I, D.i (k + 1 : Nat)] h ?_ ?_ ?_
    · intro k'
      simp only [freshFrom]
      by_cases hh : a.I ≤ ix (b.L.getD k []) 0
      · simp only [hh, decide_true, Bool.not_true, Bool.false_eq_true, if_true, if_false]
      · simp only [hh, decide_false, Bool.not_false, if_true, if_false]
    · by_cases hlt : k < b.L.length
      · have ka := row_knot h1 (j := k - 1) (by omega)
        have kb := row_knot h1 (j := k) hlt
        have kk := kb.2.2.resolve_left (by omega)
        simp only [wrap_succ (show k < 9223372036854775807 by omega), wrap_pred (show k < 9223372036854775807 by omega), toNat_pred, ix_def, Nat.zero_add]
        rw [interp_wrap ka.2.1 kb.2.1 ka.1 kb.1 ⟨h2, h3⟩, wrap_id (x := ix (b.L.getD k []) 0 - ix (b.L.getD (k - 1) []) 0) (by omega) (by omega)]
        have e1 : ((ix (b.L.getD k []) 0 - ix (b.L.getD (k - 1) []) 0 == 0) = false) := beq_eq_false_iff_ne.2 (by omega)
        grind
      · grind
    · intro hlt hp hh
      refine ⟨Eq.trans (need_yes (p := _) (t := _) ?_) hh, ?_⟩
      · simp only [I_i, L_l]
        exact ⟨h1, h2, h3, by omega, by omega⟩
      · show ((b.L.length : Int) - ((k + 1 : Nat) : Int)).toNat < ((b.L.length : Int) - c.I).toNat
        omega
  · cases h
theorem ok51 (n : Nat) : FnOK C (n + 2) 51 (mkF s51 G51) := by
  refine fn_of hC (sp := sp51) (lp := lp51) trivial (by kernel_rfl) [4] (by kernel_rfl) (by kernel_rfl) (fun k hk L hL => by simp at hk; subst hk; cases hL; exact ok51_4 n) fun ds r h => ?_
  unfold G51 at h
  split at h
  · rename_i a d
    obtain ⟨hp, h⟩ := need_some h
    rw [yes_iff] at hp
    rw [← h]
    exact (congrArg T.run (t51 a d)).trans (fresh_run hp.1 hp.2.1 hp.2.2)
  · cases h
theorem ok19 (n : Nat) : FnOK C (n + 3) 19 (mkF s19 G19) := by
  refine fn_of hC (sp := sp19) (lp := lp19) ⟨ok51 n, trivial⟩ (by kernel_rfl) [] (by kernel_rfl) rfl (fun k hk => by cases hk) fun ds r h => ?_
  unfold G19 at h
  split at h
  · rename_i a b c d e f g h0
    obtain ⟨hp, h⟩ := need_some h
    rw [yes_iff] at hp
    obtain ⟨⟨hs1, hs2, hs3, hs4⟩, h5, h6, h7, h8, h9, h10⟩ := hp
    rw [← h]
    refine (congrArg T.run (t19 a b c d e f g h0)).trans ?_
    unfold gripC
    cases hg : g.B with
    | true =>
      rw [hg, rowFor_true] at hs4
      simp only [run_ite, if_true, rowFor_true]
      rw [run_need, if_pos (decide_eq_true ⟨hs1, hs3⟩)]
      refine (need_yes ⟨hs4, h5, h6⟩).trans ?_
      rw [run_need, if_pos rfl, ← grip_wrap (freshV_range hs4) ⟨h7, h8⟩ ⟨h9, h10⟩]
      rfl
    | false =>
      rw [hg, rowFor_false] at hs4
      simp only [run_ite, Bool.false_eq_true, if_false, rowFor_false]
      rw [run_need, if_pos (decide_eq_true ⟨hs1, hs2⟩)]
      refine (need_yes ⟨hs4, h5, h6⟩).trans ?_
      rw [run_need, if_pos rfl, ← grip_wrap (freshV_range hs4) ⟨h7, h8⟩ ⟨h9, h10⟩]
      rfl
  · cases h
theorem rowAt_def {l : List (List D)} {j : Nat} : D.L (List.getD (List.getD l j []) 0 default) = rowAt l j := rfl
theorem ok49_9 (n : Nat) : LoopSim C (n + 1) 49 (loopOf C.P 49 9) (mkL l49_9 G49_9) := by
  refine loop_of hC (sp := sp49) (lp := lp49) ⟨ok50 n, trivial⟩ [] (by kernel_rfl) rfl (fun k hk => by cases hk) (by kernel_rfl) (fun ds => (((rowAt (ds.getD 0 default).L (ds.getD 2 default).I.toNat).length : Int) - (ds.getD 3 default).I).toNat) fun ds r h => ?_
  unfold G49_9 at h
  split at h
  · rename_i a b c d
    obtain ⟨hp, h⟩ := need_some h
    rw [yes_iff] at hp
    obtain ⟨h1, h2, h3, h4, h5, h6⟩ := hp
    refine ⟨by rw [fuelC]; simp; omega, ?_⟩
    rw [show roundT C (mkTab sp49 lp49) 49 (loopOf C.P 49 9) l49_9 [a, b, c, d] = _ from t49_9 a b c d]
    obtain ⟨k, hk⟩ : ∃ k : Nat, d.I = k := ⟨d.I.toNat, by omega⟩
    rw [run_need, if_pos (decide_eq_true ⟨h2, h3⟩)]
    have c1 : decide (0 ≤ c.I ∧ c.I < (a.L.length : Int)) = true := decide_eq_true ⟨h2, h3⟩
    simp only [run_ite, run_need, run_leaf, hk, Int.toNat_natCast, rowAt_def, c1, if_true] at h h5 h6 ⊢
    refine all_loop (p := knotAt (rowAt a.L c.I.toNat)) (i := k) (len := (rowAt a.L c.I.toNat).length) [D.l a.L, D.i b.I, D.i c.I, D.i (k + 1 : Nat)] h ?_ ?_
    · simp only [knotAt, wrap_succ (show k < 9223372036854775807 by omega), wrap_pred (show k < 9223372036854775807 by omega), toNat_pred, ix_def, Nat.zero_add]
      grind
    · intro hlt hp hh
      refine ⟨Eq.trans (need_yes (p := _) (t := _) ?_) hh, ?_⟩
      · simp only [I_i, L_l]
        exact ⟨h1, h2, h3, h4, by omega, by omega⟩
      · show (((rowAt a.L c.I.toNat).length : Int) - ((k + 1 : Nat) : Int)).toNat < (((rowAt a.L c.I.toNat).length : Int) - d.I).toNat
        omega
  · cases h
theorem ok49_4 (n : Nat) : LoopSim C (n + 1) 49 (loopOf C.P 49 4) (mkL l49_4 G49_4) := by
  refine loop_of hC (sp := sp49) (lp := lp49) ⟨ok50 n, trivial⟩ [9] (by kernel_rfl) (by kernel_rfl) (fun k hk L hL => by simp at hk; subst hk; cases hL; exact ok49_9 n) (by kernel_rfl) (fun ds => (((ds.getD 0 default).L.length : Int) - (ds.getD 2 default).I).toNat) fun ds r h => ?_
  unfold G49_4 at h
  split at h
  · rename_i a b c
    obtain ⟨hp, h⟩ := need_some h
    rw [yes_iff] at hp
    obtain ⟨h1, h2, h3, h4⟩ := hp
    have hb : big = 4611686018427387904 := rfl
    refine ⟨by rw [fuelC]; simp; omega, ?_⟩
    rw [show roundT C (mkTab sp49 lp49) 49 (loopOf C.P 49 4) l49_4 [a, b, c] = _ from t49_4 a b c]
    obtain ⟨k, hk⟩ : ∃ k : Nat, c.I = k := ⟨c.I.toNat, by omega⟩
    simp only [run_ite, run_need, run_leaf, hk, h2, Int.toNat_natCast, rowAt_def, Int.toNat_zero, Nat.sub_zero] at h h3 h4 ⊢
    refine all_loop (p := fun j => rowOk (rowAt a.L j)) (i := k) (len := a.L.length) [D.l a.L, D.i a.L.length, D.i (k + 1 : Nat)] h ?_ ?_
    · simp only [rowOk, wrap_succ (show k < 9223372036854775807 by omega), yes_iff, within]
      grind
    · intro hlt hp hh
      refine ⟨Eq.trans (need_yes (p := _) (t := _) ?_) hh, ?_⟩
      · simp only [I_i, L_l]
        exact ⟨h1, trivial, by omega, by omega⟩
      · show ((a.L.length : Int) - ((k + 1 : Nat) : Int)).toNat < ((a.L.length : Int) - c.I).toNat
        omega
  · cases h
theorem ok49 (n : Nat) : FnOK C (n + 2) 49 (mkF s49 G49) := by
  refine fn_of hC (sp := sp49) (lp := lp49) ⟨ok50 n, trivial⟩ (by kernel_rfl) [4] (by kernel_rfl) (by kernel_rfl) (fun k hk L hL => by simp at hk; subst hk; cases hL; exact ok49_4 n) fun ds r h => ?_
  unfold G49 at h
  split at h
  · rename_i a b
    obtain ⟨hp, h⟩ := need_some h
    rw [yes_iff] at hp
    rw [← h]
    refine (congrArg T.run (t49 a b)).trans ?_
    simp only [run_ite, run_need, run_leaf, yes_iff, Int.toNat_zero, Nat.sub_zero, rowsOk]
    grind
  · cases h
theorem ok18_5 (n : Nat) : LoopSim C (n + 2) 18 (loopOf C.P 18 5) (mkL l18_5 G18_5) := by
  refine loop_of hC (sp := sp18) (lp := lp18) ⟨ok49 n, ok50 (n + 1), trivial⟩ [] (by kernel_rfl) rfl (fun k hk => by cases hk) (by kernel_rfl) (fun ds => ((ds.getD 0 default).I - (ds.getD 1 default).I).toNat) fun ds r h => ?_
  unfold G18_5 at h
  split at h
  · rename_i m i a b c d
    obtain ⟨hp, h⟩ := need_some h
    rw [yes_iff] at hp
    obtain ⟨h1, h2, h3, h4⟩ := hp
    have hb : big = 4611686018427387904 := rfl
    refine ⟨by rw [fuelC]; simp; omega, ?_⟩
    rw [show roundT C (mkTab sp18 lp18) 18 (loopOf C.P 18 5) l18_5 [m, i, a, b, c, d] = _ from t18_5 m i a b c d]
    obtain ⟨k, hk⟩ : ∃ k : Nat, i.I = k := ⟨i.I.toNat, by omega⟩
    simp only [run_ite, run_need, run_leaf, hk, h2, Int.toNat_natCast] at h h3 h4 ⊢
    refine all_loop (p := fun j => within (ix (c.L.getD j []) 0) 0 1000) (i := k) (len := c.L.length) [D.i c.L.length, D.i (k + 1 : Nat), D.l a.L, D.l b.L, D.l c.L, D.i d.I] h ?_ ?_
    · simp only [wrap_succ (show k < 9223372036854775807 by omega), ix_def]
      grind
    · intro hlt hp hh
      refine ⟨Eq.trans (need_yes (p := _) (t := _) ?_) hh, ?_⟩
      · simp only [I_i, L_l]
        exact ⟨h1, trivial, by omega, by omega⟩
      · show ((c.L.length : Int) - ((k + 1 : Nat) : Int)).toNat < (m.I - i.I).toNat
        omega
  · cases h
theorem ok18 (n : Nat) : FnOK C (n + 3) 18 (mkF s18 G18) := by
  refine fn_of hC (sp := sp18) (lp := lp18) ⟨ok49 n, ok50 (n + 1), trivial⟩ (by kernel_rfl) [5] (by kernel_rfl) (by kernel_rfl) (fun k hk L hL => by simp at hk; subst hk; cases hL; exact ok18_5 n) fun ds r h => ?_
  unfold G18 at h
  split at h
  · rename_i a b c d
    obtain ⟨hp, h⟩ := need_some h
    rw [yes_iff] at hp
    obtain ⟨h1, h2, h3⟩ := hp
    rw [← h]
    refine (congrArg T.run (t18 a b c d)).trans ?_
    simp only [run_ite, run_need, run_leaf, compoundOk, wearOk, yes_true h1, yes_true h2, yes_iff, if_true, Int.toNat_zero, Nat.sub_zero, within]
    have e1 : ((b.L.length : Int) = a.L.length) ↔ b.L.length = a.L.length := Int.ofNat_inj
    have e2 : ((c.L.length : Int) = a.L.length) ↔ c.L.length = a.L.length := Int.ofNat_inj
    grind
  · cases h
theorem ok15_4 (n : Nat) : LoopSim C n 15 (loopOf C.P 15 4) (mkL l15_4 G15_4) := by
  refine loop_of hC (sp := sp15) (lp := lp15) trivial [] (by kernel_rfl) rfl (fun k hk => by cases hk) (by kernel_rfl) (fun ds => (((ds.getD 1 default).L.length : Int) - (ds.getD 0 default).I).toNat) fun ds r h => ?_
  unfold G15_4 at h
  split at h
  · rename_i i a b c d
    obtain ⟨hp, h⟩ := need_some h
    rw [yes_iff] at hp
    obtain ⟨h1, h2, h3⟩ := hp
    refine ⟨by rw [fuelC]; simp; omega, ?_⟩
    rw [show roundT C (mkTab sp15 lp15) 15 (loopOf C.P 15 4) l15_4 [i, a, b, c, d] = _ from t15_4 i a b c d]
    obtain ⟨k, hk⟩ : ∃ k : Nat, i.I = k := ⟨i.I.toNat, by omega⟩
    simp only [run_ite, run_need, run_leaf, hk, Int.toNat_natCast, rowAt_def] at h h2 h3 ⊢
    refine all_loop (p := fun j => decide ((rowAt a.L j).length ≤ 12)) (i := k) (len := a.L.length) [D.i (k + 1 : Nat), D.l a.L, D.l b.L, D.l c.L, D.i d.I] h ?_ ?_
    · simp only [wrap_succ (show k < 9223372036854775807 by omega)]
      grind
    · intro hlt hp hh
      refine ⟨Eq.trans (need_yes (p := _) (t := _) ?_) hh, ?_⟩
      · simp only [I_i, L_l]
        exact ⟨h1, by omega, by omega⟩
      · show ((a.L.length : Int) - ((k + 1 : Nat) : Int)).toNat < ((a.L.length : Int) - i.I).toNat
        omega
  · cases h
theorem ok15_9 (n : Nat) : LoopSim C n 15 (loopOf C.P 15 9) (mkL l15_9 G15_9) := by
  refine loop_of hC (sp := sp15) (lp := lp15) trivial [] (by kernel_rfl) rfl (fun k hk => by cases hk) (by kernel_rfl) (fun ds => (((ds.getD 2 default).L.length : Int) - (ds.getD 0 default).I).toNat) fun ds r h => ?_
  unfold G15_9 at h
  split at h
  · rename_i i a b c d
    obtain ⟨hp, h⟩ := need_some h
    rw [yes_iff] at hp
    obtain ⟨h1, h2, h3⟩ := hp
    refine ⟨by rw [fuelC]; simp; omega, ?_⟩
    rw [show roundT C (mkTab sp15 lp15) 15 (loopOf C.P 15 9) l15_9 [i, a, b, c, d] = _ from t15_9 i a b c d]
    obtain ⟨k, hk⟩ : ∃ k : Nat, i.I = k := ⟨i.I.toNat, by omega⟩
    simp only [run_ite, run_need, run_leaf, hk, Int.toNat_natCast, rowAt_def] at h h2 h3 ⊢
    refine all_loop (p := fun j => decide ((rowAt b.L j).length ≤ 12)) (i := k) (len := b.L.length) [D.i (k + 1 : Nat), D.l a.L, D.l b.L, D.l c.L, D.i d.I] h ?_ ?_
    · simp only [wrap_succ (show k < 9223372036854775807 by omega)]
      grind
    · intro hlt hp hh
      refine ⟨Eq.trans (need_yes (p := _) (t := _) ?_) hh, ?_⟩
      · simp only [I_i, L_l]
        exact ⟨h1, by omega, by omega⟩
      · show ((b.L.length : Int) - ((k + 1 : Nat) : Int)).toNat < ((b.L.length : Int) - i.I).toNat
        omega
  · cases h
theorem ok15 (n : Nat) : FnOK C (n + 1) 15 (mkF s15 G15) := by
  refine fn_of hC (sp := sp15) (lp := lp15) trivial (by kernel_rfl) [4, 9] (by kernel_rfl) (by kernel_rfl) (fun k hk L hL => by
    simp at hk; rcases hk with rfl | rfl
    · cases hL; exact ok15_4 n
    · cases hL; exact ok15_9 n) fun ds r h => ?_
  unfold G15 at h
  split at h
  · rename_i a b c d
    rw [← h]
    refine (congrArg T.run (t15 a b c d)).trans ?_
    simp only [run_ite, run_need, run_leaf, yes_iff, Int.toNat_zero, Nat.sub_zero, shortOk]
    grind
  · cases h
end Go.Proofs.Ytlofnkkokcihnaa
