/-
  The functions that push times compute what their words say.
-/
import Derived.Test.YtipbcpobnciccaaTimPD
import Derived.Test.YtipbcpobnciccaaTimTreeH
namespace Go.Proofs.Ytipbcpobnciccaa
open Go.Lite
set_option maxRecDepth 100000
theorem ok66 (n : Nat) : FnOK C (n + 2) 66 (mkF s66 G66) := by
  refine fn_ofS hC (sp := sp66) (lp := lp66) (sw := sw66) ⟨ok48 n, trivial⟩ trivial (by kernel_rfl) [] (by kernel_rfl) rfl (fun k hk => by cases hk) fun ds rr h => ?_
  unfold G66 at h
  split at h
  · rename_i a
    refine (congrArg T.run (t66 a)).trans ?_
    exact h
  · cases h
theorem ok1080_2 (n : Nat) : LoopSim C (n + 2) 80 (loopOf C.P 80 2) (mkL l1080_2 G1080_2) := by
  refine loop_ofK hC (sp := sp1080) (lp := lp1080) (sw := sw1080) ⟨ok66 n, trivial⟩ trivial 0 [] (by kernel_rfl) rfl (fun k hk => by cases hk) (by kernel_rfl) (fun ds => ((ds.getD 1 default).I - (ds.getD 2 default).I).toNat) fun ds rr h => ?_
  unfold G1080_2 at h
  split at h
  · rename_i l m i
    obtain ⟨hp, h⟩ := need_some h
    rw [yes_iff] at hp
    obtain ⟨h1, h2, h3, h4⟩ := hp
    have hb := big_eq
    refine ⟨by rw [fuelC]; simp; omega, ?_⟩
    rw [show roundTK C (mkTab sp1080 lp1080 sw1080) 80 (loopOf C.P 80 2) 0 l1080_2 [l, m, i] = _ from t1080_2 l m i]
    obtain ⟨k, hk⟩ : ∃ k : Nat, i.I = k := ⟨i.I.toNat, by omega⟩
    
    simp only [hk, h2, Int.toNat_natCast, rg_def] at h h4 ⊢
    refine rd_if (fun hlt => ?_) fun hge => rd_out (first_end h (by omega))
    have hkl : k < l.L.length := by omega
    obtain ⟨s1, s2⟩ := first_step h hkl
    refine rd_dec ⟨by omega, by omega⟩ (rd_ite (fun c => rd_out (s1 c)) fun c => ?_)
    rw [wrap_succ (by omega)]
    exact rd_again ((need_yes ⟨h1, rfl, by simp only [I_i]; omega, by simp only [I_i, L_l]; omega⟩).trans (s2 c)) (show ((l.L.length : Int) - ((k + 1 : Nat) : Int)).toNat < (m.I - i.I).toNat by omega)
  · cases h
theorem ok1080 (n : Nat) : FnOK C (n + 3) 80 (mkF s1080 G1080) := by
  refine fn_ofS hC (sp := sp1080) (lp := lp1080) (sw := sw1080) ⟨ok66 n, trivial⟩ trivial (by kernel_rfl) [2] (by kernel_rfl) (by kernel_rfl) (fun k hk L hL => by simp at hk; subst hk; cases hL; exact ok1080_2 n) fun ds rr h => ?_
  unfold G1080 at h
  split at h
  · rename_i l
    obtain ⟨hp, h⟩ := need_some h
    rw [yes_iff] at hp
    have h1 := hp
    refine (congrArg T.run (t1080 l)).trans ?_
    rw [← h]
    simp only [Int.toNat_zero, Nat.sub_zero]
    refine go_yes ⟨h1, by trivial, by omega, by omega⟩ (go_if (fun c => rfl) fun c => ?_)
    rw [firstFrom_neg (by omega)]
  · cases h
theorem ok1061 (n : Nat) : FnOK C (n + 4) 61 (mkF s1061 G1061) := by
  refine fn_ofS hC (sp := sp1061) (lp := lp1061) (sw := sw1061) ⟨ok1080 n, ok66 (n + 1), trivial⟩ trivial (by kernel_rfl) [] (by kernel_rfl) rfl (fun k hk => by cases hk) fun ds rr h => ?_
  unfold G1061 at h
  split at h
  · rename_i l
    obtain ⟨hp, h⟩ := need_some h
    rw [yes_iff] at hp
    have h1 := hp
    refine (congrArg T.run (t1061 l)).trans ?_
    rw [← h]
    refine go_yes h1 ?_
    rw [firstFrom_all]
    simp only [Bool.not_not]
  · cases h
theorem ok35_2 (n : Nat) : LoopSim C (n + 0) 35 (loopOf C.P 35 2) (mkL l35_2 G35_2) := by
  refine loop_ofK hC (sp := sp35) (lp := lp35) (sw := sw35) trivial trivial 0 [] (by kernel_rfl) rfl (fun k hk => by cases hk) (by kernel_rfl) (fun ds => (((ds.getD 0 default).L.length : Int) - (ds.getD 2 default).I).toNat) fun ds rr h => ?_
  unfold G35_2 at h
  split at h
  · rename_i l n i
    obtain ⟨hp, h⟩ := need_some h
    rw [yes_iff] at hp
    obtain ⟨h1, h2, h3⟩ := hp
    have hb := big_eq
    refine ⟨by rw [fuelC]; simp; omega, ?_⟩
    rw [show roundTK C (mkTab sp35 lp35 sw35) 35 (loopOf C.P 35 2) 0 l35_2 [l, n, i] = _ from t35_2 l n i]
    obtain ⟨k, hk⟩ : ∃ k : Nat, i.I = k := ⟨i.I.toNat, by omega⟩
    
    simp only [hk, Int.toNat_natCast, rg_def] at h h3 ⊢
    refine rd_if (fun hlt => ?_) fun hge => rd_out (all_end h (by omega))
    have hkl : k < l.L.length := by omega
    obtain ⟨s1, s2⟩ := all_step h hkl
    have e0 : inT l.L k = decide (0 ≤ rg l.L k ∧ rg l.L k ≤ 1000000000) := within_dec
    refine rd_dec ⟨by omega, by omega⟩ (rd_if (fun c => rd_out (s1 (by rw [e0]; exact decide_eq_false (by omega)))) fun c => rd_dec ⟨by omega, by omega⟩ (rd_if (fun c2 => rd_out (s1 (by rw [e0]; exact decide_eq_false (by omega)))) fun c2 => ?_))
    rw [wrap_succ (by omega)]
    exact rd_again ((need_yes ⟨h1, by simp only [I_i]; omega, by simp only [I_i, L_l]; omega⟩).trans (s2 (by rw [e0]; exact decide_eq_true (by omega)))) (show ((l.L.length : Int) - ((k + 1 : Nat) : Int)).toNat < ((l.L.length : Int) - i.I).toNat by omega)
  · cases h
theorem ok35 (n : Nat) : FnOK C (n + 1) 35 (mkF s35 G35) := by
  refine fn_ofS hC (sp := sp35) (lp := lp35) (sw := sw35) trivial trivial (by kernel_rfl) [2] (by kernel_rfl) (by kernel_rfl) (fun k hk L hL => by simp at hk; subst hk; cases hL; exact ok35_2 n) fun ds rr h => ?_
  unfold G35 at h
  split at h
  · rename_i l n
    obtain ⟨hp, h⟩ := need_some h
    rw [yes_iff] at hp
    obtain ⟨h1, h2⟩ := hp
    refine (congrArg T.run (t35 l n)).trans ?_
    rw [← h]
    unfold timesB
    simp only [Int.toNat_zero, Nat.sub_zero, rg_def]
    refine go_yes ⟨h1, by omega, by omega⟩ (go_ite (fun c => ?_) fun c => by rw [c, Bool.false_and])
    rw [c, Bool.true_and]
    refine go_ite (fun c2 => ?_) fun c2 => ?_
    · have e : (l.L.length : Int) = n.I := eq_of_beq c2
      refine go_dec ⟨by omega, by omega⟩ ?_
      rw [decide_eq_true e, Bool.true_and]
    · have : ¬ (l.L.length : Int) = n.I := fun e => by rw [e] at c2; simp at c2
      rw [decide_eq_false this, Bool.false_and]
  · cases h
end Go.Proofs.Ytipbcpobnciccaa
