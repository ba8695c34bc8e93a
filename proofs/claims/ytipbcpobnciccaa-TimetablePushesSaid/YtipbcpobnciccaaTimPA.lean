/-
  The functions that say which nets are as defined compute what their words say.
-/
import Derived.Test.YtipbcpobnciccaaTimBase
import Derived.Test.YtipbcpobnciccaaTimTreeA
namespace Go.Proofs.Ytipbcpobnciccaa
open Go.Lite

theorem ok48 (n : Nat) : FnOK C (n + 1) 48 (mkF s48 G48) := by
  refine fn_ofS hC (sp := sp48) (lp := lp48) (sw := sw48) trivial trivial (by kernel_rfl) [] (by kernel_rfl) rfl (fun k hk => by cases hk) fun ds rr h => ?_
  unfold G48 at h
  split at h
  · rename_i a b c
    refine (congrArg T.run (t48 a b c)).trans ?_
    rw [← h]
    simp only [run_ite, run_leaf, Lite.within]
    split <;> rename_i hc
    · have : b.I ≤ a.I := of_decide_eq_true hc
      simp [this]
    · have : ¬ b.I ≤ a.I := fun h => hc (decide_eq_true h)
      simp [this]
  · cases h
theorem ok54 (n : Nat) : FnOK C (n + 1) 54 (mkF s54 G54) := by
  refine fn_ofS hC (sp := sp54) (lp := lp54) (sw := sw54) trivial trivial (by kernel_rfl) [] (by kernel_rfl) rfl (fun k hk => by cases hk) fun ds rr h => ?_
  unfold G54 at h
  split at h
  · rename_i a b c
    refine (congrArg T.run (t54 a b c)).trans ?_
    rw [← h]
    simp only [run_ite, run_leaf, Lite.within]
    split <;> rename_i hc
    · have : b.I ≤ a.I := of_decide_eq_true hc
      simp [this]
    · have : ¬ b.I ≤ a.I := fun h => hc (decide_eq_true h)
      simp [this]
  · cases h
theorem ok74 (n : Nat) : FnOK C (n + 2) 74 (mkF s74 G74) := by
  refine fn_ofS hC (sp := sp74) (lp := lp74) (sw := sw74) ⟨ok48 n, trivial⟩ trivial (by kernel_rfl) [] (by kernel_rfl) rfl (fun k hk => by cases hk) fun ds rr h => ?_
  unfold G74 at h
  split at h
  · rename_i a b c d
    obtain ⟨hp, h⟩ := need_some h
    rw [yes_iff] at hp
    obtain ⟨h1, h2⟩ := hp
    refine (congrArg T.run (t74 a b c d)).trans ?_
    rw [← h]
    have w : IntKind.i64.wrap (d.I - 1) = d.I - 1 := wrap_id (by omega) (by omega)
    rw [w]
    unfold linkP
    refine go_not (fun c1 => by simp [c1]) fun c1 => go_not (fun c2 => by simp [c1, c2]) fun c2 => by simp [c1, c2]
  · cases h
theorem ok51_2 (n : Nat) : LoopSim C (n + 2) 51 (loopOf C.P 51 2) (mkL l51_2 G51_2) := by
  refine loop_ofK hC (sp := sp51) (lp := lp51) (sw := sw51) ⟨ok74 n, trivial⟩ trivial 0 [] (by kernel_rfl) rfl (fun k hk => by cases hk) (by kernel_rfl) (fun ds => ((ds.getD 2 default).I - (ds.getD 3 default).I).toNat) fun ds rr h => ?_
  unfold G51_2 at h
  split at h
  · rename_i l n m i
    obtain ⟨hp, h⟩ := need_some h
    rw [yes_iff] at hp
    obtain ⟨h1, h2, h3, h4, h5, h6⟩ := hp
    have hb := big_eq
    refine ⟨by rw [fuelC]; simp; omega, ?_⟩
    rw [show roundTK C (mkTab sp51 lp51 sw51) 51 (loopOf C.P 51 2) 0 l51_2 [l, n, m, i] = _ from t51_2 l n m i]
    obtain ⟨k, hk⟩ : ∃ k : Nat, i.I = k := ⟨i.I.toNat, by omega⟩
    simp only [hk, h4, Int.toNat_natCast] at h h6 ⊢
    refine rd_if (fun hlt => ?_) fun hge => rd_out (first_end h (by omega))
    have hkl : k < l.L.length := by omega
    obtain ⟨s1, s2⟩ := first_step h hkl
    refine rd_dec ⟨by omega, by omega⟩ (rd_yes ⟨h1, h2⟩ (rd_not (fun c => rd_out (s1 ?_)) fun c => ?_))
    · show (!linkOk n.I l.L k) = true
      unfold linkOk lkF lkT lkW ix
      rw [c]; rfl
    · rw [wrap_succ (by omega)]
      refine rd_again ((need_yes ⟨h1, h2, h3, rfl, by simp only [I_i]; omega, by simp only [I_i, L_l]; omega⟩).trans (s2 ?_)) (show ((l.L.length : Int) - ((k + 1 : Nat) : Int)).toNat < (m.I - i.I).toNat by omega)
      show (!linkOk n.I l.L k) = false
      unfold linkOk lkF lkT lkW ix
      rw [c]; rfl
  · cases h
theorem ok51 (n : Nat) : FnOK C (n + 3) 51 (mkF s51 G51) := by
  refine fn_ofS hC (sp := sp51) (lp := lp51) (sw := sw51) ⟨ok74 n, trivial⟩ trivial (by kernel_rfl) [2] (by kernel_rfl) (by kernel_rfl) (fun k hk L hL => by simp at hk; subst hk; cases hL; exact ok51_2 n) fun ds rr h => ?_
  unfold G51 at h
  split at h
  · rename_i l n
    obtain ⟨hp, h⟩ := need_some h
    rw [yes_iff] at hp
    obtain ⟨h1, h2, h3⟩ := hp
    refine (congrArg T.run (t51 l n)).trans ?_
    rw [← h]
    simp only [Int.toNat_zero, Nat.sub_zero]
    refine go_yes ⟨h1, h2, h3, by trivial, by omega, by omega⟩ (go_if (fun c => rfl) fun c => ?_)
    rw [firstFrom_neg (by omega)]
  · cases h
theorem ok63 (n : Nat) : FnOK C (n + 4) 63 (mkF s63 G63) := by
  refine fn_ofS hC (sp := sp63) (lp := lp63) (sw := sw63) ⟨ok51 n, ok74 (n + 1), trivial⟩ trivial (by kernel_rfl) [] (by kernel_rfl) rfl (fun k hk => by cases hk) fun ds rr h => ?_
  unfold G63 at h
  split at h
  · rename_i l n
    obtain ⟨hp, h⟩ := need_some h
    rw [yes_iff] at hp
    obtain ⟨h1, h2, h3⟩ := hp
    refine (congrArg T.run (t63 l n)).trans ?_
    rw [← h]
    refine go_yes ⟨h1, h2, h3⟩ ?_
    rw [firstFrom_all]
    simp only [Bool.not_not]
  · cases h
theorem ok47 (n : Nat) : FnOK C (n + 5) 47 (mkF s47 G47) := by
  refine fn_ofS hC (sp := sp47) (lp := lp47) (sw := sw47) ⟨ok48 (n + 3), ok63 n, ok74 (n + 2), trivial⟩ trivial (by kernel_rfl) [] (by kernel_rfl) rfl (fun k hk => by cases hk) fun ds rr h => ?_
  unfold G47 at h
  split at h
  · rename_i n l
    obtain ⟨hp, h⟩ := need_some h
    rw [yes_iff] at hp
    have h1 := hp
    refine (congrArg T.run (t47 n l)).trans ?_
    rw [← h]
    unfold netOk
    refine go_ite (fun c => go_if (fun c2 => ?_) fun c2 => ?_) fun c => by simp [c]
    · have c3 := Lite.within_iff.1 c
      refine go_yes ⟨c3.1, c3.2, h1⟩ ?_
      have c4 : l.L.length ≤ 5000 := by omega
      simp [c, c4]
    · have c4 : ¬ l.L.length ≤ 5000 := by omega
      simp [c4]
  · cases h
theorem ok18_4 (n : Nat) : LoopSim C (n + 1) 18 (loopOf C.P 18 4) (mkL l18_4 G18_4) := by
  refine loop_ofK hC (sp := sp18) (lp := lp18) (sw := sw18) ⟨ok54 n, trivial⟩ trivial 0 [] (by kernel_rfl) rfl (fun k hk => by cases hk) (by kernel_rfl) (fun ds => (((ds.getD 1 default).L.length : Int) - (ds.getD 2 default).I).toNat) fun ds rr h => ?_
  unfold G18_4 at h
  split at h
  · rename_i n l i
    obtain ⟨hp, h⟩ := need_some h
    rw [yes_iff] at hp
    obtain ⟨h1, h2, h3, h4, h5⟩ := hp
    have hb := big_eq
    refine ⟨by rw [fuelC]; simp; omega, ?_⟩
    rw [show roundTK C (mkTab sp18 lp18 sw18) 18 (loopOf C.P 18 4) 0 l18_4 [n, l, i] = _ from t18_4 n l i]
    obtain ⟨k, hk⟩ : ∃ k : Nat, i.I = k := ⟨i.I.toNat, by omega⟩
    have w : IntKind.i64.wrap (n.I - 1) = n.I - 1 := wrap_id (by omega) (by omega)
    simp only [hk, w, Int.toNat_natCast] at h h5 ⊢
    refine rd_if (fun hlt => ?_) fun hge => rd_out (all_end h (by omega))
    have hkl : k < l.L.length := by omega
    obtain ⟨s1, s2⟩ := all_step h hkl
    have e0 : linkOk n.I l.L k = linkP n.I ((l.L.getD k []).getD 0 default).I ((l.L.getD k []).getD 1 default).I ((l.L.getD k []).getD 2 default).I := rfl
    simp only [e0, linkP] at s1 s2
    refine rd_dec ⟨by omega, by omega⟩ (rd_not (fun c => rd_out (s1 (by rw [c]; rfl))) fun c1 => rd_not (fun c => rd_out (s1 (by rw [c, Bool.and_false]; rfl))) fun c2 => rd_not (fun c => rd_out (s1 (by rw [c, Bool.and_false]))) fun c3 => ?_)
    rw [wrap_succ (by omega)]
    exact rd_again ((need_yes ⟨h1, h2, h3, by simp only [I_i]; omega, by simp only [I_i, L_l]; omega⟩).trans (s2 (by rw [c1, c2, c3]; rfl))) (show ((l.L.length : Int) - ((k + 1 : Nat) : Int)).toNat < ((l.L.length : Int) - i.I).toNat by omega)
  · cases h
theorem ok18 (n : Nat) : FnOK C (n + 2) 18 (mkF s18 G18) := by
  refine fn_ofS hC (sp := sp18) (lp := lp18) (sw := sw18) ⟨ok54 n, trivial⟩ trivial (by kernel_rfl) [4] (by kernel_rfl) (by kernel_rfl) (fun k hk L hL => by simp at hk; subst hk; cases hL; exact ok18_4 n) fun ds rr h => ?_
  unfold G18 at h
  split at h
  · rename_i n l
    obtain ⟨hp, h⟩ := need_some h
    rw [yes_iff] at hp
    have h1 := hp
    refine (congrArg T.run (t18 n l)).trans ?_
    rw [← h]
    unfold netOk
    refine go_not (fun c => by simp [c]) fun c => go_if (fun c2 => ?_) fun c2 => ?_
    · have c4 : ¬ l.L.length ≤ 5000 := by omega
      simp [c4]
    · have c3 := Lite.within_iff.1 c
      have c4 : l.L.length ≤ 5000 := by omega
      refine go_yes ⟨c3.1, c3.2, h1, by omega, by omega⟩ ?_
      simp only [Int.toNat_zero, Nat.sub_zero, c, c4, decide_true, Bool.true_and]
      refine go_ite (fun c5 => by rw [c5]) fun c5 => by rw [c5]
  · cases h
end Go.Proofs.Ytipbcpobnciccaa
