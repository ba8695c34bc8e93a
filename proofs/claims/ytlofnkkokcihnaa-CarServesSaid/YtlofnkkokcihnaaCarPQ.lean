/-
  The functions of plans of tyres compute what their words say.
-/
import Derived.Test.YtlofnkkokcihnaaCarPT
import Derived.Test.YtlofnkkokcihnaaCarPI
import Derived.Test.YtlofnkkokcihnaaCarTreeQ
import Derived.Test.YtlofnkkokcihnaaSymGo
namespace Go.Proofs.Ytlofnkkokcihnaa
open Go.Lite

/-! ### Steps of loops -/
section
variable {α : Type} {p : Nat → Bool} {i len : Nat} {rt rf r : α}
theorem all_step (h : (T.ite (allFrom p i (len - i)) (.leaf rt) (.leaf rf)).run = some r) (hlt : i < len) : (p i = false → some rf = some r) ∧ (p i = true → (T.ite (allFrom p (i + 1) (len - (i + 1))) (.leaf rt) (.leaf rf)).run = some r) := by
  rw [show len - i = (len - (i + 1)) + 1 by omega] at h
  simp only [allFrom] at h
  refine ⟨fun hp => ?_, fun hp => ?_⟩
  · rw [hp, Bool.false_and] at h; exact h
  · rw [hp, Bool.true_and] at h; exact h
theorem all_end (h : (T.ite (allFrom p i (len - i)) (.leaf rt) (.leaf rf)).run = some r) (hge : ¬ i < len) : some rt = some r := by
  rw [show len - i = 0 by omega] at h
  exact h
end
section
variable {p : Nat → Bool} {i len : Nat} {ro r : Ex × List D}
theorem first_step (h : (T.ite (decide (firstFrom p i (len - i) ≥ 0)) (.leaf (.ret, [.i (firstFrom p i (len - i))])) (.leaf ro)).run = some r) (hlt : i < len) :
    (p i = true → some (Ex.ret, [D.i (i : Int)]) = some r) ∧ (p i = false → (T.ite (decide (firstFrom p (i + 1) (len - (i + 1)) ≥ 0)) (.leaf (.ret, [.i (firstFrom p (i + 1) (len - (i + 1)))])) (.leaf ro)).run = some r) := by
  rw [show len - i = (len - (i + 1)) + 1 by omega] at h
  simp only [firstFrom] at h
  refine ⟨fun hp => ?_, fun hp => ?_⟩
  · simp only [hp, if_true, run_ite, run_leaf] at h
    rw [if_pos (by simp)] at h
    exact h
  · simp only [hp, Bool.false_eq_true, if_false] at h
    exact h
theorem first_end (h : (T.ite (decide (firstFrom p i (len - i) ≥ 0)) (.leaf (.ret, [.i (firstFrom p i (len - i))])) (.leaf ro)).run = some r) (hge : ¬ i < len) : some ro = some r := by
  rw [show len - i = 0 by omega] at h
  simp only [firstFrom, run_ite, run_leaf] at h
  rw [if_neg (by simp)] at h
  exact h
end

theorem ok20_4 (n : Nat) : LoopSim C (n + 1) 20 (loopOf C.P 20 4) (mkL l20_4 G20_4) := by
  refine loop_of hC (sp := sp20) (lp := lp20) ⟨ok15 n, trivial⟩ [] (by kernel_rfl) rfl (fun k hk => by cases hk) (by kernel_rfl) (fun ds => (((ds.getD 0 default).L.length : Int) - (ds.getD 2 default).I).toNat) fun ds rr h => ?_
  unfold G20_4 at h
  split at h
  · rename_i cs ls i
    obtain ⟨hp, h⟩ := need_some h
    rw [yes_iff] at hp
    obtain ⟨h1, h2, h3⟩ := hp
    refine ⟨by rw [fuelC]; simp; omega, ?_⟩
    rw [show roundT C (mkTab sp20 lp20) 20 (loopOf C.P 20 4) l20_4 [cs, ls, i] = _ from t20_4 cs ls i]
    obtain ⟨k, hk⟩ : ∃ k : Nat, i.I = k := ⟨i.I.toNat, by omega⟩
    simp only [hk, Int.toNat_natCast] at h h3 ⊢
    refine rd_if (fun hlt => ?_) fun hge => rd_out (all_end h (by omega))
    have hkl : k < cs.L.length := by omega
    obtain ⟨s1, s2⟩ := all_step h hkl
    refine rd_dec ⟨by omega, by omega⟩ (rd_not (fun c => rd_out (s1 c)) fun c => ?_)
    rw [wrap_succ (by omega)]
    exact rd_again ((need_yes ⟨h1, by simp only [I_i]; omega, by simp only [I_i, L_l]; omega⟩).trans (s2 c)) (show ((cs.L.length : Int) - ((k + 1 : Nat) : Int)).toNat < ((cs.L.length : Int) - i.I).toNat by omega)
  · cases h
theorem ok20_9 (n : Nat) : LoopSim C (n + 1) 20 (loopOf C.P 20 9) (mkL l20_9 G20_9) := by
  refine loop_of hC (sp := sp20) (lp := lp20) ⟨ok15 n, trivial⟩ [] (by kernel_rfl) rfl (fun k hk => by cases hk) (by kernel_rfl) (fun ds => (((ds.getD 0 default).L.length : Int) - (ds.getD 1 default).I).toNat) fun ds rr h => ?_
  unfold G20_9 at h
  split at h
  · rename_i ls i
    obtain ⟨hp, h⟩ := need_some h
    rw [yes_iff] at hp
    obtain ⟨h1, h2, h3⟩ := hp
    refine ⟨by rw [fuelC]; simp; omega, ?_⟩
    rw [show roundT C (mkTab sp20 lp20) 20 (loopOf C.P 20 9) l20_9 [ls, i] = _ from t20_9 ls i]
    obtain ⟨k, hk⟩ : ∃ k : Nat, i.I = k := ⟨i.I.toNat, by omega⟩
    simp only [hk, Int.toNat_natCast] at h h3 ⊢
    refine rd_if (fun hlt => ?_) fun hge => rd_out (all_end h (by omega))
    have hkl : k < ls.L.length := by omega
    obtain ⟨s1, s2⟩ := all_step h hkl
    have e : rowAt ls.L k = ((ls.L.getD k []).getD 0 default).L := rfl
    refine rd_dec ⟨by omega, by omega⟩ (rd_if (fun c => rd_out (s1 ?_)) fun c => ?_)
    · exact decide_eq_false (by rw [e]; omega)
    · rw [wrap_succ (by omega)]
      exact rd_again ((need_yes ⟨h1, by simp only [I_i]; omega, by simp only [I_i, L_l]; omega⟩).trans (s2 (decide_eq_true (by rw [e]; omega)))) (show ((ls.L.length : Int) - ((k + 1 : Nat) : Int)).toNat < ((ls.L.length : Int) - i.I).toNat by omega)
  · cases h
theorem ok20 (n : Nat) : FnOK C (n + 2) 20 (mkF s20 G20) := by
  refine fn_of hC (sp := sp20) (lp := lp20) ⟨ok15 n, trivial⟩ (by kernel_rfl) [4, 9] (by kernel_rfl) (by kernel_rfl) (fun k hk L hL => by
    simp only [List.mem_cons, List.not_mem_nil, or_false] at hk
    rcases hk with rfl | rfl <;> cases hL
    · exact ok20_4 n
    · exact ok20_9 n) fun ds rr h => ?_
  unfold G20 at h
  split at h
  · rename_i cs ls
    refine (congrArg T.run (t20 cs ls)).trans ?_
    simp only [Int.toNat_zero, Nat.sub_zero]
    rw [← h]
    unfold fewOk
    refine go_if (fun c => ?_) fun c => go_if (fun c2 => ?_) fun c2 => go_yes ⟨by omega, by omega, by omega⟩ (go_ite (fun c3 => go_yes ⟨by omega, by omega, by omega⟩ (go_ite (fun c4 => ?_) fun c4 => ?_)) fun c3 => ?_)
    · have : ¬ cs.L.length ≤ 10 := by omega
      simp [this]
    · have : ¬ ls.L.length ≤ 10 := by omega
      simp [this]
    · have e1 : cs.L.length ≤ 10 := by omega
      have e2 : ls.L.length ≤ 10 := by omega
      simp [c3, c4, e1, e2]
    · simp [c4]
    · simp [c3]
  · cases h
theorem bne_dec (x y : Int) : (x != y) = !decide (x = y) := by by_cases h : x = y <;> simp [h]
theorem ok81 (n : Nat) : FnOK C (n + 7) 81 (mkF s81 G81) := by
  refine fn_of hC (sp := sp81) (lp := lp81) ⟨ok46 n, trivial⟩ (by kernel_rfl) [] (by kernel_rfl) rfl (fun k hk => by cases hk) fun ds rr h => ?_
  unfold G81 at h
  split at h
  · rename_i a b c d cs
    obtain ⟨hp, h⟩ := need_some h
    rw [yes_iff] at hp
    obtain ⟨h1, h2, h3, h4⟩ := hp
    refine (congrArg T.run (t81 a b c d cs)).trans ?_
    rw [← h]
    refine go_yes ⟨h1, h2, h3⟩ (go_not (fun c1 => by simp [c1]) fun c1 => go_dec ⟨by omega, by omega⟩ ?_)
    simp only [c1, Bool.true_and, run_leaf, Int.toNat_zero, bne_dec]
    rfl
  · cases h
theorem ok100_2 (n : Nat) : LoopSim C (n + 7) 100 (loopOf C.P 100 2) (mkL l100_2 G100_2) := by
  refine loop_of hC (sp := sp100) (lp := lp100) ⟨ok81 n, trivial⟩ [] (by kernel_rfl) rfl (fun k hk => by cases hk) (by kernel_rfl) (fun ds => ((ds.getD 2 default).I - (ds.getD 3 default).I).toNat) fun ds rr h => ?_
  unfold G100_2 at h
  split at h
  · rename_i cs c' m i
    obtain ⟨hp, h⟩ := need_some h
    rw [yes_iff] at hp
    obtain ⟨h1, h2, h3, h4, h5⟩ := hp
    have hb : big = 4611686018427387904 := rfl
    have hbb := h1.1
    refine ⟨by rw [fuelC]; simp; omega, ?_⟩
    rw [show roundT C (mkTab sp100 lp100) 100 (loopOf C.P 100 2) l100_2 [cs, c', m, i] = _ from t100_2 cs c' m i]
    obtain ⟨k, hk⟩ : ∃ k : Nat, i.I = k := ⟨i.I.toNat, by omega⟩
    simp only [hk, h3, Int.toNat_natCast] at h h5 ⊢
    refine rd_if (fun hlt => ?_) fun hge => rd_out (first_end h (by omega))
    have hkl : k < cs.L.length := by omega
    obtain ⟨s1, s2⟩ := first_step h hkl
    obtain ⟨q1, q2, q3⟩ := h1.2 k hkl
    refine rd_dec ⟨by omega, by omega⟩ (rd_yes ⟨q1, q2, q3, h2⟩ (rd_not (fun c => rd_out (s1 ?_)) fun c => ?_))
    · show (!kindAt _ _ _) = true
      rw [Bool.not_eq_true']; exact c
    · rw [wrap_succ (by omega)]
      refine rd_again ((need_yes ⟨h1, h2, rfl, by simp only [I_i]; omega, by simp only [I_i]; omega⟩).trans (s2 ?_)) (show ((cs.L.length : Int) - ((k + 1 : Nat) : Int)).toNat < (m.I - i.I).toNat by omega)
      show (!kindAt _ _ _) = false
      rw [Bool.not_eq_false']; exact c
  · cases h
theorem ok100 (n : Nat) : FnOK C (n + 8) 100 (mkF s100 G100) := by
  refine fn_of hC (sp := sp100) (lp := lp100) ⟨ok81 n, trivial⟩ (by kernel_rfl) [2] (by kernel_rfl) (by kernel_rfl) (fun k hk L hL => by simp at hk; subst hk; cases hL; exact ok100_2 n) fun ds rr h => ?_
  unfold G100 at h
  split at h
  · rename_i cs c'
    obtain ⟨hp, h⟩ := need_some h
    rw [yes_iff] at hp
    refine (congrArg T.run (t100 cs c')).trans ?_
    rw [← h]
    simp only [Int.toNat_zero, Nat.sub_zero]
    refine go_yes ⟨hp.1, hp.2, by trivial, by omega, by omega⟩ (go_if (fun c => rfl) fun c => ?_)
    rw [firstFrom_neg (by omega)]
  · cases h
theorem ok80 (n : Nat) : FnOK C (n + 9) 80 (mkF s80 G80) := by
  refine fn_of hC (sp := sp80) (lp := lp80) ⟨ok100 n, ok81 (n + 1), trivial⟩ (by kernel_rfl) [] (by kernel_rfl) rfl (fun k hk => by cases hk) fun ds rr h => ?_
  unfold G80 at h
  split at h
  · rename_i cs c'
    rw [← h]
    refine (congrArg T.run (t80 cs c')).trans ?_
    rw [firstFrom_all]
    simp only [Bool.not_not]
  · cases h
theorem ok83 (n : Nat) : FnOK C (n + 6) 83 (mkF s83 G83) := by
  refine fn_of hC (sp := sp83) (lp := lp83) ⟨ok69 n, trivial⟩ (by kernel_rfl) [] (by kernel_rfl) rfl (fun k hk => by cases hk) fun ds rr h => ?_
  unfold G83 at h
  split at h
  · rename_i l cs
    obtain ⟨hp, h⟩ := need_some h
    rw [yes_iff] at hp
    refine (congrArg T.run (t83 l cs)).trans ?_
    exact go_dec ⟨by omega, by have := hp.1; omega⟩ (go_yes hp.2 h)
  · cases h
theorem ok101_2 (n : Nat) : LoopSim C (n + 6) 101 (loopOf C.P 101 2) (mkL l101_2 G101_2) := by
  refine loop_of hC (sp := sp101) (lp := lp101) ⟨ok83 n, trivial⟩ [] (by kernel_rfl) rfl (fun k hk => by cases hk) (by kernel_rfl) (fun ds => ((ds.getD 2 default).I - (ds.getD 3 default).I).toNat) fun ds rr h => ?_
  unfold G101_2 at h
  split at h
  · rename_i ls cs m i
    obtain ⟨hp, h⟩ := need_some h
    rw [yes_iff] at hp
    obtain ⟨h1, h2, h2b, h3, h4, h5⟩ := hp
    have hb : big = 4611686018427387904 := rfl
    refine ⟨by rw [fuelC]; simp; omega, ?_⟩
    rw [show roundT C (mkTab sp101 lp101) 101 (loopOf C.P 101 2) l101_2 [ls, cs, m, i] = _ from t101_2 ls cs m i]
    obtain ⟨k, hk⟩ : ∃ k : Nat, i.I = k := ⟨i.I.toNat, by omega⟩
    simp only [hk, h3, Int.toNat_natCast] at h h5 ⊢
    refine rd_if (fun hlt => ?_) fun hge => rd_out (first_end h (by omega))
    have hkl : k < ls.L.length := by omega
    obtain ⟨s1, s2⟩ := first_step h hkl
    refine rd_dec ⟨by omega, by omega⟩ (rd_yes ⟨h2, h2b⟩ (rd_not (fun c => rd_out (s1 ?_)) fun c => ?_))
    · show (!loopAt _ _ _) = true
      rw [Bool.not_eq_true']; exact c
    · rw [wrap_succ (by omega)]
      refine rd_again ((need_yes ⟨h1, h2, h2b, rfl, by simp only [I_i]; omega, by simp only [I_i]; omega⟩).trans (s2 ?_)) (show ((ls.L.length : Int) - ((k + 1 : Nat) : Int)).toNat < (m.I - i.I).toNat by omega)
      show (!loopAt _ _ _) = false
      rw [Bool.not_eq_false']; exact c
  · cases h
theorem ok101 (n : Nat) : FnOK C (n + 7) 101 (mkF s101 G101) := by
  refine fn_of hC (sp := sp101) (lp := lp101) ⟨ok83 n, trivial⟩ (by kernel_rfl) [2] (by kernel_rfl) (by kernel_rfl) (fun k hk L hL => by simp at hk; subst hk; cases hL; exact ok101_2 n) fun ds rr h => ?_
  unfold G101 at h
  split at h
  · rename_i ls cs
    obtain ⟨hp, h⟩ := need_some h
    rw [yes_iff] at hp
    refine (congrArg T.run (t101 ls cs)).trans ?_
    rw [← h]
    simp only [Int.toNat_zero, Nat.sub_zero]
    refine go_yes ⟨hp.1, hp.2.1, hp.2.2, by trivial, by omega, by omega⟩ (go_if (fun c => rfl) fun c => ?_)
    rw [firstFrom_neg (by omega)]
  · cases h
theorem ok82 (n : Nat) : FnOK C (n + 8) 82 (mkF s82 G82) := by
  refine fn_of hC (sp := sp82) (lp := lp82) ⟨ok101 n, ok83 (n + 1), trivial⟩ (by kernel_rfl) [] (by kernel_rfl) rfl (fun k hk => by cases hk) fun ds rr h => ?_
  unfold G82 at h
  split at h
  · rename_i ls cs
    rw [← h]
    refine (congrArg T.run (t82 ls cs)).trans ?_
    rw [firstFrom_all]
    simp only [Bool.not_not]
  · cases h
theorem surfs_few {cs : List (List D)} (h0 : 0 < cs.length) (h : allFrom (kindAt (surfs cs) cs) 0 cs.length = true) : fewN (surfs cs) := by
  have := allFrom_iff.1 h 0 (Nat.le_refl _) (by omega)
  simp only [kindAt, Bool.and_eq_true] at this
  have h1 := (drive_comp this.1).1
  unfold surfs fewN
  omega
theorem ok52 (n : Nat) : FnOK C (n + 10) 52 (mkF s52 G52) := by
  refine fn_of hC (sp := sp52) (lp := lp52) ⟨ok47 (n + 8), ok80 n, ok82 (n + 1), ok81 (n + 2), ok83 (n + 3), trivial⟩ (by kernel_rfl) [] (by kernel_rfl) rfl (fun k hk => by cases hk) fun ds rr h => ?_
  unfold G52 at h
  split at h
  · rename_i cs ls m
    obtain ⟨hp, h⟩ := need_some h
    rw [yes_iff] at hp
    refine (congrArg T.run (t52 cs ls m)).trans ?_
    rw [← h]
    unfold taskOk
    have hb : big = 4611686018427387904 := rfl
    refine go_not (fun c => by simp [c]) fun c => go_if (fun c2 => ?_) fun c2 => go_not (fun c3 => by simp [c3]) fun c3 => ?_
    · have : ¬ ls.L.length ≤ 8 := by omega
      simp [this]
    · have h0 := (Lite.within_iff.1 c).1
      have e2 : ls.L.length ≤ 8 := by omega
      refine go_yes ⟨hp, by omega⟩ (go_not (fun c4 => by simp [c4]) fun c4 => go_yes ⟨by omega, by omega, surfs_few (by omega) c4⟩ ?_)
      simp [c, c3, c4, e2]
  · cases h
end Go.Proofs.Ytlofnkkokcihnaa
