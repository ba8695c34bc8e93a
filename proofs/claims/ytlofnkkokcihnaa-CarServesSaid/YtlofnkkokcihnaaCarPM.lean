/-
  The functions of losses compute what their words say, continued.
-/
import Derived.Test.YtlofnkkokcihnaaCarPL
import Derived.Test.YtlofnkkokcihnaaCarPC
namespace Go.Proofs.Ytlofnkkokcihnaa
open Go.Lite

theorem ok35 (n : Nat) : FnOK C (n + 8) 35 (mkF s35 G35) := by
  refine fn_of hC (sp := sp35) (lp := lp35) ⟨ok46 (n + 1), ok69 (n + 2), ok47 (n + 6), ok70 (n + 3), trivial⟩ (by kernel_rfl) [] (by kernel_rfl) rfl (fun k hk => by cases hk) fun ds r h => ?_
  unfold G35 at h
  split at h
  · rename_i a b c d l w
    obtain ⟨hp, h⟩ := need_some h
    rw [yes_iff] at hp
    rw [← h]
    refine (congrArg T.run (t35 a b c d l w)).trans ?_
    rw [need_yes hp]
    have hb : big = 4611686018427387904 := rfl
    simp only [run_ite, run_need, run_leaf, lossOk]
    by_cases c1 : compoundOk a.L b.L c.L d.I = true
    · have hn : fewN (a.L.length : Int) := ⟨by omega, by have := (drive_comp c1).1; omega⟩
      by_cases c2 : loopOk l.L (a.L.length : Int) = true
      · by_cases c3 : within w.I 0 1000000 = true
        · have c4 := Lite.within_iff.1 c3
          have hy := yes_true (p := drivePre a.L b.L c.L d.I l.L ∧ 0 ≤ w.I ∧ w.I ≤ 1000000) ⟨⟨c1, c2⟩, c4.1, c4.2⟩
          simp [c1, c2, c3, hy, yes_true hn]
        · simp [c1, c2, c3, yes_true hn]
      · simp [c1, c2, yes_true hn]
    · simp [c1]
  · cases h
theorem ok36 (n : Nat) : FnOK C (n + 8) 36 (mkF s36 G36) := by
  refine fn_of hC (sp := sp36) (lp := lp36) ⟨ok46 (n + 1), ok69 (n + 2), ok47 (n + 6), ok70 (n + 3), trivial⟩ (by kernel_rfl) [] (by kernel_rfl) rfl (fun k hk => by cases hk) fun ds r h => ?_
  unfold G36 at h
  split at h
  · rename_i a b c d l w
    obtain ⟨hp, h⟩ := need_some h
    rw [yes_iff] at hp
    rw [← h]
    refine (congrArg T.run (t36 a b c d l w)).trans ?_
    rw [need_yes hp]
    have hb : big = 4611686018427387904 := rfl
    simp only [run_ite, run_need, run_leaf, lossOk]
    by_cases c1 : compoundOk a.L b.L c.L d.I = true
    · have hn : fewN (a.L.length : Int) := ⟨by omega, by have := (drive_comp c1).1; omega⟩
      by_cases c2 : loopOk l.L (a.L.length : Int) = true
      · by_cases c3 : within w.I 0 1000000 = true
        · have c4 := Lite.within_iff.1 c3
          have hy := yes_true (p := drivePre a.L b.L c.L d.I l.L ∧ 0 ≤ w.I ∧ w.I ≤ 1000000) ⟨⟨c1, c2⟩, c4.1, c4.2⟩
          simp [c1, c2, c3, hy, yes_true hn]
        · simp [c1, c2, c3, yes_true hn]
      · simp [c1, c2, yes_true hn]
    · simp [c1]
  · cases h
theorem ok37_2 (n : Nat) : LoopSim C (n + 1) 37 (loopOf C.P 37 2) (mkL l37_2 G37_2) := by
  refine loop_of hC (sp := sp37) (lp := lp37) ⟨ok50 n, trivial⟩ [] (by kernel_rfl) rfl (fun k hk => by cases hk) (by kernel_rfl) (fun ds => (((ds.getD 0 default).L.length : Int) - (ds.getD 2 default).I).toNat) fun ds r h => ?_
  unfold G37_2 at h
  split at h
  · rename_i l s i
    obtain ⟨hp, h⟩ := need_some h
    rw [yes_iff] at hp
    obtain ⟨⟨h1, h1b⟩, h2, h3, h4⟩ := hp
    have hb : lim = 9223372036854775808 := rfl
    refine ⟨by rw [fuelC]; simp; omega, ?_⟩
    rw [show roundT C (mkTab sp37 lp37) 37 (loopOf C.P 37 2) l37_2 [l, s, i] = _ from t37_2 l s i]
    obtain ⟨k, hk⟩ : ∃ k : Nat, i.I = k := ⟨i.I.toNat, by omega⟩
    simp only [run_ite, run_need, run_leaf, hk, Int.toNat_natCast] at h h4 ⊢
    have hlim : lim = 9223372036854775808 := rfl
    refine all_loop (p := stretchAt l.L s.I) (i := k) (len := l.L.length) [D.l l.L, D.i s.I, D.i (k + 1 : Nat)] h ?_ ?_
    · by_cases hlt : k < l.L.length
      · simp only [wrap_succ (show k < 9223372036854775807 by omega), wrap_id (x := s.I - 1) (by omega) (by omega), ix_def, Nat.zero_add, stretchAt, stretchP]
        grind
      · have hlt' : ¬ ((k : Int) < (l.L.length : Int)) := by omega
        simp only [hlt, hlt', decide_false, Bool.false_eq_true, if_false]
    · intro hlt hp hh
      refine ⟨Eq.trans (need_yes (p := _) (t := _) ?_) hh, ?_⟩
      · simp only [I_i, L_l]
        exact ⟨⟨h1, h1b⟩, h2, by omega, by omega⟩
      · show ((l.L.length : Int) - ((k + 1 : Nat) : Int)).toNat < ((l.L.length : Int) - i.I).toNat
        omega
  · cases h
theorem ok37 (n : Nat) : FnOK C (n + 2) 37 (mkF s37 G37) := by
  refine fn_of hC (sp := sp37) (lp := lp37) ⟨ok50 n, trivial⟩ (by kernel_rfl) [2] (by kernel_rfl) (by kernel_rfl) (fun k hk L hL => by simp at hk; subst hk; cases hL; exact ok37_2 n) fun ds r h => ?_
  unfold G37 at h
  split at h
  · rename_i l s
    obtain ⟨hp, h⟩ := need_some h
    rw [yes_iff] at hp
    rw [← h]
    refine (congrArg T.run (t37 l s)).trans ?_
    rw [need_yes ⟨hp.1, hp.2, by omega, by omega⟩]
    simp only [run_ite, run_leaf, Int.toNat_zero, Nat.sub_zero, loopOk]
    by_cases hl : l.L.length ≤ 30
    · have hl' : (l.L.length : Int) ≤ 30 := by omega
      simp [hl, hl']
      split <;> rename_i hc <;> simp [hc]
    · have hl' : ¬ (l.L.length : Int) ≤ 30 := by omega
      simp [hl, hl']
  · cases h
/-- The flag does not matter for the loss and the wear. -/
theorem drive_flag {dry wet wl : List (List D)} {loss : Int} {l : List (List D)} : ∀ (k i : Nat) (w s : Int) (b b' : Bool), (driveFrom dry wet wl loss l i k w s b).1 = (driveFrom dry wet wl loss l i k w s b').1 ∧ (driveFrom dry wet wl loss l i k w s b).2.1 = (driveFrom dry wet wl loss l i k w s b').2.1
  | 0, i, w, s, b, b' => ⟨rfl, rfl⟩
  | k + 1, i, w, s, b, b' => by
    simp only [driveFrom]
    exact drive_flag k _ _ _ _ _
theorem ok38_3 (n : Nat) : LoopSim C (n + 3) 38 (loopOf C.P 38 3) (mkL l38_3 G38_3) := by
  refine loop_of hC (sp := sp38) (lp := lp38) ⟨ok19 n, trivial⟩ [] (by kernel_rfl) rfl (fun k hk => by cases hk) (by kernel_rfl) (fun ds => (((ds.getD 0 default).L.length : Int) - (ds.getD 3 default).I).toNat) fun ds r h => ?_
  unfold G38_3 at h
  split at h
  · rename_i l w s i a b c d
    obtain ⟨hp, h⟩ := need_some h
    rw [yes_iff] at hp
    obtain ⟨h1, h2, h3, h5, h6, h7, h8⟩ := hp
    have hb : big = 4611686018427387904 := rfl
    have hlen := (stretch_of h1.2).1
    refine ⟨by rw [fuelC]; simp; omega, ?_⟩
    rw [show roundT C (mkTab sp38 lp38) 38 (loopOf C.P 38 3) l38_3 [l, w, s, i, a, b, c, d] = _ from t38_3 l w s i a b c d]
    obtain ⟨k, hk⟩ : ∃ k : Nat, i.I = k := ⟨i.I.toNat, by omega⟩
    simp only [run_ite, run_need, run_leaf, hk, Int.toNat_natCast] at h h6 h8 ⊢
    by_cases hlt : k < l.L.length
    · obtain ⟨p1, p2, p3, p4, p5, p6, p7, p8, p9⟩ := step_of h1 (w := w.I) ⟨h2, h3⟩ hlt
      have d0 : decide ((k : Int) < (l.L.length : Int)) = true := decide_eq_true (by omega)
      have d1 : decide ((0 : Int) ≤ (k : Int) ∧ (k : Int) < (l.L.length : Int)) = true := decide_eq_true ⟨by omega, by omega⟩
      have d2 := yes_true (p := surfOk a.L b.L (ix (l.L.getD k []) 0) (bx (l.L.getD k []) 3) ∧ -40 ≤ ix (l.L.getD k []) 2 ∧ ix (l.L.getD k []) 2 ≤ 80 ∧ 0 ≤ d.I ∧ d.I ≤ 1000 ∧ 0 ≤ w.I ∧ w.I ≤ 1000000) ⟨p1, p2.1, p2.2, p3.1, p3.2, h2, h3⟩
      have d3 : (0 ≤ ix (l.L.getD k []) 0 ∧ ix (l.L.getD k []) 0 < (c.L.length : Int)) = True := eq_true p4
      have e8 : stepLoss a.L b.L d.I w.I (l.L.getD k []) = (ix (l.L.getD k []) 1 * (1000 - gripC a.L b.L d.I (ix (l.L.getD k []) 0) (ix (l.L.getD k []) 2) (bx (l.L.getD k []) 3) w.I)).tdiv 1000 := rfl
      have e9 : stepWear c.L w.I (l.L.getD k []) = w.I + ix (l.L.getD k []) 1 * ix (c.L.getD (ix (l.L.getD k []) 0).toNat []) 0 := rfl
      have w0 : IntKind.i64.wrap (1000 - gripC a.L b.L d.I (ix (l.L.getD k []) 0) (ix (l.L.getD k []) 2) (bx (l.L.getD k []) 3) w.I) = 1000 - gripC a.L b.L d.I (ix (l.L.getD k []) 0) (ix (l.L.getD k []) 2) (bx (l.L.getD k []) 3) w.I := wrap_id (by omega) (by omega)
      have w1 : IntKind.i64.wrap (ix (l.L.getD k []) 1 * (1000 - gripC a.L b.L d.I (ix (l.L.getD k []) 0) (ix (l.L.getD k []) 2) (bx (l.L.getD k []) 3) w.I)) = ix (l.L.getD k []) 1 * (1000 - gripC a.L b.L d.I (ix (l.L.getD k []) 0) (ix (l.L.getD k []) 2) (bx (l.L.getD k []) 3) w.I) := wrap_abs (mul_abs (A := 100000) (B := 1000) (by omega) (by omega)) (by decide)
      have w2 : IntKind.i64.wrap (stepLoss a.L b.L d.I w.I (l.L.getD k [])) = stepLoss a.L b.L d.I w.I (l.L.getD k []) := wrap_id (by omega) (by omega)
      have w3 : IntKind.i64.wrap (s.I + stepLoss a.L b.L d.I w.I (l.L.getD k [])) = s.I + stepLoss a.L b.L d.I w.I (l.L.getD k []) := wrap_id (by omega) (by omega)
      have w4 : IntKind.i64.wrap (ix (l.L.getD k []) 1 * ix (c.L.getD (ix (l.L.getD k []) 0).toNat []) 0) = ix (l.L.getD k []) 1 * ix (c.L.getD (ix (l.L.getD k []) 0).toNat []) 0 := wrap_id (by omega) (by omega)
      have w5 : IntKind.i64.wrap (w.I + ix (l.L.getD k []) 1 * ix (c.L.getD (ix (l.L.getD k []) 0).toNat []) 0) = stepWear c.L w.I (l.L.getD k []) := wrap_id (by omega) (by omega)
      have e10 : 0 ≤ stepWear c.L w.I (l.L.getD k []) := by omega
      rw [show l.L.length - k = (l.L.length - (k + 1)) + 1 by omega] at h
      simp only [driveFrom] at h
      simp only [d0, d1, if_true, ix_def, bx_def, Nat.zero_add, show (0 + 1 + 1 : Nat) = 2 from rfl, show (0 + 1 + 1 + 1 : Nat) = 3 from rfl, wrap_succ (show k < 9223372036854775807 by omega)]
      simp only [d2, d3, decide_true, if_true, w0, w1, ← e8, w2, w3, w4, w5]
      by_cases hc : stepWear c.L w.I (l.L.getD k []) > 1000000
      · simp only [hc, if_true] at h
        simp only [show ¬ stepWear c.L w.I (l.L.getD k []) < 1000000 by omega, if_false]
        refine again_ok rfl ?_ ?_
        · refine (need_yes ⟨h1, by simp only [I_i]; omega, by simp only [I_i]; omega, by simp only [I_i]; omega, by simp only [I_i, L_l]; omega, by simp only [I_i]; omega, by simp only [I_i]; omega⟩).trans ?_
          simp only [I_i, L_l, Int.toNat_natCast, run_leaf]
          rw [(drive_flag _ _ _ _ false true).1, (drive_flag _ _ _ _ false true).2] at h; exact h
        · show ((l.L.length : Int) - ((k + 1 : Nat) : Int)).toNat < ((l.L.length : Int) - i.I).toNat
          omega
      · simp only [hc, if_false] at h
        have he : (if stepWear c.L w.I (l.L.getD k []) < 1000000 then stepWear c.L w.I (l.L.getD k []) else 1000000) = stepWear c.L w.I (l.L.getD k []) := by split <;> omega
        rw [he]
        refine again_ok rfl ?_ ?_
        · refine (need_yes ⟨h1, by simp only [I_i]; omega, by simp only [I_i]; omega, by simp only [I_i]; omega, by simp only [I_i, L_l]; omega, by simp only [I_i]; omega, by simp only [I_i]; omega⟩).trans ?_
          simp only [I_i, L_l, Int.toNat_natCast, run_leaf]
          exact h
        · show ((l.L.length : Int) - ((k + 1 : Nat) : Int)).toNat < ((l.L.length : Int) - i.I).toNat
          omega
    · rw [show l.L.length - k = 0 by omega] at h
      simp only [driveFrom, Option.some.injEq] at h
      subst h
      rw [if_neg (by simpa using hlt)]
      exact out_ok rfl
  · cases h
theorem ok38 (n : Nat) : FnOK C (n + 4) 38 (mkF s38 G38) := by
  refine fn_of hC (sp := sp38) (lp := lp38) ⟨ok19 n, trivial⟩ (by kernel_rfl) [3] (by kernel_rfl) (by kernel_rfl) (fun k hk L hL => by simp at hk; subst hk; cases hL; exact ok38_3 n) fun ds r h => ?_
  unfold G38 at h
  split at h
  · rename_i a b c d l w
    obtain ⟨hp, h⟩ := need_some h
    rw [yes_iff] at hp
    rw [← h]
    refine (congrArg T.run (t38 a b c d l w)).trans ?_
    exact need_yes ⟨hp.1, hp.2.1, hp.2.2, by omega, by omega, by omega, by omega⟩
  · cases h
theorem ok39_3 (n : Nat) : LoopSim C n 39 (loopOf C.P 39 3) (mkL l39_3 G39_3) := by
  refine loop_of hC (sp := sp39) (lp := lp39) trivial [] (by kernel_rfl) rfl (fun k hk => by cases hk) (by kernel_rfl) (fun ds => (((ds.getD 0 default).L.length : Int) - (ds.getD 2 default).I).toNat) fun ds r h => ?_
  unfold G39_3 at h
  split at h
  · rename_i l s i a b c d
    obtain ⟨hp, h⟩ := need_some h
    rw [yes_iff] at hp
    obtain ⟨h1, h5, h6, h7, h8⟩ := hp
    have hb : big = 4611686018427387904 := rfl
    have hlen := (stretch_of h1.2).1
    refine ⟨by rw [fuelC]; simp; omega, ?_⟩
    rw [show roundT C (mkTab sp39 lp39) 39 (loopOf C.P 39 3) l39_3 [l, s, i, a, b, c, d] = _ from t39_3 l s i a b c d]
    obtain ⟨k, hk⟩ : ∃ k : Nat, i.I = k := ⟨i.I.toNat, by omega⟩
    simp only [run_ite, run_need, run_leaf, hk, Int.toNat_natCast] at h h6 h8 ⊢
    by_cases hlt : k < l.L.length
    · obtain ⟨p1, p2, p3, p4, p5, p6, p7, p8, p9⟩ := step_of h1 (w := 0) ⟨by omega, by omega⟩ hlt
      have d0 : decide ((k : Int) < (l.L.length : Int)) = true := decide_eq_true (by omega)
      have d1 : decide ((0 : Int) ≤ (k : Int) ∧ (k : Int) < (l.L.length : Int)) = true := decide_eq_true ⟨by omega, by omega⟩
      have d3 : (0 ≤ ix (l.L.getD k []) 0 ∧ ix (l.L.getD k []) 0 < (c.L.length : Int)) = True := eq_true p4
      rw [show l.L.length - k = (l.L.length - (k + 1)) + 1 by omega] at h
      simp only [useFrom, ← Int.add_assoc] at h
      simp only [d0, d1, d3, decide_true, if_true, ix_def, Nat.zero_add, wrap_succ (show k < 9223372036854775807 by omega)]
      rw [wrap_id (x := ix (l.L.getD k []) 1 * ix (c.L.getD (ix (l.L.getD k []) 0).toNat []) 0) (by omega) (by omega), wrap_id (x := s.I + ix (l.L.getD k []) 1 * ix (c.L.getD (ix (l.L.getD k []) 0).toNat []) 0) (by omega) (by omega)]
      refine again_ok rfl ?_ ?_
      · refine (need_yes ⟨h1, by simp only [I_i]; omega, by simp only [I_i, L_l]; omega, by simp only [I_i]; omega, by simp only [I_i]; omega⟩).trans ?_
        simp only [I_i, L_l, Int.toNat_natCast, run_leaf]
        exact h
      · show ((l.L.length : Int) - ((k + 1 : Nat) : Int)).toNat < ((l.L.length : Int) - i.I).toNat
        omega
    · rw [show l.L.length - k = 0 by omega] at h
      simp only [useFrom, Int.add_zero, Option.some.injEq] at h
      subst h
      rw [if_neg (by simpa using hlt)]
      exact out_ok rfl
  · cases h
theorem ok39 (n : Nat) : FnOK C (n + 1) 39 (mkF s39 G39) := by
  refine fn_of hC (sp := sp39) (lp := lp39) trivial (by kernel_rfl) [3] (by kernel_rfl) (by kernel_rfl) (fun k hk L hL => by simp at hk; subst hk; cases hL; exact ok39_3 n) fun ds r h => ?_
  unfold G39 at h
  split at h
  · rename_i a b c d l
    obtain ⟨hp, h⟩ := need_some h
    rw [yes_iff] at hp
    rw [← h]
    refine (congrArg T.run (t39 a b c d l)).trans ?_
    refine (need_yes ⟨hp, by omega, by omega, by omega, by omega⟩).trans ?_
    simp only [run_leaf, Int.toNat_zero, Nat.sub_zero, Int.zero_add]
  · cases h
end Go.Proofs.Ytlofnkkokcihnaa
