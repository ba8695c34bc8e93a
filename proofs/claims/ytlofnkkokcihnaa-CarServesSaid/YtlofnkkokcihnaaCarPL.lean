/-
  The functions of losses compute what their words say.
-/
import Derived.Test.YtlofnkkokcihnaaCarPB
import Derived.Test.YtlofnkkokcihnaaCarPS
import Derived.Test.YtlofnkkokcihnaaCarTreeL
namespace Go.Proofs.Ytlofnkkokcihnaa
open Go.Lite

/-! ### Bounds -/
theorem drive_comp {dry wet wl : List (List D)} {loss : Int} (h : compoundOk dry wet wl loss = true) : dry.length ≤ 8 ∧ wet.length = dry.length ∧ wl.length = dry.length ∧ (0 ≤ loss ∧ loss ≤ 1000) ∧ ∀ j, j < dry.length → 0 ≤ ix (wl.getD j []) 0 ∧ ix (wl.getD j []) 0 ≤ 1000 := by
  simp only [compoundOk, Bool.and_eq_true, Lite.within_iff, decide_eq_true_eq, rowsOk, wearOk, allFrom_iff] at h
  obtain ⟨⟨⟨⟨⟨⟨h3, h4⟩, h5⟩, h6⟩, h7⟩, h8⟩, h9⟩ := h
  exact ⟨by omega, h4, h5, h6, fun j hj => h9 j (Nat.zero_le _) (by omega)⟩
theorem stretch_of {l : List (List D)} {n : Int} (h : loopOk l n = true) : l.length ≤ 30 ∧ ∀ j, j < l.length → (0 ≤ ix (l.getD j []) 0 ∧ ix (l.getD j []) 0 ≤ n - 1) ∧ (0 ≤ ix (l.getD j []) 1 ∧ ix (l.getD j []) 1 ≤ 100000) ∧ (-40 ≤ ix (l.getD j []) 2 ∧ ix (l.getD j []) 2 ≤ 80) := by
  simp only [loopOk, Bool.and_eq_true, decide_eq_true_eq, allFrom_iff, stretchAt, stretchP, Lite.within_iff] at h
  exact ⟨h.1, fun j hj => by have := h.2 j (Nat.zero_le _) (by omega); exact ⟨this.1.1, this.1.2, this.2⟩⟩
theorem gripV_rng {g d h : Int} (hg : 0 ≤ g ∧ g ≤ 1000) (hd : 0 ≤ d ∧ d ≤ 1000) (hh : 0 ≤ h ∧ h ≤ 1000000) : 0 ≤ gripV g d h ∧ gripV g d h ≤ 1000 := by
  unfold gripV
  have h1 : 0 ≤ d * h := Int.mul_nonneg hd.1 hh.1
  have h2 : d * h ≤ 1000 * 1000000 := Int.mul_le_mul hd.2 hh.2 hh.1 (by omega)
  have := @Lite.tdiv_between g (d * h) 1000000000 h1 (by omega) (by omega)
  rw [Int.mul_assoc]
  generalize (g * (d * h)).tdiv 1000000000 = x at *
  omega
/-- What one stretch takes. -/
theorem step_of {dry wet wl : List (List D)} {loss w : Int} {l : List (List D)} (hp : drivePre dry wet wl loss l) (hw : 0 ≤ w ∧ w ≤ 1000000) {j : Nat} (hj : j < l.length) :
    surfOk dry wet (ix (l.getD j []) 0) (bx (l.getD j []) 3) ∧ (-40 ≤ ix (l.getD j []) 2 ∧ ix (l.getD j []) 2 ≤ 80) ∧ (0 ≤ loss ∧ loss ≤ 1000) ∧ (0 ≤ ix (l.getD j []) 0 ∧ ix (l.getD j []) 0 < (wl.length : Int)) ∧
    (0 ≤ ix (l.getD j []) 1 ∧ ix (l.getD j []) 1 ≤ 100000) ∧ (0 ≤ ix (wl.getD (ix (l.getD j []) 0).toNat []) 0 ∧ ix (wl.getD (ix (l.getD j []) 0).toNat []) 0 ≤ 1000) ∧
    (0 ≤ gripC dry wet loss (ix (l.getD j []) 0) (ix (l.getD j []) 2) (bx (l.getD j []) 3) w ∧ gripC dry wet loss (ix (l.getD j []) 0) (ix (l.getD j []) 2) (bx (l.getD j []) 3) w ≤ 1000) ∧
    (0 ≤ stepLoss dry wet loss w (l.getD j []) ∧ stepLoss dry wet loss w (l.getD j []) ≤ 100000) ∧
    (0 ≤ ix (l.getD j []) 1 * ix (wl.getD (ix (l.getD j []) 0).toNat []) 0 ∧ ix (l.getD j []) 1 * ix (wl.getD (ix (l.getD j []) 0).toNat []) 0 ≤ 100000000) := by
  obtain ⟨c1, c2, c3, c4, c5⟩ := drive_comp hp.1
  obtain ⟨s1, s2⟩ := stretch_of hp.2
  obtain ⟨a1, a2, a3⟩ := s2 j hj
  have hs := surf_of (w := bx (l.getD j []) 3) hp.1 (Lite.within_iff.2 a1)
  have hwl := c5 (ix (l.getD j []) 0).toNat (by omega)
  have hg : 0 ≤ gripC dry wet loss (ix (l.getD j []) 0) (ix (l.getD j []) 2) (bx (l.getD j []) 3) w ∧ gripC dry wet loss (ix (l.getD j []) 0) (ix (l.getD j []) 2) (bx (l.getD j []) 3) w ≤ 1000 := gripV_rng (freshV_range hs.1.2.2.2) c4 hw
  refine ⟨hs.1, a3, c4, ⟨a1.1, by omega⟩, a2, hwl, hg, ?_, ?_⟩
  · unfold stepLoss
    generalize gripC dry wet loss (ix (l.getD j []) 0) (ix (l.getD j []) 2) (bx (l.getD j []) 3) w = g at *
    have := (@Lite.tdiv_between (ix (l.getD j []) 1) (1000 - g) 1000 (by omega) (by omega) (by omega)).1 a2.1
    omega
  · exact ⟨Int.mul_nonneg a2.1 hwl.1, Int.le_trans (Int.mul_le_mul a2.2 hwl.2 hwl.1 (by omega)) (by decide)⟩

theorem ok92 (n : Nat) : FnOK C (n + 2) 92 (mkF s92 G92) := by
  refine fn_of hC (sp := sp92) (lp := lp92) ⟨ok47 n, trivial⟩ (by kernel_rfl) [] (by kernel_rfl) rfl (fun k hk => by cases hk) fun ds r h => ?_
  unfold G92 at h
  split at h
  · rename_i a b c u m
    obtain ⟨hp, h⟩ := need_some h
    rw [yes_iff] at hp
    rw [← h]
    refine (congrArg T.run (t92 a b c u m)).trans ?_
    have hw : IntKind.i64.wrap (m.I - 1) = m.I - 1 := wrap_id (by have := hp.1; omega) (by have := hp.2; omega)
    simp only [run_ite, run_leaf, stretchP, hw]
    grind
  · cases h
theorem ok104_2 (n : Nat) : LoopSim C (n + 2) 104 (loopOf C.P 104 2) (mkL l104_2 G104_2) := by
  refine loop_of hC (sp := sp104) (lp := lp104) ⟨ok92 n, trivial⟩ [] (by kernel_rfl) rfl (fun k hk => by cases hk) (by kernel_rfl) (fun ds => ((ds.getD 2 default).I - (ds.getD 3 default).I).toNat) fun ds r h => ?_
  unfold G104_2 at h
  split at h
  · rename_i l s m i
    obtain ⟨hp, h⟩ := need_some h
    rw [yes_iff] at hp
    obtain ⟨h1, h2, h3, h4, h5⟩ := hp
    have hb : big = 4611686018427387904 := rfl
    refine ⟨by rw [fuelC]; simp; omega, ?_⟩
    rw [show roundT C (mkTab sp104 lp104) 104 (loopOf C.P 104 2) l104_2 [l, s, m, i] = _ from t104_2 l s m i]
    obtain ⟨k, hk⟩ : ∃ k : Nat, i.I = k := ⟨i.I.toNat, by omega⟩
    simp only [run_ite, run_need, run_leaf, hk, h3, yes_true h2, Int.toNat_natCast] at h h5 ⊢
    refine first_loop (p := fun j => !stretchAt l.L s.I j) (i := k) (len := l.L.length) [D.l l.L, D.i s.I, D.i l.L.length, D.i (k + 1 : Nat)] h ?_ ?_
    · simp only [wrap_succ (show k < 9223372036854775807 by omega), ix_def, Nat.zero_add, stretchAt]
      grind
    · intro hlt hp hh
      refine ⟨Eq.trans (need_yes (p := _) (t := _) ?_) hh, ?_⟩
      · simp only [I_i, L_l]
        exact ⟨h1, h2, trivial, by omega, by omega⟩
      · show ((l.L.length : Int) - ((k + 1 : Nat) : Int)).toNat < (m.I - i.I).toNat
        omega
  · cases h
theorem ok104 (n : Nat) : FnOK C (n + 3) 104 (mkF s104 G104) := by
  refine fn_of hC (sp := sp104) (lp := lp104) ⟨ok92 n, trivial⟩ (by kernel_rfl) [2] (by kernel_rfl) (by kernel_rfl) (fun k hk L hL => by simp at hk; subst hk; cases hL; exact ok104_2 n) fun ds r h => ?_
  unfold G104 at h
  split at h
  · rename_i l s
    obtain ⟨hp, h⟩ := need_some h
    rw [yes_iff] at hp
    rw [← h]
    refine (congrArg T.run (t104 l s)).trans ?_
    refine (need_yes ⟨hp.1, hp.2, by omega, by omega, by omega⟩).trans ?_
    simp only [run_ite, run_leaf, Int.toNat_zero, Nat.sub_zero]
    split
    · rfl
    · rename_i hc
      have : ¬ firstFrom (fun j => !stretchAt l.L s.I j) 0 l.L.length ≥ 0 := fun hh => hc (decide_eq_true hh)
      rw [firstFrom_neg (by omega)]
  · cases h
theorem ok91 (n : Nat) : FnOK C (n + 4) 91 (mkF s91 G91) := by
  refine fn_of hC (sp := sp91) (lp := lp91) ⟨ok104 n, ok92 (n + 1), trivial⟩ (by kernel_rfl) [] (by kernel_rfl) rfl (fun k hk => by cases hk) fun ds r h => ?_
  unfold G91 at h
  split at h
  · rename_i l s
    rw [← h]
    refine (congrArg T.run (t91 l s)).trans ?_
    rw [firstFrom_all]
    simp only [Bool.not_not]
  · cases h
theorem ok69 (n : Nat) : FnOK C (n + 5) 69 (mkF s69 G69) := by
  refine fn_of hC (sp := sp69) (lp := lp69) ⟨ok91 n, ok92 (n + 2), trivial⟩ (by kernel_rfl) [] (by kernel_rfl) rfl (fun k hk => by cases hk) fun ds r h => ?_
  unfold G69 at h
  split at h
  · rename_i l s
    obtain ⟨hp, h⟩ := need_some h
    rw [yes_iff] at hp
    rw [← h]
    refine (congrArg T.run (t69 l s)).trans ?_
    have hb : big = 4611686018427387904 := rfl
    simp only [run_ite, run_need, run_leaf, loopOk]
    by_cases hl : l.L.length ≤ 30
    · have hl' : (l.L.length : Int) ≤ 30 := by omega
      simp [hl, hl', yes_true (p := l.L.length < big ∧ fewN s.I) ⟨by omega, hp⟩]
    · have hl' : ¬ (l.L.length : Int) ≤ 30 := by omega
      simp [hl, hl']
  · cases h
theorem ok70_3 (n : Nat) : LoopSim C (n + 3) 70 (loopOf C.P 70 3) (mkL l70_3 G70_3) := by
  refine loop_of hC (sp := sp70) (lp := lp70) ⟨ok48 n, trivial⟩ [] (by kernel_rfl) rfl (fun k hk => by cases hk) (by kernel_rfl) (fun ds => ((ds.getD 4 default).I - (ds.getD 5 default).I).toNat) fun ds r h => ?_
  unfold G70_3 at h
  split at h
  · rename_i w s q l m i a b c d
    obtain ⟨hp, h⟩ := need_some h
    rw [yes_iff] at hp
    obtain ⟨h1, h2, h3, h4, h5, h6, h7, h8⟩ := hp
    have hb : big = 4611686018427387904 := rfl
    have hlen := (stretch_of h1.2).1
    refine ⟨by rw [fuelC]; simp; omega, ?_⟩
    rw [show roundT C (mkTab sp70 lp70) 70 (loopOf C.P 70 3) l70_3 [w, s, q, l, m, i, a, b, c, d] = _ from t70_3 w s q l m i a b c d]
    obtain ⟨k, hk⟩ : ∃ k : Nat, i.I = k := ⟨i.I.toNat, by omega⟩
    simp only [run_ite, run_need, run_leaf, hk, h4, Int.toNat_natCast] at h h6 h8 ⊢
    by_cases hlt : k < l.L.length
    · obtain ⟨p1, p2, p3, p4, p5, p6, p7, p8, p9⟩ := step_of h1 (w := w.I) ⟨h2, h3⟩ hlt
      have d0 : decide ((k : Int) < (l.L.length : Int)) = true := decide_eq_true (by omega)
      have d1 : decide ((0 : Int) ≤ (k : Int) ∧ (k : Int) < (l.L.length : Int)) = true := decide_eq_true ⟨by omega, by omega⟩
      have d2 := yes_true (p := surfOk a.L b.L (ix (l.L.getD k []) 0) (bx (l.L.getD k []) 3) ∧ -40 ≤ ix (l.L.getD k []) 2 ∧ ix (l.L.getD k []) 2 ≤ 80 ∧ 0 ≤ d.I ∧ d.I ≤ 1000 ∧ 0 ≤ w.I ∧ w.I ≤ 1000000) ⟨p1, p2.1, p2.2, p3.1, p3.2, h2, h3⟩
      have d3 : (0 ≤ ix (l.L.getD k []) 0 ∧ ix (l.L.getD k []) 0 < (c.L.length : Int)) = True := eq_true p4
      have e8 : stepLoss a.L b.L d.I w.I (l.L.getD k []) = (ix (l.L.getD k []) 1 * (1000 - gripC a.L b.L d.I (ix (l.L.getD k []) 0) (ix (l.L.getD k []) 2) (bx (l.L.getD k []) 3) w.I)).tdiv 1000 := rfl
      have e9 : stepWear c.L w.I (l.L.getD k []) = w.I + ix (l.L.getD k []) 1 * ix (c.L.getD (ix (l.L.getD k []) 0).toNat []) 0 := rfl
      have w0 : IntKind.i64.wrap (1000 - gripC a.L b.L d.I (ix (l.L.getD k []) 0) (ix (l.L.getD k []) 2) (bx (l.L.getD k []) 3) w.I) = 1000 - gripC a.L b.L d.I (ix (l.L.getD k []) 0) (ix (l.L.getD k []) 2) (bx (l.L.getD k []) 3) w.I := wrap_id (by omega) (by omega)
      have w1 : IntKind.i64.wrap (ix (l.L.getD k []) 1 * (1000 - gripC a.L b.L d.I (ix (l.L.getD k []) 0) (ix (l.L.getD k []) 2) (bx (l.L.getD k []) 3) w.I)) = ix (l.L.getD k []) 1 * (1000 - gripC a.L b.L d.I (ix (l.L.getD k []) 0) (ix (l.L.getD k []) 2) (bx (l.L.getD k []) 3) w.I) := wrap_abs (mul_abs (A := 100000) (B := 1000) (by omega) (by omega)) (by decide)
      have w2 : IntKind.i64.wrap (stepLoss a.L b.L d.I w.I (l.L.getD k [])) = stepLoss a.L b.L d.I w.I (l.L.getD k []) := wrap_id (by omega) (by omega)
      have w3 : IntKind.i64.wrap (s.I + stepLoss a.L b.L d.I w.I (l.L.getD k [])) = s.I + stepLoss a.L b.L d.I w.I (l.L.getD k []) := wrap_id (by omega) (by omega)
      have w4 : IntKind.i64.wrap (ix (l.L.getD k []) 1 * ix (c.L.getD (ix (l.L.getD k []) 0).toNat []) 0) = ix (l.L.getD k []) 1 * ix (c.L.getD (ix (l.L.getD k []) 0).toNat []) 0 := wrap_id (by omega) (by omega)
      have w5 : IntKind.i64.wrap (w.I + ix (l.L.getD k []) 1 * ix (c.L.getD (ix (l.L.getD k []) 0).toNat []) 0) = stepWear c.L w.I (l.L.getD k []) := wrap_id (by omega) (by omega)
      have e10 : 0 ≤ stepWear c.L w.I (l.L.getD k []) := by omega
      rw [show l.L.length - k = (l.L.length - (k + 1)) + 1 by omega] at h
      simp only [driveFrom] at h
      simp only [d0, d1, if_true, ix_def, bx_def, Nat.zero_add, show (0 + 1 + 1 : Nat) = 2 from rfl, show (0 + 1 + 1 + 1 : Nat) = 3 from rfl, wrap_succ (show k < 9223372036854775807 by omega)]
      simp only [d2, d3, decide_true, if_true, w0, w1, ← e8, w2, w3, w4, w5]
      by_cases hc : stepWear c.L w.I (l.L.getD k []) > 1000000
      · simp only [hc, if_true] at h
        simp only [hc, decide_true, if_true]
        refine again_ok rfl ?_ ?_
        · refine (need_yes ⟨h1, by simp only [I_i]; omega, by simp only [I_i]; omega, by simp only [I_i, L_l], by simp only [I_i]; omega, by simp only [I_i]; omega, by simp only [I_i]; omega, by simp only [I_i]; omega⟩).trans ?_
          simp only [I_i, L_l, B_b, Int.toNat_natCast, run_leaf]
          exact h
        · show ((l.L.length : Int) - ((k + 1 : Nat) : Int)).toNat < (m.I - i.I).toNat
          omega
      · simp only [hc, if_false] at h
        simp only [hc, decide_false, Bool.false_eq_true, if_false]
        refine again_ok rfl ?_ ?_
        · refine (need_yes ⟨h1, by simp only [I_i]; omega, by simp only [I_i]; omega, by simp only [I_i, L_l], by simp only [I_i]; omega, by simp only [I_i]; omega, by simp only [I_i]; omega, by simp only [I_i]; omega⟩).trans ?_
          simp only [I_i, L_l, B_b, Int.toNat_natCast, run_leaf]
          exact h
        · show ((l.L.length : Int) - ((k + 1 : Nat) : Int)).toNat < (m.I - i.I).toNat
          omega
    · rw [show l.L.length - k = 0 by omega] at h
      simp only [driveFrom, Option.some.injEq] at h
      subst h
      rw [if_neg (by simpa using hlt)]
      exact out_ok rfl
  · cases h
theorem ok70 (n : Nat) : FnOK C (n + 4) 70 (mkF s70 G70) := by
  refine fn_of hC (sp := sp70) (lp := lp70) ⟨ok48 n, trivial⟩ (by kernel_rfl) [3] (by kernel_rfl) (by kernel_rfl) (fun k hk L hL => by simp at hk; subst hk; cases hL; exact ok70_3 n) fun ds r h => ?_
  unfold G70 at h
  split at h
  · rename_i a b c d l w
    obtain ⟨hp, h⟩ := need_some h
    rw [yes_iff] at hp
    rw [← h]
    refine (congrArg T.run (t70 a b c d l w)).trans ?_
    exact need_yes ⟨hp.1, hp.2.1, hp.2.2, rfl, by omega, by omega, by omega, by omega⟩
  · cases h
end Go.Proofs.Ytlofnkkokcihnaa
