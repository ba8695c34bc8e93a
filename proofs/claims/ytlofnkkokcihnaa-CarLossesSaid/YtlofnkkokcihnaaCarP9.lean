/-
  The law of losses holds for every input.
-/
import Derived.Test.YtlofnkkokcihnaaCarPM
import Derived.Test.YtlofnkkokcihnaaCarTree9
import Derived.Test.YtlofnkkokcihnaaCarK
import Derived.Test.YtlofnkkokcihnaaCarP3
import Derived.Test.YtlofnkkokcihnaaCarLossesOver
namespace Go.Proofs.Ytlofnkkokcihnaa
open Go.Lite

def incAt (wl l : List (List D)) (i : Nat) : Int := ix (l.getD i []) 1 * ix (wl.getD (ix (l.getD i []) 0).toNat []) 0
theorem use_nonneg {wl l : List (List D)} : ∀ (k i : Nat), (∀ j, i ≤ j → j < i + k → 0 ≤ incAt wl l j ∧ incAt wl l j ≤ 100000000) → 0 ≤ useFrom wl l i k ∧ useFrom wl l i k ≤ 100000000 * k
  | 0, i, _ => by simp [useFrom]
  | k + 1, i, h => by
    have h1 := h i (Nat.le_refl _) (by omega)
    have h2 := use_nonneg k (i + 1) (fun j h3 h4 => h j (by omega) (by omega))
    simp only [useFrom]
    unfold incAt at h1
    omega
theorem drive_lasts {dry wet wl : List (List D)} {loss : Int} {l : List (List D)} : ∀ (k i : Nat) (w s : Int) (b : Bool), (∀ j, i ≤ j → j < i + k → 0 ≤ incAt wl l j ∧ incAt wl l j ≤ 100000000) → w ≤ 1000000 →
    (driveFrom dry wet wl loss l i k w s b).2.2 = (b && decide (w + useFrom wl l i k ≤ 1000000))
  | 0, i, w, s, b, _, hw => by simp [driveFrom, useFrom, hw]
  | k + 1, i, w, s, b, h, hw => by
    have h1 := h i (Nat.le_refl _) (by omega)
    have h2 := use_nonneg k (i + 1) (fun j h3 h4 => h j (by omega) (by omega))
    simp only [driveFrom, useFrom]
    rw [drive_lasts k (i + 1) _ _ _ (fun j h3 h4 => h j (by omega) (by omega)) (by split <;> omega)]
    have e : stepWear wl w (l.getD i []) = w + incAt wl l i := rfl
    rw [e]
    have e2 : w + (ix (l.getD i []) 1 * ix (wl.getD (ix (l.getD i []) 0).toNat []) 0 + useFrom wl l (i + 1) k) = w + incAt wl l i + useFrom wl l (i + 1) k := by rw [← Int.add_assoc]; rfl
    simp only [e2]
    by_cases hc : w + incAt wl l i > 1000000
    · have : ¬ w + incAt wl l i + useFrom wl l (i + 1) k ≤ 1000000 := by omega
      simp [hc, this]
    · simp only [hc, if_false]
theorem law9 (a b c d e f : D) : (fnT C tab9 9 s9 [a, b, c, d, e, f]).run = some [D.b true] := by
  refine (congrArg T.run (t9 a b c d e f)).trans ?_
  have hb : big = 4611686018427387904 := rfl
  simp only [run_ite, run_need, run_leaf]
  by_cases hsh : shortOk a.L b.L c.L = true
  · by_cases h2 : (e.L.length : Int) > 40
    · simp [hsh, h2]
    · obtain ⟨k1, k2, k3, k4, k5⟩ := small_of hsh
      have c1 := yes_true (p := smallRows a.L ∧ smallRows b.L ∧ c.L.length < big) ⟨k1, k2, k3⟩
      have c2 := yes_true (p := a.L.length < big ∧ b.L.length < big ∧ c.L.length < big) ⟨k4, k5, k3⟩
      simp only [hsh, h2, c1, c2, decide_false, Bool.not_true, Bool.false_eq_true, if_false, if_true]
      by_cases p1 : compoundOk a.L b.L c.L d.I = true
      · have hn : fewN (a.L.length : Int) := ⟨by omega, by have := (drive_comp p1).1; omega⟩
        have c3 := yes_true (p := fewN (a.L.length : Int) ∧ e.L.length < big) ⟨hn, by omega⟩
        by_cases p2 : loopOk e.L (a.L.length : Int) = true
        · by_cases p3 : 0 ≤ f.I ∧ f.I ≤ 1000000
          · have hpre : drivePre a.L b.L c.L d.I e.L := ⟨p1, p2⟩
            have c4 := yes_true (p := drivePre a.L b.L c.L d.I e.L ∧ 0 ≤ f.I ∧ f.I ≤ 1000000) ⟨hpre, p3⟩
            have c5 := yes_true (p := drivePre a.L b.L c.L d.I e.L) hpre
            have hinc : ∀ j, 0 ≤ j → j < 0 + e.L.length → 0 ≤ incAt c.L e.L j ∧ incAt c.L e.L j ≤ 100000000 := fun j _ hj => (step_of hpre (w := 0) ⟨by omega, by omega⟩ (by omega : j < e.L.length)).2.2.2.2.2.2.2.2
            have hu := use_nonneg e.L.length 0 hinc
            have hlen := (stretch_of p2).1
            have hw : IntKind.i64.wrap (f.I + useFrom c.L e.L 0 e.L.length) = f.I + useFrom c.L e.L 0 e.L.length := wrap_id (by omega) (by omega)
            have hl : (drive a.L b.L c.L d.I e.L f.I).2.2 = decide (f.I + useFrom c.L e.L 0 e.L.length ≤ 1000000) := by
              unfold drive
              rw [drive_lasts _ _ _ _ _ hinc p3.2, Bool.true_and]
            have c6 : lossOk a.L b.L c.L d.I e.L f.I = true := by simp [lossOk, p1, p2, Lite.within_iff, p3]
            have q1 : ¬ f.I < 0 := by omega
            have q2 : ¬ f.I > 1000000 := by omega
            simp only [c3, c4, c5, c6, p1, p2, q1, q2, hw, hl, decide_false, Bool.not_true, Bool.false_eq_true, if_false, if_true, beq_self_eq_true]
          · have c6 : lossOk a.L b.L c.L d.I e.L f.I = false := by
              simp only [lossOk, p1, p2, Bool.true_and]
              exact Bool.eq_false_iff.2 fun h => p3 (Lite.within_iff.1 h)
            by_cases q1 : f.I < 0
            · simp [c3, c6, p1, p2, q1]
            · have q2 : f.I > 1000000 := by omega
              simp [c3, c6, p1, p2, q1, q2]
        · have c6 : lossOk a.L b.L c.L d.I e.L f.I = false := by simp [lossOk, p2]
          simp [c3, c6, p1, p2]
      · have c6 : lossOk a.L b.L c.L d.I e.L f.I = false := by simp [lossOk, p1]
        simp [c6, p1]
  · simp [hsh]
set_option maxRecDepth 100000 in
theorem carLosses_law : carLossesLaw := fun xs hx =>
  law_true hC (sp := sp9) (lp := lp9) (n := 12) ⟨ok15 11, ok16, ok35 4, ok36 4, ok18 9, ok37 10, ok38 8, ok39 11, trivial⟩ (by kernel_rfl) [] (by kernel_rfl) rfl (fun k hk => by cases hk)
    (ts := [25, 60, 3]) (ks := s9.args) (by kernel_rfl) (of_decide_eq_true (by kernel_rfl)) (m := 6) (by kernel_rfl) (fun ds hl => by
      match ds, hl with
      | [a, b, c, d, e, f], _ => exact law9 a b c d e f) 12 xs hx
theorem car_losses : Rows.CarLossesSaid := carLosses_over carLosses_law
end Go.Proofs.Ytlofnkkokcihnaa
