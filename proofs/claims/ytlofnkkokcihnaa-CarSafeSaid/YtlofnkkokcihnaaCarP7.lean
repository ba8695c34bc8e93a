/-
  The law of safe amounts of fuel holds for every input.
-/
import Derived.Test.YtlofnkkokcihnaaCarPS
import Derived.Test.YtlofnkkokcihnaaCarTree7
import Derived.Test.YtlofnkkokcihnaaCarK
import Derived.Test.YtlofnkkokcihnaaCarSafeOver
namespace Go.Proofs.Ytlofnkkokcihnaa
open Go.Lite

theorem refSafe_eq {t r : Int} {l am : List (List D)} : ∀ (k i : Nat) (lo hi : Int), refSafeFrom t r l am i k lo hi = (allFrom (amOk l am) i k && safeFrom t r l am i k lo hi)
  | 0, i, lo, hi => rfl
  | k + 1, i, lo, hi => by
    simp only [refSafeFrom, allFrom, safeFrom, refSafe_eq k]
    cases amOk l am i
    · rfl
    · by_cases c1 : hi + ix (am.getD i []) 0 > t
      · simp only [c1, if_true, Bool.and_false]; rfl
      · by_cases c2 : lo + ix (am.getD i []) 0 - ix (l.getD i []) 1 < r
        · simp only [c1, c2, if_true, if_false, Bool.and_false]; rfl
        · simp only [c1, c2, if_false, Bool.not_true, Bool.false_eq_true, Bool.true_and]
theorem law7 (a b c d e : D) : (fnT C tab7 7 s7 [a, b, c, d, e]).run = some [D.b true] := by
  refine (congrArg T.run (t7 a b c d e)).trans ?_
  have hb : big = 4611686018427387904 := rfl
  simp only [run_ite, run_need, run_leaf, refSafe_eq]
  by_cases h1 : (d.L.length : Int) > 60
  · simp [h1]
  · by_cases h2 : (e.L.length : Int) > 60
    · simp [h1, h2]
    · have hy := yes_true (p := d.L.length < big ∧ e.L.length < big) ⟨by omega, by omega⟩
      simp only [h1, h2, hy, decide_false, Bool.false_eq_true, if_false, if_true]
      by_cases h3 : tankOk a.I b.I c.I d.L = true
      · have h3' := h3
        simp only [tankOk, Bool.and_eq_true, Lite.within_iff, decide_eq_true_eq] at h3'
        have hz := yes_true (p := 0 ≤ b.I ∧ a.I ≤ 1000000 ∧ d.L.length ≤ 50 ∧ allFrom (legAt d.L) 0 d.L.length = true ∧ bounds a.I c.I c.I) ⟨by omega, by omega, by omega, h3'.2, by omega, by omega, by omega⟩
        simp only [h3, hz, Bool.not_true, Bool.false_eq_true, if_false, if_true, Bool.true_and]
        by_cases h4 : e.L.length = d.L.length
        · simp [h4]
        · simp [h4]
      · simp [h3]
set_option maxRecDepth 100000 in
theorem carSafe_law : carSafeLaw := fun xs hx =>
  law_true hC (sp := sp7) (lp := lp7) (n := 12) ⟨ok16, ok32 6, ok26 10, ok33 10, trivial⟩ (by kernel_rfl) [] (by kernel_rfl) rfl (fun k hk => by cases hk)
    (ts := [3, 3, 3, 44, 23]) (ks := s7.args) (by kernel_rfl) (of_decide_eq_true (by kernel_rfl)) (m := 5) (by kernel_rfl) (fun ds hl => by
      match ds, hl with
      | [a, b, c, d, e], _ => exact law7 a b c d e) 12 xs hx
theorem car_safe : Rows.CarSafeSaid := carSafe_over carSafe_law
end Go.Proofs.Ytlofnkkokcihnaa
