/-
  The law of possible plans of tyres holds for every input.
-/
import Derived.Test.YtlofnkkokcihnaaCarPV
import Derived.Test.YtlofnkkokcihnaaCarTree11
import Derived.Test.YtlofnkkokcihnaaCarK
import Derived.Test.YtlofnkkokcihnaaCarP3
import Derived.Test.YtlofnkkokcihnaaCarPossibleOver
namespace Go.Proofs.Ytlofnkkokcihnaa
open Go.Lite

theorem few_small {cs ls : List (List D)} (h : fewOk cs ls = true) : smallCs cs ∧ ∀ j, j < ls.length → (rowAt ls j).length < lim := by
  have hb : big = 4611686018427387904 := rfl
  have hl : lim = 9223372036854775808 := rfl
  simp only [fewOk, Bool.and_eq_true, decide_eq_true_eq, allFrom_iff] at h
  obtain ⟨⟨⟨h1, h2⟩, h3⟩, h4⟩ := h
  refine ⟨⟨by omega, fun j hj => ?_⟩, fun j hj => ?_⟩
  · obtain ⟨k1, k2, k3, -, -⟩ := small_of (h3 j (Nat.zero_le _) (by omega))
    exact ⟨k1, k2, k3⟩
  · have := of_decide_eq_true (h4 j (Nat.zero_le _) (by omega))
    omega
theorem law11 (a b c d e f : D) : (fnT C tab11 11 s11 [a, b, c, d, e, f]).run = some [D.b true] := by
  refine (congrArg T.run (t11 a b c d e f)).trans ?_
  refine go_not (fun _ => rfl) fun hf => go_if (fun _ => rfl) fun _ => go_if (fun _ => rfl) fun _ => ?_
  obtain ⟨h1, h2⟩ := few_small hf
  refine go_yes h1 (go_yes ⟨h1, h2⟩ (go_not (fun ht => ?_) fun ht => go_yes ht ?_))
  · have e : possC a.L b.L d.L e.L c.I = (0, false) := by unfold possC; simp [ht]
    rw [e]; rfl
  · rw [poss_eq ht]
    exact go_true (by simp) (go_true (by simp) rfl)
set_option maxRecDepth 100000 in
theorem carPossible_law : carPossibleLaw := fun xs hx =>
  law_true hC (sp := sp11) (lp := lp11) (n := 12) ⟨ok20 10, ok16, ok40 11 ⟨ok52 1, ok47 10, ok54 6, trivial⟩, ok22 8, ok41 11 ⟨ok50 10, ok39 10, ok38 7, trivial⟩, trivial⟩ (by kernel_rfl) [] (by kernel_rfl) rfl (fun k hk => by cases hk)
    (ts := [33, 34, 3, 37]) (ks := s11.args) (by kernel_rfl) (of_decide_eq_true (by kernel_rfl)) (m := 6) (by kernel_rfl) (fun ds hl => by
      match ds, hl with
      | [a, b, c, d, e, f], _ => exact law11 a b c d e f) 12 xs hx
theorem car_possible : Rows.CarPossibleSaid := carPossible_over carPossible_law
end Go.Proofs.Ytlofnkkokcihnaa
