/-
  What all proofs of this seat use.
-/
import Derived.Test.YtipbcpobnciccaaSymGo
import Derived.Test.YtipbcpobnciccaaCfg
namespace Go.Proofs.Ytipbcpobnciccaa
open Go.Lite
set_option maxRecDepth 100000

theorem hC : ∀ t Y, C.ty t = some Y → tyOf C.P t = some Y := by
  intro t Y h
  dsimp only [C] at h ⊢
  exact h
theorem fuelC : C.fuel = 18446744073709551616 := by kernel_rfl
theorem big_eq : big = 4611686018427387904 := rfl
theorem max_if (a b : Int) : (if b > a then b else a) = max a b := by
  rw [Int.max_def]
  by_cases h : b > a
  · rw [if_pos h, if_pos (by omega)]
  · rw [if_neg h]
    by_cases h2 : a ≤ b
    · rw [if_pos h2]; omega
    · rw [if_neg h2]
theorem within_dec {x a b : Int} : Lite.within x a b = decide (a ≤ x ∧ x ≤ b) := by simp [Lite.within]
/-! ### Steps of loops -/
section
variable {α : Type} {p : Nat → Bool} {i len : Nat} {rt rf r : α}
theorem all_step (h : (T.ite (allFrom p i (len - i)) (.leaf rt) (.leaf rf)).run = some r) (hlt : i < len) : (p i = false → some rf = some r) ∧ (p i = true → (T.ite (allFrom p (i + 1) (len - (i + 1))) (.leaf rt) (.leaf rf)).run = some r) := by
  rw [show len - i = (len - (i + 1)) + 1 by omega] at h
  simp only [allFrom] at h
  refine ⟨fun hp => ?_, fun hp => ?_⟩
  · rw [hp, Bool.false_and] at h; exact h
  · rw [hp, Bool.true_and] at h; exact h
theorem all_end (h : (T.ite (allFrom p i (len - i)) (.leaf rt) (.leaf rf)).run = some r) (hge : ¬ i < len) : some rt = some r := by
  rw [show len - i = 0 by omega] at h
  exact h
end
section
variable {p : Nat → Bool} {i len : Nat} {ro r : Ex × List D}
theorem first_step (h : (T.ite (decide (firstFrom p i (len - i) ≥ 0)) (.leaf (.ret, [.i (firstFrom p i (len - i))])) (.leaf ro)).run = some r) (hlt : i < len) :
    (p i = true → some (Ex.ret, [D.i (i : Int)]) = some r) ∧ (p i = false → (T.ite (decide (firstFrom p (i + 1) (len - (i + 1)) ≥ 0)) (.leaf (.ret, [.i (firstFrom p (i + 1) (len - (i + 1)))])) (.leaf ro)).run = some r) := by
  rw [show len - i = (len - (i + 1)) + 1 by omega] at h
  simp only [firstFrom] at h
  refine ⟨fun hp => ?_, fun hp => ?_⟩
  · simp only [hp, if_true, run_ite, run_leaf] at h
    rw [if_pos (by simp)] at h
    exact h
  · simp only [hp, Bool.false_eq_true, if_false] at h
    exact h
theorem first_end (h : (T.ite (decide (firstFrom p i (len - i) ≥ 0)) (.leaf (.ret, [.i (firstFrom p i (len - i))])) (.leaf ro)).run = some r) (hge : ¬ i < len) : some ro = some r := by
  rw [show len - i = 0 by omega] at h
  simp only [firstFrom, run_ite, run_leaf] at h
  rw [if_neg (by simp)] at h
  exact h
end

/-- Where a head has several shapes, a number says which. -/
theorem roundTK_head {C : Cfg} {tab : Tab} {f : FuncId} {b : Code} {k : Nat} {s : LSig} {j : D} {n : Int} {r : List D} (h : j.I = n) (hs : 2 ≤ s.head.length) : roundTK C tab f b k s (j :: r) = roundTK C tab f b k s (.i n :: r) := by
  obtain ⟨live, head, exits⟩ := s
  match head, hs with
  | a :: b :: c, _ => simp only [roundTK, headA, List.headD_cons, List.tail_cons, I_i, h]
theorem bytes3 : (Try.prog.types[3].bytes : Int) = 8 := by kernel_rfl
theorem bytes58 : Try.prog.types[58].bytes = 24 := by kernel_rfl
end Go.Proofs.Ytipbcpobnciccaa
