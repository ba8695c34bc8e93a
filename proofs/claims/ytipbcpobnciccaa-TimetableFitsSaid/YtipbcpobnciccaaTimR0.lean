/-
  What all proofs of this seat use.
-/
import Derived.Test.YtipbcpobnciccaaSymGo
import Derived.Test.YtipbcpobnciccaaCfg
namespace Go.Proofs.Ytipbcpobnciccaa
open Go.Lite
set_option maxRecDepth 100000

theorem hC : ∀ t Y, C.ty t = some Y → tyOf C.P t = some Y := by
  intro t Y h
  dsimp only [C] at h ⊢
  exact h
theorem fuelC : C.fuel = 18446744073709551616 := by kernel_rfl
theorem big_eq : big = 4611686018427387904 := rfl
theorem max_if (a b : Int) : (if b > a then b else a) = max a b := by
  rw [Int.max_def]
  by_cases h : b > a
  · rw [if_pos h, if_pos (by omega)]
  · rw [if_neg h]
    by_cases h2 : a ≤ b
    · rw [if_pos h2]; omega
    · rw [if_neg h2]
theorem within_dec {x a b : Int} : Lite.within x a b = decide (a ≤ x ∧ x ≤ b) := by simp [Lite.within]
/-! ### Steps of loops -/
section
variable {α : Type} {p : Nat → Bool} {i len : Nat} {rt rf r : α}
theorem all_step (h : (T.ite (allFrom p i (len - i)) (.leaf rt) (.leaf rf)).run = some r) (hlt : i < len) : (p i = false → some rf = some r) ∧ (p i = true → (T.ite (allFrom p (i + 1) (len - (i + 1))) (.leaf rt) (.leaf rf)).run = some r) := by
  rw [show len - i = (len - (i + 1)) + 1 by omega] at h
  simp only [allFrom] at h
  refine ⟨fun hp => ?_, fun hp => ?_⟩
  · rw [hp, Bool.false_and] at h; exact h
  · rw [hp, Bool.true_and] at h; exact h
theorem all_end (h : (T.ite (allFrom p i (len - i)) (.leaf rt) (.leaf rf)).run = some r) (hge : ¬ i < len) : some rt = some r := by
  rw [show len - i = 0 by omega] at h
  exact h
end
section
variable {p : Nat → Bool} {i len : Nat} {ro r : Ex × List D}
theorem first_step (h : (T.ite (decide (firstFrom p i (len - i) ≥ 0)) (.leaf (.ret, [.i (firstFrom p i (len - i))])) (.leaf ro)).run = some r) (hlt : i < len) :
    (p i = true → some (Ex.ret, [D.i (i : Int)]) = some r) ∧ (p i = false → (T.ite (decide (firstFrom p (i + 1) (len - (i + 1)) ≥ 0)) (.leaf (.ret, [.i (firstFrom p (i + 1) (len - (i + 1)))])) (.leaf ro)).run = some r) := by
  rw [show len - i = (len - (i + 1)) + 1 by omega] at h
  simp only [firstFrom] at h
  refine ⟨fun hp => ?_, fun hp => ?_⟩
  · simp only [hp, if_true, run_ite, run_leaf] at h
    rw [if_pos (by simp)] at h
    exact h
  · simp only [hp, Bool.false_eq_true, if_false] at h
    exact h
theorem first_end (h : (T.ite (decide (firstFrom p i (len - i) ≥ 0)) (.leaf (.ret, [.i (firstFrom p i (len - i))])) (.leaf ro)).run = some r) (hge : ¬ i < len) : some ro = some r := by
  rw [show len - i = 0 by omega] at h
  simp only [firstFrom, run_ite, run_leaf] at h
  rw [if_neg (by simp)] at h
  exact h
end

/-! ### Rows of integers -/
noncomputable section
def rg (R : List (List D)) (j : Nat) : Int := ix (R.getD j []) 0
def rs (R : List (List D)) (j : Nat) (v : Int) : List (List D) := R.set j [.i v]
end
theorem len_rs (R : List (List D)) (j : Nat) (v : Int) : (rs R j v).length = R.length := by simp [rs]
theorem rg_rs {R : List (List D)} {j : Nat} (hj : j < R.length) (v : Int) (i : Nat) : rg (rs R j v) i = if i = j then v else rg R i := by
  unfold rg rs
  simp only [List.getD_eq_getElem?_getD, List.getElem?_set]
  by_cases e : i = j
  · subst e; simp [hj, ix, D.I]
  · rw [if_neg (fun h => e h.symm), if_neg e]
theorem rg_ge {R : List (List D)} {j : Nat} (hj : R.length ≤ j) : rg R j = 0 := by
  unfold rg
  rw [List.getD_eq_getElem?_getD, List.getElem?_eq_none hj]
  rfl
theorem rg_def (R : List (List D)) (j : Nat) : ((R.getD j []).getD 0 default).I = rg R j := rfl
theorem rs_def (R : List (List D)) (j : Nat) (v : Int) : R.set j [.i v] = rs R j v := rfl
theorem rg_rep {n j : Nat} {v : Int} (hj : j < n) : rg (List.replicate n [.i v]) j = v := by
  unfold rg
  rw [List.getD_eq_getElem?_getD, List.getElem?_replicate, if_pos hj]
  rfl
theorem upd2 (c : List D) (x y : D) : updC c [x, y] 0 0 (List.length [K.int .i64, K.int .i64]) = [x, y] := by simp [updC]
theorem roundTK_head {C : Cfg} {tab : Tab} {f : FuncId} {b : Code} {k : Nat} {s : LSig} {j : D} {n : Int} {r : List D} (h : j.I = n) (hs : 2 ≤ s.head.length) : roundTK C tab f b k s (j :: r) = roundTK C tab f b k s (.i n :: r) := by
  obtain ⟨live, head, exits⟩ := s
  match head, hs with
  | a :: b :: c, _ => simp only [roundTK, roundTG, headL, headA, List.headD_cons, List.tail_cons, I_i, h]
/-- A function with two shapes of its arguments. -/
def mkF2 (s : Sig) (G : List D → T (List D)) (s' : Sig) (G' : List D → T (List D)) : List SV → T (SV × SHeap) := fun args => match fitsVs s.args args with
  | some ds => (G ds).map (headR s.res)
  | none => match fitsVs s'.args args with
    | some ds => (G' ds).map (headR s'.res)
    | none => .fail
theorem fn_two {C : Cfg} {n : Nat} {f : FuncId} {s s' : Sig} {G G' : List D → T (List D)} (h : FnOK C n f (mkF s G)) (h' : FnOK C n f (mkF s' G')) : FnOK C n f (mkF2 s G s' G') := by
  intro args v hb hv avs ha
  unfold mkF2 at hv
  split at hv
  · rename_i ds hds
    exact h args v hb (by unfold mkF; rw [hds]; exact hv) avs ha
  · split at hv
    · rename_i ds hds
      exact h' args v hb (by unfold mkF; rw [hds]; exact hv) avs ha
    · cases hv
end Go.Proofs.Ytipbcpobnciccaa
