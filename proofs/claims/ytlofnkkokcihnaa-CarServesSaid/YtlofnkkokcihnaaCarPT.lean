/-
  The functions of losses where no error is met; a loop in two pieces; a tyre that is worn more.
-/
import Derived.Test.YtlofnkkokcihnaaCarPM
import Derived.Test.YtlofnkkokcihnaaCarSpecT
namespace Go.Proofs.Ytlofnkkokcihnaa
open Go.Lite

theorem mkF_weak {s : Sig} {G G' : List D → T (List D)} (h : ∀ ds r, (G' ds).run = some r → (G ds).run = some r) : ∀ args v hb, (mkF s G' args).run = some (v, hb) → (mkF s G args).run = some (v, hb) := by
  intro args v hb hr
  unfold mkF at hr ⊢
  split
  · rename_i ds hds
    simp only [hds, T.run_map, Option.map_eq_some_iff] at hr ⊢
    obtain ⟨r, h1, h2⟩ := hr
    exact ⟨r, h _ _ h1, h2⟩
  · rename_i hds
    simp only [hds] at hr
    cases hr
theorem ok35w (n : Nat) : FnOK C (n + 8) 35 (mkF s35 G35w) := (ok35 n).mono <| mkF_weak fun ds r h => by
  unfold G35w at h
  split at h
  · obtain ⟨hp, h⟩ := need_some h
    rw [yes_iff] at hp
    rw [← h]
    unfold G35
    rw [need_yes ⟨hp.1, hp.2.1, hp.2.2.1⟩]
    simp only [run_ite, run_leaf, hp.2.2.2, if_true]
  · cases h
theorem ok36w (n : Nat) : FnOK C (n + 8) 36 (mkF s36 G36w) := (ok36 n).mono <| mkF_weak fun ds r h => by
  unfold G36w at h
  split at h
  · obtain ⟨hp, h⟩ := need_some h
    rw [yes_iff] at hp
    rw [← h]
    unfold G36
    rw [need_yes ⟨hp.1, hp.2.1, hp.2.2.1⟩]
    simp only [run_ite, run_leaf, hp.2.2.2, if_true]
  · cases h

/-! ### Drives as folds -/
section
variable (dry wet wl : List (List D)) (loss : Int)
def driveL : List (List D) → Int → Int → Bool → Int × Int × Bool
  | [], w, s, b => (w, s, b)
  | c :: cs, w, s, b => driveL cs (if stepWear wl w c > 1000000 then 1000000 else stepWear wl w c) (s + stepLoss dry wet loss w c) (if stepWear wl w c > 1000000 then false else b)
variable {dry wet wl loss}
theorem driveFrom_L (l : List (List D)) : ∀ (k i : Nat) (w s : Int) (b : Bool), i + k = l.length → driveFrom dry wet wl loss l i k w s b = driveL dry wet wl loss (l.drop i) w s b
  | 0, i, w, s, b, h => by
    rw [List.drop_eq_nil_of_le (by omega)]
    simp only [driveFrom, driveL]
  | k + 1, i, w, s, b, h => by
    have hi : i < l.length := by omega
    rw [List.drop_eq_getElem_cons hi]
    have e : l.getD i [] = l[i] := by simp [List.getD_eq_getElem?_getD, hi]
    simp only [driveFrom, driveL, e]
    exact driveFrom_L l k (i + 1) _ _ _ (by omega)
theorem drive_L (l : List (List D)) (w : Int) : drive dry wet wl loss l w = driveL dry wet wl loss l w 0 true := by
  unfold drive
  rw [driveFrom_L l l.length 0 w 0 true (by omega), List.drop_zero]
theorem driveL_append : ∀ (a b : List (List D)) (w s : Int) (o : Bool), driveL dry wet wl loss (a ++ b) w s o = driveL dry wet wl loss b (driveL dry wet wl loss a w s o).1 (driveL dry wet wl loss a w s o).2.1 (driveL dry wet wl loss a w s o).2.2
  | [], b, w, s, o => rfl
  | c :: a, b, w, s, o => by
    simp only [List.cons_append, driveL]
    exact driveL_append a b _ _ _
theorem driveL_sum : ∀ (a : List (List D)) (w s : Int) (o : Bool), (driveL dry wet wl loss a w s o).1 = (driveL dry wet wl loss a w 0 true).1 ∧ (driveL dry wet wl loss a w s o).2.1 = s + (driveL dry wet wl loss a w 0 true).2.1 ∧ (driveL dry wet wl loss a w s o).2.2 = (o && (driveL dry wet wl loss a w 0 true).2.2)
  | [], w, s, o => by simp [driveL]
  | c :: a, w, s, o => by
    simp only [driveL]
    obtain ⟨h1, h2, h3⟩ := driveL_sum a (if stepWear wl w c > 1000000 then 1000000 else stepWear wl w c) (s + stepLoss dry wet loss w c) (if stepWear wl w c > 1000000 then false else o)
    obtain ⟨h4, h5, h6⟩ := driveL_sum a (if stepWear wl w c > 1000000 then 1000000 else stepWear wl w c) (0 + stepLoss dry wet loss w c) (if stepWear wl w c > 1000000 then false else true)
    refine ⟨h1.trans h4.symm, by rw [h2, h5]; omega, ?_⟩
    rw [h3, h6]
    split <;> simp
/-- What a stretch must be that more wear loses more. -/
def Fine (dry wet wl : List (List D)) (loss : Int) (c : List D) : Prop := ∀ w w', 0 ≤ w → w ≤ w' → w' ≤ 1000000 → stepLoss dry wet loss w c ≤ stepLoss dry wet loss w' c ∧ 0 ≤ stepWear wl w c - w ∧ stepWear wl w' c - w' = stepWear wl w c - w
theorem driveL_mono : ∀ (a : List (List D)) (w w' s s' : Int) (o o' : Bool), (∀ c ∈ a, Fine dry wet wl loss c) → 0 ≤ w → w ≤ w' → w' ≤ 1000000 → s ≤ s' → (o' = true → o = true) →
    (driveL dry wet wl loss a w s o).2.1 ≤ (driveL dry wet wl loss a w' s' o').2.1 ∧ ((driveL dry wet wl loss a w' s' o').2.2 = true → (driveL dry wet wl loss a w s o).2.2 = true)
  | [], w, w', s, s', o, o', _, _, _, _, hs, ho => ⟨hs, ho⟩
  | c :: a, w, w', s, s', o, o', hf, h0, h1, h2, hs, ho => by
    obtain ⟨f1, f2, f3⟩ := hf c (by simp) w w' h0 h1 h2
    simp only [driveL]
    refine driveL_mono a _ _ _ _ _ _ (fun x hx => hf x (by simp [hx])) ?_ ?_ ?_ (by omega) ?_
    · split <;> omega
    · split <;> split <;> omega
    · split <;> omega
    · split
      · intro h; cases h
      · intro h
        rw [if_neg (by omega)]
        exact ho h
theorem driveL_range : ∀ (a : List (List D)) (w s : Int) (o : Bool), (∀ c ∈ a, Fine dry wet wl loss c) → 0 ≤ w → w ≤ 1000000 → 0 ≤ (driveL dry wet wl loss a w s o).1 ∧ (driveL dry wet wl loss a w s o).1 ≤ 1000000
  | [], w, s, o, _, h0, h1 => ⟨h0, h1⟩
  | c :: a, w, s, o, hf, h0, h1 => by
    obtain ⟨f1, f2, f3⟩ := hf c (by simp) w w h0 (Int.le_refl _) h1
    simp only [driveL]
    exact driveL_range a _ _ _ (fun x hx => hf x (by simp [hx])) (by split <;> omega) (by split <;> omega)
theorem driveL_bound : ∀ (a : List (List D)) (w s : Int) (o : Bool), (∀ c ∈ a, Fine dry wet wl loss c) → (∀ c ∈ a, ∀ w, 0 ≤ w → w ≤ 1000000 → 0 ≤ stepLoss dry wet loss w c ∧ stepLoss dry wet loss w c ≤ 100000) → 0 ≤ w → w ≤ 1000000 →
    s ≤ (driveL dry wet wl loss a w s o).2.1 ∧ (driveL dry wet wl loss a w s o).2.1 ≤ s + 100000 * a.length
  | [], w, s, o, _, _, h0, h1 => by simp [driveL]
  | c :: a, w, s, o, hf, hb, h0, h1 => by
    obtain ⟨f1, f2, f3⟩ := hf c (by simp) w w h0 (Int.le_refl _) h1
    have h2 := hb c (by simp) w h0 h1
    have h3 := driveL_bound a (if stepWear wl w c > 1000000 then 1000000 else stepWear wl w c) (s + stepLoss dry wet loss w c) (if stepWear wl w c > 1000000 then false else o) (fun x hx => hf x (by simp [hx])) (fun x hx => hb x (by simp [hx])) (by split <;> omega) (by split <;> omega)
    simp only [driveL, List.length_cons]
    omega
end
theorem gripV_ant {g d h h' : Int} (hg : 0 ≤ g) (hd : 0 ≤ d) (hh : 0 ≤ h) (hi : h ≤ h') : gripV g d h' ≤ gripV g d h := by
  unfold gripV
  have h0 : 0 ≤ g * d := Int.mul_nonneg hg hd
  have h1 : 0 ≤ g * d * h := Int.mul_nonneg h0 hh
  have h2 : g * d * h ≤ g * d * h' := Int.mul_le_mul_of_nonneg_left hi h0
  rw [Int.tdiv_eq_ediv_of_nonneg h1, Int.tdiv_eq_ediv_of_nonneg (by omega)]
  omega
theorem fine_of {dry wet wl : List (List D)} {loss : Int} {l : List (List D)} (hp : drivePre dry wet wl loss l) : ∀ c ∈ l, Fine dry wet wl loss c ∧ ∀ w, 0 ≤ w → w ≤ 1000000 → 0 ≤ stepLoss dry wet loss w c ∧ stepLoss dry wet loss w c ≤ 100000 := by
  intro c hc
  obtain ⟨j, hj, rfl⟩ := List.getElem_of_mem hc
  have e : l[j] = l.getD j [] := by simp [List.getD_eq_getElem?_getD, hj]
  rw [e]
  refine ⟨fun w w' h0 h1 h2 => ?_, fun w h0 h1 => (step_of hp ⟨h0, h1⟩ hj).2.2.2.2.2.2.2.1⟩
  obtain ⟨p1, p2, p3, p4, p5, p6, p7, p8, p9⟩ := step_of hp (w := w) ⟨h0, by omega⟩ hj
  have q7 := (step_of hp (w := w') ⟨by omega, h2⟩ hj).2.2.2.2.2.2.1
  refine ⟨?_, ?_, ?_⟩
  · unfold stepLoss
    have ha : gripC dry wet loss (ix (l.getD j []) 0) (ix (l.getD j []) 2) (bx (l.getD j []) 3) w' ≤ gripC dry wet loss (ix (l.getD j []) 0) (ix (l.getD j []) 2) (bx (l.getD j []) 3) w := gripV_ant (freshV_range p1.2.2.2).1 p3.1 h0 h1
    generalize gripC dry wet loss (ix (l.getD j []) 0) (ix (l.getD j []) 2) (bx (l.getD j []) 3) w' = g' at *
    generalize gripC dry wet loss (ix (l.getD j []) 0) (ix (l.getD j []) 2) (bx (l.getD j []) 3) w = g at *
    have m1 : 0 ≤ ix (l.getD j []) 1 * (1000 - g) := Int.mul_nonneg p5.1 (by omega)
    have m2 : ix (l.getD j []) 1 * (1000 - g) ≤ ix (l.getD j []) 1 * (1000 - g') := Int.mul_le_mul_of_nonneg_left (by omega) p5.1
    rw [Int.tdiv_eq_ediv_of_nonneg m1, Int.tdiv_eq_ediv_of_nonneg (by omega)]
    omega
  · unfold stepWear; omega
  · unfold stepWear; omega
end Go.Proofs.Ytlofnkkokcihnaa
