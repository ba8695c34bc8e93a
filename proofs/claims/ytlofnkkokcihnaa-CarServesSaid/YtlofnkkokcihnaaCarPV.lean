/-
  The document's plans of tyres are the program's: plain arithmetic.
-/
import Derived.Test.YtlofnkkokcihnaaCarPU
namespace Go.Proofs.Ytlofnkkokcihnaa
open Go.Lite

theorem allS (p : Nat → Bool) (i k : Nat) : allFrom p i (k + 1) = (p i && allFrom p (i + 1) k) := rfl
/-! ### Sums -/
def sumR (f : Nat → Int) : Nat → Nat → Int
  | _, 0 => 0
  | i, k + 1 => f i + sumR f (i + 1) k
theorem sumR_add {f g h : Nat → Int} : ∀ k i, (∀ j, i ≤ j → j < i + k → h j = f j + g j) → sumR h i k = sumR f i k + sumR g i k
  | 0, _, _ => rfl
  | k + 1, i, hh => by
    simp only [sumR]
    rw [sumR_add k (i + 1) (fun j h1 h2 => hh j (by omega) (by omega)), hh i (Nat.le_refl _) (by omega)]
    omega
theorem sumR_none {a : Nat} {v : Int} : ∀ k i, a < i → sumR (fun s => if a = s then v else 0) i k = 0
  | 0, _, _ => rfl
  | k + 1, i, h => by
    simp only [sumR]
    rw [sumR_none k (i + 1) (by omega), if_neg (by omega)]
    omega
theorem sumR_single {a : Nat} {v : Int} : ∀ k i, i ≤ a → a < i + k → sumR (fun s => if a = s then v else 0) i k = v
  | 0, _, _, _ => by omega
  | k + 1, i, h1, h2 => by
    simp only [sumR]
    by_cases h : a = i
    · subst h
      rw [sumR_none k (a + 1) (by omega), if_pos rfl]
      omega
    · rw [sumR_single k (i + 1) (by omega) (by omega), if_neg h]
      omega
theorem sumR_zero : ∀ k i, sumR (fun _ => 0) i k = 0
  | 0, _ => rfl
  | k + 1, i => by simp only [sumR, sumR_zero k (i + 1)]; omega

section
variable (cs ls sets comps : List (List D))
def setAt (i : Nat) : Int := ix (sets.getD i []) 0
/-- The wear of a set ahead of a loop. -/
def wearAt (s : Int) : Nat → Int
  | 0 => 0
  | i + 1 => if setAt sets i = s then (drv (kindOfSet cs comps s) (rowAt ls i) (wearAt s i)).1 else wearAt s i
def gainAt (i : Nat) : Int := (drv (kindOfSet cs comps (setAt sets i)) (rowAt ls i) (wearAt cs ls sets comps (setAt sets i) i)).2.1
def lastAt (i : Nat) : Bool := (drv (kindOfSet cs comps (setAt sets i)) (rowAt ls i) (wearAt cs ls sets comps (setAt sets i) i)).2.2
def gainOf (s : Int) (i : Nat) : Int := if setAt sets i = s then gainAt cs ls sets comps i else 0
def lastOf (s : Int) (i : Nat) : Bool := !decide (setAt sets i = s) || lastAt cs ls sets comps i
theorem used_eq (s : Int) : ∀ k i acc, usedFrom (kindOfSet cs comps s) ls sets s i k (wearAt cs ls sets comps s i) acc = if allFrom (lastOf cs ls sets comps s) i k then (acc + sumR (gainOf cs ls sets comps s) i k, true) else (0, false)
  | 0, i, acc => by simp [usedFrom, allFrom, sumR]
  | k + 1, i, acc => by
    simp only [usedFrom, sumR]
    rw [allS]
    by_cases hs : setAt sets i = s
    · have hs' : ix (sets.getD i []) 0 = s := hs
      rw [if_pos hs']
      have e1 : lastOf cs ls sets comps s i = (drv (kindOfSet cs comps s) (rowAt ls i) (wearAt cs ls sets comps s i)).2.2 := by unfold lastOf lastAt; rw [hs]; simp
      have e2 : gainOf cs ls sets comps s i = (drv (kindOfSet cs comps s) (rowAt ls i) (wearAt cs ls sets comps s i)).2.1 := by unfold gainOf gainAt; rw [if_pos hs, hs]
      have e3 : wearAt cs ls sets comps s (i + 1) = (drv (kindOfSet cs comps s) (rowAt ls i) (wearAt cs ls sets comps s i)).1 := by simp only [wearAt, if_pos hs]
      have := used_eq s k (i + 1) (acc + (drv (kindOfSet cs comps s) (rowAt ls i) (wearAt cs ls sets comps s i)).2.1)
      rw [e3] at this
      rw [this, e1, e2]
      cases (drv (kindOfSet cs comps s) (rowAt ls i) (wearAt cs ls sets comps s i)).2.2 with
      | true => simp only [if_true, Bool.true_and, Int.add_assoc]
      | false => simp only [Bool.false_and, Bool.false_eq_true, if_false]
    · have hs' : ¬ ix (sets.getD i []) 0 = s := hs
      rw [if_neg hs']
      have e1 : lastOf cs ls sets comps s i = true := by unfold lastOf; simp [hs]
      have e2 : gainOf cs ls sets comps s i = 0 := by unfold gainOf; rw [if_neg hs]
      have e3 : wearAt cs ls sets comps s (i + 1) = wearAt cs ls sets comps s i := by simp only [wearAt, if_neg hs]
      have := used_eq s k (i + 1) acc
      rw [e3] at this
      rw [this, e1, e2, Bool.true_and]
      simp only [Int.zero_add]
theorem sums_eq : ∀ k i acc, (∀ j, i ≤ j → j < i + k → True) → sumsFrom cs ls sets comps i k acc = if allFrom (fun j => compAt cs comps j && allFrom (lastOf cs ls sets comps j) 0 ls.length) i k then (acc + sumR (fun j => sumR (gainOf cs ls sets comps j) 0 ls.length) i k, true) else (0, false)
  | 0, i, acc, _ => by simp [sumsFrom, allFrom, sumR]
  | k + 1, i, acc, _ => by
    have hu : usedAll (cs.getD (ix (comps.getD i []) 0).toNat []) ls sets i = if allFrom (lastOf cs ls sets comps i) 0 ls.length then (0 + sumR (gainOf cs ls sets comps i) 0 ls.length, true) else (0, false) := by
      have := used_eq cs ls sets comps (i : Int) ls.length 0 0
      exact this
    simp only [sumsFrom, sumR, hu]
    rw [allS]
    have e : compAt cs comps i = within (ix (comps.getD i []) 0) 0 (cs.length - 1) := rfl
    rw [← e]
    cases compAt cs comps i with
    | false => simp
    | true =>
      cases allFrom (lastOf cs ls sets comps i) 0 ls.length with
      | false => simp
      | true =>
        simp only [if_true, Bool.and_self, Bool.true_and]
        rw [sums_eq k (i + 1) _ (fun _ _ _ => trivial)]
        simp only [Int.zero_add, Int.add_assoc]
variable {cs ls sets comps}
theorem wear_rng (ht : TaskP cs ls) (hc : allFrom (compAt cs comps) 0 comps.length = true) {s : Nat} (hs : s < comps.length) : ∀ i, i ≤ ls.length → 0 ≤ wearAt cs ls sets comps s i ∧ wearAt cs ls sets comps s i ≤ 1000000
  | 0, _ => by simp [wearAt]
  | i + 1, hi => by
    have ih := wear_rng ht hc hs i (by omega)
    have h1 := allFrom_iff.1 hc s (Nat.zero_le _) (by omega)
    unfold compAt at h1
    rw [Lite.within_iff] at h1
    have hD := ((task_of ht).2.2 (ix (comps.getD s []) 0).toNat (by omega)).2.2 i (by omega)
    simp only [wearAt]
    split
    · have := drv_rng hD ih.1 ih.2
      exact this.1
    · exact ih
theorem ref_eq (ht : TaskP cs ls) (hc : allFrom (compAt cs comps) 0 comps.length = true) : ∀ k i used loss W, i + k ≤ ls.length → W.length = comps.length → (∀ s, s < comps.length → W.getD s 0 = wearAt cs ls sets comps s i) →
    refFrom cs ls sets comps i k used loss W = if (countFrom sets i k used).2 && allFrom (fun j => decide (setAt sets j < comps.length) && lastAt cs ls sets comps j) i k then ((countFrom sets i k used).1, loss + sumR (gainAt cs ls sets comps) i k, true) else (0, 0, false)
  | 0, i, used, loss, W, _, _, _ => by simp [refFrom, countFrom, allFrom, sumR]
  | k + 1, i, used, loss, W, hik, hl, hW => by
    simp only [refFrom, countFrom, sumR]
    rw [allS]
    have es : ix (sets.getD i []) 0 = setAt sets i := rfl
    simp only [es]
    by_cases hb : 0 ≤ setAt sets i ∧ setAt sets i ≤ used
    · have hw : within (setAt sets i) 0 used = true := Lite.within_iff.2 hb
      rw [hw]
      simp only [if_true]
      by_cases hm : setAt sets i < comps.length
      · obtain ⟨x, hx⟩ : ∃ x : Nat, setAt sets i = x := ⟨(setAt sets i).toNat, by omega⟩
        have hxl : x < comps.length := by omega
        have h1 := allFrom_iff.1 hc x (Nat.zero_le _) (by omega)
        unfold compAt at h1
        rw [Lite.within_iff] at h1
        have hD := ((task_of ht).2.2 (ix (comps.getD x []) 0).toNat (by omega)).2.2 i (by omega)
        have hwr := wear_rng (sets := sets) ht hc hxl i (by omega)
        obtain ⟨-, hu2⟩ := drv_use hD hwr.2
        have ek : kindOfSet cs comps (setAt sets i) = cs.getD (ix (comps.getD x []) 0).toNat [] := by unfold kindOfSet; rw [hx, Int.toNat_natCast]
        have eW : W.getD (setAt sets i).toNat 0 = wearAt cs ls sets comps x i := by rw [hx, Int.toNat_natCast]; exact hW x hxl
        have el : lastAt cs ls sets comps i = decide (wearAt cs ls sets comps x i + useFrom (lx (cs.getD (ix (comps.getD x []) 0).toNat []) 2) (rowAt ls i) 0 (rowAt ls i).length ≤ 1000000) := by
          unfold lastAt; rw [ek, hx]; exact hu2
        have eg : gainAt cs ls sets comps i = (drv (cs.getD (ix (comps.getD x []) 0).toNat []) (rowAt ls i) (wearAt cs ls sets comps x i)).2.1 := by unfold gainAt; rw [ek, hx]
        rw [ek, eW, el, eg]
        have emax : (if setAt sets i = used then used + 1 else used) = max used (setAt sets i + 1) := by split <;> omega
        rw [emax]
        by_cases hlast : wearAt cs ls sets comps x i + useFrom (lx (cs.getD (ix (comps.getD x []) 0).toNat []) 2) (rowAt ls i) 0 (rowAt ls i).length ≤ 1000000
        · rw [if_pos ⟨hb.1, hb.2, hm, hlast⟩]
          rw [decide_eq_true hlast, decide_eq_true hm, Bool.and_self, Bool.true_and]
          rw [ref_eq ht hc k (i + 1) _ _ _ (by omega) (by rw [List.length_set]; exact hl) (fun s hs => by
            rw [hx, Int.toNat_natCast, getD_set (by omega)]
            simp only [wearAt]
            by_cases hsx : s = x
            · subst hsx
              rw [if_pos rfl, if_pos hx]
              unfold kindOfSet
              rw [Int.toNat_natCast]
            · rw [if_neg hsx, if_neg (by omega)]
              exact hW s hs)]
          simp only [Int.add_assoc]
        · rw [if_neg (fun hh => hlast hh.2.2.2), decide_eq_false hlast]
          simp
      · rw [if_neg (fun hh => hm hh.2.2.1), decide_eq_false hm]
        simp
    · have hw : within (setAt sets i) 0 used = false := Bool.eq_false_iff.2 fun hh => hb (Lite.within_iff.1 hh)
      rw [hw, if_neg (fun hh => hb ⟨hh.1, hh.2.1⟩)]
      simp
/-- Sets that are counted are fewer than the count. -/
theorem count_lt : ∀ k i n, (countFrom sets i k n).2 = true → n ≤ (countFrom sets i k n).1 ∧ ∀ j, i ≤ j → j < i + k → 0 ≤ setAt sets j ∧ setAt sets j < (countFrom sets i k n).1
  | 0, i, n, _ => ⟨Int.le_refl _, fun j h1 h2 => by omega⟩
  | k + 1, i, n, h => by
    simp only [countFrom] at h ⊢
    split at h
    · rename_i c
      have c' := Lite.within_iff.1 c
      rw [if_pos c]
      obtain ⟨h1, h2⟩ := count_lt k (i + 1) _ h
      refine ⟨by omega, fun j h3 h4 => ?_⟩
      by_cases hj : j = i
      · subst hj
        unfold setAt at h2 ⊢
        omega
      · exact h2 j (by omega) (by omega)
    · cases h
theorem tot_eq {m : Nat} : ∀ k i, (∀ j, i ≤ j → j < i + k → 0 ≤ setAt sets j ∧ setAt sets j < m) → sumR (fun s => sumR (gainOf cs ls sets comps s) i k) 0 m = sumR (gainAt cs ls sets comps) i k
  | 0, i, _ => by simp only [sumR, sumR_zero]
  | k + 1, i, h => by
    obtain ⟨h1, h2⟩ := h i (Nat.le_refl _) (by omega)
    obtain ⟨x, hx⟩ : ∃ x : Nat, setAt sets i = x := ⟨(setAt sets i).toNat, by omega⟩
    have ih := tot_eq k (i + 1) (fun j a b => h j (by omega) (by omega))
    have e := sumR_add (f := fun s => if x = s then gainAt cs ls sets comps i else 0) (g := fun s => sumR (gainOf cs ls sets comps s) (i + 1) k) (h := fun s => sumR (gainOf cs ls sets comps s) i (k + 1)) m 0 (fun s _ _ => by
      simp only [sumR]
      congr 1
      unfold gainOf
      rw [hx]
      by_cases hxs : x = s
      · rw [if_pos hxs, if_pos (by rw [hxs])]
      · rw [if_neg hxs, if_neg (by omega)])
    rw [e, sumR_single m 0 (Nat.zero_le _) (by omega), ih]
    rfl
theorem poss_eq {n : Int} (ht : taskOk cs ls n = true) : possC cs ls sets comps n = possR cs ls sets comps n := by
  have hT : TaskP cs ls := ⟨n, ht⟩
  unfold possC possR refAll
  rw [ht, Bool.true_and]
  by_cases h1 : (comps.length : Int) ≤ n
  case neg => simp [h1]
  by_cases h2 : sets.length = ls.length
  case neg => simp [h2]
  rw [decide_eq_true h1, decide_eq_true h2, Bool.and_self, Bool.true_and, Bool.true_and, h2]
  rw [sums_eq cs ls sets comps _ _ _ (fun _ _ _ => trivial)]
  cases hc : allFrom (compAt cs comps) 0 comps.length with
  | false =>
    have hf : allFrom (fun j => compAt cs comps j && allFrom (lastOf cs ls sets comps j) 0 ls.length) 0 comps.length = false := by
      rw [allFrom_false] at hc ⊢
      obtain ⟨j, a, b, c⟩ := hc
      exact ⟨j, a, b, by rw [c, Bool.false_and]⟩
    rw [hf]
    simp
  | true =>
    rw [ref_eq hT hc _ _ _ _ _ (by omega) (by simp) (fun s hs => by
      simp only [wearAt, List.getD_eq_getElem?_getD, List.getElem?_replicate]; split <;> rfl)]
    rw [Bool.true_and]
    cases hk : (countFrom sets 0 ls.length 0).2 with
    | false => simp
    | true =>
      by_cases hm : (countFrom sets 0 ls.length 0).1 = comps.length
      · obtain ⟨-, hlt⟩ := count_lt _ _ _ hk
        rw [hm] at hlt
        have e1 : allFrom (fun j => compAt cs comps j && allFrom (lastOf cs ls sets comps j) 0 ls.length) 0 comps.length = allFrom (fun j => decide (setAt sets j < comps.length) && lastAt cs ls sets comps j) 0 ls.length := by
          rw [Bool.eq_iff_iff, allFrom_iff, allFrom_iff]
          refine ⟨fun hh j a b => ?_, fun hh j a b => ?_⟩
          · obtain ⟨x1, x2⟩ := hlt j a b
            obtain ⟨x, hx⟩ : ∃ x : Nat, setAt sets j = x := ⟨(setAt sets j).toNat, by omega⟩
            have := hh x (Nat.zero_le _) (by omega)
            rw [Bool.and_eq_true, allFrom_iff] at this
            have := this.2 j a b
            unfold lastOf at this
            rw [hx, decide_eq_true rfl, Bool.not_true, Bool.false_or] at this
            rw [this, decide_eq_true x2, Bool.and_self]
          · rw [Bool.and_eq_true, allFrom_iff]
            refine ⟨allFrom_iff.1 hc j a b, fun q a b => ?_⟩
            have := hh q a b
            rw [Bool.and_eq_true] at this
            unfold lastOf
            rw [this.2, Bool.or_true]
        rw [e1, hm, tot_eq _ _ hlt]
        simp only [decide_true, Bool.and_self, Bool.true_and, if_true]
        cases allFrom (fun j => decide (setAt sets j < comps.length) && lastAt cs ls sets comps j) 0 ls.length with
        | false => simp
        | true => simp
      · simp only [Bool.true_and]
        rw [decide_eq_false hm]
        simp only [Bool.false_eq_true, if_false]
        cases allFrom (fun j => decide (setAt sets j < comps.length) && lastAt cs ls sets comps j) 0 ls.length with
        | false => simp
        | true => simp [hm]
end
set_option maxRecDepth 100000 in
theorem ok41 (n : Nat) (hA : AllOK C n sp41) : FnOK C (n + 1) 41 (mkF s41 G41) := by
  refine fn_of hC (sp := sp41) (lp := lp41) hA (by kernel_rfl) [4, 11] (by kernel_rfl) (by kernel_rfl) (fun k hk L hL => by
    simp only [List.mem_cons, List.not_mem_nil, or_false] at hk
    rcases hk with rfl | rfl <;> cases hL
    · exact ok41_4 n hA
    · exact ok41_11 n hA) fun ds rr h => ?_
  unfold G41 at h
  split at h
  · rename_i cs ls m sets comps p
    obtain ⟨hp, h⟩ := need_some h
    rw [yes_iff] at hp
    have hT : TaskP cs.L ls.L := ⟨_, hp⟩
    obtain ⟨k1, k2, k3⟩ := task_of hT
    have hm : 1 ≤ m.I ∧ m.I ≤ 8 := by
      simp only [taskOk, Bool.and_eq_true, Lite.within_iff] at hp
      exact hp.1.1.2
    refine (congrArg T.run (t41 cs ls m sets comps p)).trans ?_
    rw [← h]
    have e0 : (mkI (List.replicate comps.L.length 0)).length = comps.L.length := by rw [len_mkI, List.length_replicate]
    simp only [Int.toNat_natCast, Int.toNat_zero, Nat.sub_zero, zero_mkI, e0, ints_mkI]
    unfold possR refAll
    refine go_if (fun c1 => ?_) fun c1 => go_ite (fun c2 => ?_) fun c2 => ?_
    · have : ¬ (comps.L.length : Int) ≤ m.I := by omega
      simp [this]
    · have : ¬ sets.L.length = ls.L.length := fun hh => ne_of_bne c2 (by rw [hh])
      simp [this]
    · have e1 : (comps.L.length : Int) ≤ m.I := by omega
      have e2 : sets.L.length = ls.L.length := by have := eq_of_bne c2; omega
      refine go_yes ⟨by omega, by omega, by omega, by omega⟩ (go_ite (fun c3 => go_dec ⟨by omega, by trivial, by omega, by rw [bytes3]; omega⟩ (go_yes ⟨hT, e2, by omega, c3, by trivial, by omega, by omega, by omega, by omega, by omega, by omega, by trivial, by simp, fun j hj => by
        simp only [List.getD_eq_getElem?_getD, List.getElem?_replicate, if_pos hj, Option.getD_some]; omega⟩ (go_ite (fun c4 => go_ite (fun c5 => ?_) fun c5 => ?_) fun c4 => ?_))) fun c3 => by simp [c3])
      · have := ne_of_bne c5
        simp [this]
      · have := eq_of_bne c5
        simp [c3, c4, e1, e2, this]
      · simp [c4]
  · cases h
end Go.Proofs.Ytlofnkkokcihnaa
