/-
  The functions of plans of tyres compute what their words say, continued.
-/
import Derived.Test.YtlofnkkokcihnaaCarPQ
namespace Go.Proofs.Ytlofnkkokcihnaa
open Go.Lite

theorem ne_of_bne {x y : Int} (h : (x != y) = true) : x ≠ y := by simpa using h
theorem eq_of_bne {x y : Int} (h : (x != y) = false) : x = y := by simpa using h
/-! ### A set's loops -/
/-- What a compound and a loop must be. -/
def DrvP (c : List D) (l : List (List D)) : Prop := drivePre (lx c 0) (lx c 1) (lx c 2) (ix c 3) l
theorem drv_rng {c : List D} {l : List (List D)} (h : DrvP c l) {w : Int} (h0 : 0 ≤ w) (h1 : w ≤ 1000000) : (0 ≤ (drv c l w).1 ∧ (drv c l w).1 ≤ 1000000) ∧ (0 ≤ (drv c l w).2.1 ∧ (drv c l w).2.1 ≤ 3000000) := by
  have hf := fun c hc => (fine_of h c hc).1
  have hb := fun c hc => (fine_of h c hc).2
  have h2 := driveL_range l w 0 true hf h0 h1
  have h3 := driveL_bound l w 0 true hf hb h0 h1
  have h4 := (stretch_of h.2).1
  unfold drv
  rw [drive_L]
  refine ⟨h2, by omega, by omega⟩
theorem used_eta (c : List D) (ls sets : List (List D)) (set : Int) : ∀ k i w s, usedFrom [.l (lx c 0), .l (lx c 1), .l (lx c 2), .i (ix c 3)] ls sets set i k w s = usedFrom c ls sets set i k w s
  | 0, _, _, _ => rfl
  | k + 1, i, w, s => by
    have e : ∀ l w, drv [.l (lx c 0), .l (lx c 1), .l (lx c 2), .i (ix c 3)] l w = drv c l w := fun _ _ => rfl
    simp only [usedFrom, e, used_eta c ls sets set k]
theorem used_fst {c : List D} {ls sets : List (List D)} {set : Int} : ∀ k i w s, (usedFrom c ls sets set i k w s).2 = false → (usedFrom c ls sets set i k w s).1 = 0
  | 0, _, _, _ => fun h => by cases h
  | k + 1, i, w, s => by
    simp only [usedFrom]
    split
    · split
      · exact used_fst k _ _ _
      · exact fun _ => rfl
    · exact used_fst k _ _ _
theorem used_rng {c : List D} {ls sets : List (List D)} {set : Int} (hl : ∀ j, j < ls.length → DrvP c (rowAt ls j)) : ∀ k i w s, i + k ≤ ls.length → 0 ≤ w → w ≤ 1000000 → 0 ≤ s → 0 ≤ (usedFrom c ls sets set i k w s).1 ∧ (usedFrom c ls sets set i k w s).1 ≤ s + 3000000 * k
  | 0, i, w, s, _, _, _, hs => by simp only [usedFrom]; omega
  | k + 1, i, w, s, h, h0, h1, hs => by
    have h2 := drv_rng (hl i (by omega)) h0 h1
    simp only [usedFrom]
    split
    · split
      · have := used_rng (sets := sets) (set := set) hl k (i + 1) (drv c (rowAt ls i) w).1 (s + (drv c (rowAt ls i) w).2.1) (by omega) h2.1.1 h2.1.2 (by omega)
        omega
      · show 0 ≤ (0 : Int) ∧ (0 : Int) ≤ _
        omega
    · have := used_rng (sets := sets) (set := set) hl k (i + 1) w s (by omega) h0 h1 hs
      omega
theorem ok54_3 (n : Nat) : LoopSim C (n + 4) 54 (loopOf C.P 54 3) (mkL l54_3 G54_3) := by
  refine loop_of hC (sp := sp54) (lp := lp54) ⟨ok70 n, trivial⟩ [] (by kernel_rfl) rfl (fun k hk => by cases hk) (by kernel_rfl) (fun ds => ((ds.getD 5 default).I - (ds.getD 6 default).I).toNat) fun ds rr h => ?_
  unfold G54_3 at h
  split at h
  · rename_i sets set sum wear ls m i a b c d
    obtain ⟨hp, h⟩ := need_some h
    rw [yes_iff] at hp
    obtain ⟨h1, h2, h3, h4, h5, h6, h7, h8, h9, h10, h11⟩ := hp
    refine ⟨by rw [fuelC]; simp; omega, ?_⟩
    rw [show roundT C (mkTab sp54 lp54) 54 (loopOf C.P 54 3) l54_3 [sets, set, sum, wear, ls, m, i, a, b, c, d] = _ from t54_3 sets set sum wear ls m i a b c d]
    obtain ⟨k, hk⟩ : ∃ k : Nat, i.I = k := ⟨i.I.toNat, by omega⟩
    have hD : ∀ j, j < ls.L.length → DrvP [.l a.L, .l b.L, .l c.L, .i d.I] (rowAt ls.L j) := fun j hj => ⟨h1, allFrom_iff.1 h4 j (Nat.zero_le _) (by omega)⟩
    simp only [hk, h5, Int.toNat_natCast, ix_def] at h h7 h11 ⊢
    refine rd_if (fun hlt => ?_) fun hge => ?_
    · have hkl : k < ls.L.length := by omega
      rw [show ls.L.length - k = (ls.L.length - (k + 1)) + 1 by omega] at h
      simp only [usedFrom] at h
      have hdr := drv_rng (hD k hkl) h8 h9
      rw [wrap_succ (by omega)]
      have hμ : ((ls.L.length : Int) - ((k + 1 : Nat) : Int)).toNat < (m.I - i.I).toNat := by omega
      refine rd_dec ⟨by omega, by omega⟩ (rd_dec ⟨by omega, by omega⟩ (rd_ite (fun e => ?_) fun e => ?_))
      · have e' : ¬ ix (sets.L.getD k []) 0 = set.I := by simpa using e
        rw [if_neg e'] at h
        refine rd_again ((need_yes ⟨h1, h2, h3, h4, rfl, by simp only [I_i]; omega, by simp only [I_i]; omega, h8, h9, h10, by simp only [I_i]; omega⟩).trans h) hμ
      · have e' : ix (sets.L.getD k []) 0 = set.I := by simpa using e
        rw [if_pos e'] at h
        refine rd_yes ⟨hD k hkl, h8, h9⟩ (rd_not (fun q => ?_) fun q => ?_)
        · have q' : (drv [.l a.L, .l b.L, .l c.L, .i d.I] (rowAt ls.L k) wear.I).2.2 = false := q
          rw [q'] at h
          exact rd_out h
        · have q' : (drv [.l a.L, .l b.L, .l c.L, .i d.I] (rowAt ls.L k) wear.I).2.2 = true := q
          rw [q'] at h
          have e2 : (drive a.L b.L c.L d.I ((ls.L.getD k []).getD 0 default).L wear.I) = drv [.l a.L, .l b.L, .l c.L, .i d.I] (rowAt ls.L k) wear.I := rfl
          rw [e2]
          have w1 : IntKind.i64.wrap (sum.I + (drv [.l a.L, .l b.L, .l c.L, .i d.I] (rowAt ls.L k) wear.I).2.1) = sum.I + (drv [.l a.L, .l b.L, .l c.L, .i d.I] (rowAt ls.L k) wear.I).2.1 := wrap_id (by omega) (by omega)
          rw [w1]
          refine rd_again ((need_yes ⟨h1, h2, h3, h4, rfl, by simp only [I_i]; omega, by simp only [I_i]; omega, by simp only [I_i]; omega, by simp only [I_i]; omega, by simp only [I_i]; omega, by simp only [I_i]; omega⟩).trans h) hμ
    · rw [show ls.L.length - k = 0 by omega] at h
      exact rd_out h
  · cases h
theorem ok54 (n : Nat) : FnOK C (n + 5) 54 (mkF s54 G54) := by
  refine fn_of hC (sp := sp54) (lp := lp54) ⟨ok70 n, trivial⟩ (by kernel_rfl) [3] (by kernel_rfl) (by kernel_rfl) (fun k hk L hL => by simp at hk; subst hk; cases hL; exact ok54_3 n) fun ds rr h => ?_
  unfold G54 at h
  split at h
  · rename_i a b c d ls sets set
    obtain ⟨hp, h⟩ := need_some h
    rw [yes_iff] at hp
    obtain ⟨h1, h2, h3, h4⟩ := hp
    refine (congrArg T.run (t54 a b c d ls sets set)).trans ?_
    rw [← h]
    simp only [Int.toNat_zero, Nat.sub_zero]
    refine go_yes ⟨h1, h2, h3, h4, by trivial, by omega, by omega, by omega, by omega, by omega, by omega⟩ (go_ite (fun c1 => ?_) fun c1 => ?_)
    · have c2 : (usedAll [.l a.L, .l b.L, .l c.L, .i d.I] ls.L sets.L set.I).2 = true := c1
      rw [c2]; rfl
    · have c2 : (usedAll [.l a.L, .l b.L, .l c.L, .i d.I] ls.L sets.L set.I).2 = false := c1
      have c3 : (usedAll [.l a.L, .l b.L, .l c.L, .i d.I] ls.L sets.L set.I).1 = 0 := used_fst _ _ _ _ c1
      rw [c2, c3]
  · cases h
theorem ok22_4 (n : Nat) : LoopSim C (n + 3) 22 (loopOf C.P 22 4) (mkL l22_4 G22_4) := by
  refine loop_of hC (sp := sp22) (lp := lp22) ⟨ok50 (n + 2), ok18 n, ok37 (n + 1), trivial⟩ [] (by kernel_rfl) rfl (fun k hk => by cases hk) (by kernel_rfl) (fun ds => (((ds.getD 0 default).L.length : Int) - (ds.getD 2 default).I).toNat) fun ds rr h => ?_
  unfold G22_4 at h
  split at h
  · rename_i cs ls i
    obtain ⟨hp, h⟩ := need_some h
    rw [yes_iff] at hp
    obtain ⟨h1, h2, h3, h4⟩ := hp
    have hb : big = 4611686018427387904 := rfl
    have hbb := h1.1
    refine ⟨by rw [fuelC]; simp; omega, ?_⟩
    rw [show roundT C (mkTab sp22 lp22) 22 (loopOf C.P 22 4) l22_4 [cs, ls, i] = _ from t22_4 cs ls i]
    obtain ⟨k, hk⟩ : ∃ k : Nat, i.I = k := ⟨i.I.toNat, by omega⟩
    simp only [hk, Int.toNat_natCast, Int.toNat_zero] at h h4 ⊢
    refine rd_if (fun hlt => ?_) fun hge => rd_out (all_end h (by omega))
    have hkl : k < cs.L.length := by omega
    obtain ⟨s1, s2⟩ := all_step h hkl
    obtain ⟨q1, q2, q3⟩ := h1.2 k hkl
    refine rd_dec ⟨by omega, by omega⟩ (rd_yes ⟨q1.1, q2.1, q3⟩ (rd_not (fun c => rd_out (s1 ?_)) fun c => rd_dec ⟨by omega, by omega⟩ (rd_dec ⟨by omega, by omega⟩ (rd_ite (fun c2 => rd_out (s1 ?_)) fun c2 => ?_))))
    · have c' : compC (cs.L.getD k []) = false := c
      unfold kindAt; rw [c', Bool.false_and]
    · have c2' : ¬ (((lx (cs.L.getD k []) 0).length : Int) = surfs cs.L) := ne_of_bne c2
      unfold kindAt; rw [decide_eq_false c2', Bool.and_false]
    · have c' : compC (cs.L.getD k []) = true := c
      have c2' : ((lx (cs.L.getD k []) 0).length : Int) = surfs cs.L := eq_of_bne c2
      rw [wrap_succ (by omega)]
      exact rd_again ((need_yes ⟨h1, h2, by simp only [I_i]; omega, by simp only [I_i, L_l]; omega⟩).trans (s2 (by unfold kindAt; rw [c', decide_eq_true c2', Bool.and_true]))) (show ((cs.L.length : Int) - ((k + 1 : Nat) : Int)).toNat < ((cs.L.length : Int) - i.I).toNat by omega)
  · cases h
theorem ok22_9 (n : Nat) : LoopSim C (n + 3) 22 (loopOf C.P 22 9) (mkL l22_9 G22_9) := by
  refine loop_of hC (sp := sp22) (lp := lp22) ⟨ok50 (n + 2), ok18 n, ok37 (n + 1), trivial⟩ [] (by kernel_rfl) rfl (fun k hk => by cases hk) (by kernel_rfl) (fun ds => (((ds.getD 1 default).L.length : Int) - (ds.getD 2 default).I).toNat) fun ds rr h => ?_
  unfold G22_9 at h
  split at h
  · rename_i cs ls i
    obtain ⟨hp, h⟩ := need_some h
    rw [yes_iff] at hp
    obtain ⟨h1, h2, h3, h4, h5, h6⟩ := hp
    refine ⟨by rw [fuelC]; simp; omega, ?_⟩
    rw [show roundT C (mkTab sp22 lp22) 22 (loopOf C.P 22 9) l22_9 [cs, ls, i] = _ from t22_9 cs ls i]
    obtain ⟨k, hk⟩ : ∃ k : Nat, i.I = k := ⟨i.I.toNat, by omega⟩
    simp only [hk, Int.toNat_natCast, Int.toNat_zero] at h h6 ⊢
    refine rd_if (fun hlt => ?_) fun hge => rd_out (all_end h (by omega))
    have hkl : k < ls.L.length := by omega
    obtain ⟨s1, s2⟩ := all_step h hkl
    refine rd_dec ⟨by omega, by omega⟩ (rd_dec ⟨by omega, by omega⟩ (rd_yes ⟨h2, h4 k hkl⟩ (rd_not (fun c => rd_out (s1 c)) fun c => ?_)))
    rw [wrap_succ (by omega)]
    exact rd_again ((need_yes ⟨h1, h2, h3, h4, by simp only [I_i]; omega, by simp only [I_i, L_l]; omega⟩).trans (s2 c)) (show ((ls.L.length : Int) - ((k + 1 : Nat) : Int)).toNat < ((ls.L.length : Int) - i.I).toNat by omega)
  · cases h
theorem ok22 (n : Nat) : FnOK C (n + 4) 22 (mkF s22 G22) := by
  refine fn_of hC (sp := sp22) (lp := lp22) ⟨ok50 (n + 2), ok18 n, ok37 (n + 1), trivial⟩ (by kernel_rfl) [4, 9] (by kernel_rfl) (by kernel_rfl) (fun k hk L hL => by
    simp only [List.mem_cons, List.not_mem_nil, or_false] at hk
    rcases hk with rfl | rfl <;> cases hL
    · exact ok22_4 n
    · exact ok22_9 n) fun ds rr h => ?_
  unfold G22 at h
  split at h
  · rename_i cs ls m
    obtain ⟨hp, h⟩ := need_some h
    rw [yes_iff] at hp
    refine (congrArg T.run (t22 cs ls m)).trans ?_
    rw [← h]
    simp only [Int.toNat_zero, Nat.sub_zero]
    unfold taskOk
    refine go_if (fun c => ?_) fun c => go_if (fun c1 => ?_) fun c1 => go_if (fun c2 => ?_) fun c2 => go_not (fun c3 => by simp [c3]) fun c3 => ?_
    · have : within (cs.L.length : Int) 1 8 = false := Bool.eq_false_iff.2 fun hh => by have := Lite.within_iff.1 hh; omega
      simp [this]
    · have : within (cs.L.length : Int) 1 8 = false := Bool.eq_false_iff.2 fun hh => by have := Lite.within_iff.1 hh; omega
      simp [this]
    · have : ¬ ls.L.length ≤ 8 := by omega
      simp [this]
    · have e0 : within (cs.L.length : Int) 1 8 = true := Lite.within_iff.2 ⟨by omega, by omega⟩
      have e2 : ls.L.length ≤ 8 := by omega
      refine go_yes ⟨hp.1, by omega, by omega, by omega⟩ (go_ite (fun c4 => go_yes ⟨by omega, surfs_few (by omega) c4, e2, hp.2, by omega, by omega⟩ (go_ite (fun c5 => ?_) fun c5 => ?_)) fun c4 => by simp [c4])
      · simp [e0, e2, c3, c4, c5]
      · simp [c5]
  · cases h

/-! ### The program's plans -/
theorem count_fst {sets : List (List D)} : ∀ k i n, (countFrom sets i k n).2 = false → (countFrom sets i k n).1 = 0
  | 0, _, _ => fun h => by cases h
  | k + 1, i, n => by
    simp only [countFrom]
    split
    · exact count_fst k _ _
    · exact fun _ => rfl
theorem ok40_5 (n : Nat) (hA : AllOK C n sp40) : LoopSim C n 40 (loopOf C.P 40 5) (mkL l40_5 G40_5) := by
  refine loop_of hC (sp := sp40) (lp := lp40) hA [] (by kernel_rfl) rfl (fun k hk => by cases hk) (by kernel_rfl) (fun ds => ((ds.getD 4 default).I - (ds.getD 5 default).I).toNat) fun ds rr h => ?_
  unfold G40_5 at h
  split at h
  · rename_i cs ls v sets' m i sets comps p
    obtain ⟨hp, h⟩ := need_some h
    rw [yes_iff] at hp
    obtain ⟨h1, h2, h3, h4, h5, h6, h7⟩ := hp
    refine ⟨by rw [fuelC]; simp; omega, ?_⟩
    rw [show roundT C (mkTab sp40 lp40) 40 (loopOf C.P 40 5) l40_5 [cs, ls, v, sets', m, i, sets, comps, p] = _ from t40_5 cs ls v sets' m i sets comps p]
    obtain ⟨k, hk⟩ : ∃ k : Nat, i.I = k := ⟨i.I.toNat, by omega⟩
    simp only [hk, h2, h3, Int.toNat_natCast, ix_def] at h h5 h7 ⊢
    refine rd_if (fun hlt => ?_) fun hge => ?_
    · have hkl : k < sets.L.length := by omega
      rw [show sets.L.length - k = (sets.L.length - (k + 1)) + 1 by omega] at h
      simp only [countFrom] at h
      refine rd_dec ⟨by omega, by omega⟩ (rd_not (fun c => ?_) fun c => ?_)
      · simp only [c, Bool.false_eq_true, if_false] at h
        exact rd_out h
      · simp only [c, if_true] at h
        have c' := Lite.within_iff.1 c
        have w1 : IntKind.i64.wrap (ix (sets.L.getD k []) 0 + 1) = ix (sets.L.getD k []) 0 + 1 := wrap_id (by omega) (by omega)
        rw [w1, max_if, wrap_succ (by omega)]
        refine rd_again ((need_yes ⟨h1, rfl, rfl, by simp only [I_i]; omega, by simp only [I_i]; omega, by simp only [I_i]; omega, by simp only [I_i]; omega⟩).trans h) (show ((sets.L.length : Int) - ((k + 1 : Nat) : Int)).toNat < (m.I - i.I).toNat by omega)
    · rw [show sets.L.length - k = 0 by omega] at h
      exact rd_out h
  · cases h
theorem task_of {cs ls : List (List D)} (h : TaskP cs ls) : (1 ≤ cs.length ∧ cs.length ≤ 8) ∧ ls.length ≤ 8 ∧ ∀ j, j < cs.length → compC (cs.getD j []) = true ∧ allFrom (loopAt ((lx (cs.getD j []) 0).length : Int) ls) 0 ls.length = true ∧ ∀ i, i < ls.length → DrvP (cs.getD j []) (rowAt ls i) := by
  obtain ⟨n, h⟩ := h
  simp only [taskOk, Bool.and_eq_true, decide_eq_true_eq, Lite.within_iff] at h
  obtain ⟨⟨⟨⟨h1, h2⟩, h3⟩, h4⟩, h5⟩ := h
  refine ⟨by omega, h2, fun j hj => ?_⟩
  have := allFrom_iff.1 h4 j (Nat.zero_le _) (by omega)
  simp only [kindAt, Bool.and_eq_true, decide_eq_true_eq] at this
  refine ⟨this.1, by rw [this.2]; exact h5, fun i hi => ⟨this.1, ?_⟩⟩
  have h6 := allFrom_iff.1 h5 i (Nat.zero_le _) (by omega)
  unfold loopAt at h6
  rw [this.2]
  exact h6
theorem sums_fst {cs ls sets comps : List (List D)} : ∀ k i s, (sumsFrom cs ls sets comps i k s).2 = false → (sumsFrom cs ls sets comps i k s).1 = 0
  | 0, _, _ => fun h => by cases h
  | k + 1, i, s => by
    simp only [sumsFrom]
    split
    · split
      · exact sums_fst k _ _
      · exact fun _ => rfl
    · exact fun _ => rfl
theorem ok40_15 (n : Nat) (hA : AllOK C n sp40) : LoopSim C n 40 (loopOf C.P 40 15) (mkL l40_15 G40_15) := by
  refine loop_of hC (sp := sp40) (lp := lp40) hA [] (by kernel_rfl) rfl (fun k hk => by cases hk) (by kernel_rfl) (fun ds => ((ds.getD 4 default).I - (ds.getD 5 default).I).toNat) fun ds rr h => ?_
  unfold G40_15 at h
  split at h
  · rename_i cs ls s comps' m i sets comps p
    obtain ⟨hp, h⟩ := need_some h
    rw [yes_iff] at hp
    obtain ⟨h1, h2, h3, h4, h5, h6, h7, h8, h9⟩ := hp
    obtain ⟨k1, k2, k3⟩ := task_of h1
    refine ⟨by rw [fuelC]; simp; omega, ?_⟩
    rw [show roundT C (mkTab sp40 lp40) 40 (loopOf C.P 40 15) l40_15 [cs, ls, s, comps', m, i, sets, comps, p] = _ from t40_15 cs ls s comps' m i sets comps p]
    obtain ⟨k, hk⟩ : ∃ k : Nat, i.I = k := ⟨i.I.toNat, by omega⟩
    have w0 : IntKind.i64.wrap ((cs.L.length : Int) - 1) = (cs.L.length : Int) - 1 := wrap_id (by omega) (by omega)
    simp only [hk, h3, h4, Int.toNat_natCast, ix_def, lx_def, w0, Nat.zero_add, Nat.reduceAdd] at h h7 h9 ⊢
    refine rd_if (fun hlt => ?_) fun hge => ?_
    · have hkl : k < comps.L.length := by omega
      rw [show comps.L.length - k = (comps.L.length - (k + 1)) + 1 by omega] at h
      simp only [sumsFrom] at h
      refine rd_dec ⟨by omega, by omega⟩ (rd_not (fun c => ?_) fun c => ?_)
      · simp only [c, Bool.false_eq_true, if_false] at h
        exact rd_out h
      · simp only [c, if_true] at h
        have c' := Lite.within_iff.1 c
        obtain ⟨q1, q2, q3⟩ := k3 (ix (comps.L.getD k []) 0).toNat (by omega)
        have eu : ∀ c, usedAll [.l (lx c 0), .l (lx c 1), .l (lx c 2), .i (ix c 3)] ls.L sets.L k = usedAll c ls.L sets.L k := fun c => used_eta _ _ _ _ _ _ _ _
        have hr := used_rng (set := k) (sets := sets.L) q3 ls.L.length 0 0 0 (by omega) (by omega) (by omega) (by omega)
        have hr' : 0 ≤ (usedAll (cs.L.getD (ix (comps.L.getD k []) 0).toNat []) ls.L sets.L k).1 ∧ (usedAll (cs.L.getD (ix (comps.L.getD k []) 0).toNat []) ls.L sets.L k).1 ≤ 0 + 3000000 * (ls.L.length : Nat) := hr
        rw [eu]
        refine rd_dec ⟨by omega, by omega⟩ (rd_yes ⟨q1, k2, h2, q2⟩ (rd_not (fun c2 => ?_) fun c2 => ?_))
        · simp only [c2, Bool.false_eq_true, if_false] at h
          exact rd_out h
        · simp only [c2, if_true] at h
          have w1 : IntKind.i64.wrap (s.I + (usedAll (cs.L.getD (ix (comps.L.getD k []) 0).toNat []) ls.L sets.L k).1) = s.I + (usedAll (cs.L.getD (ix (comps.L.getD k []) 0).toNat []) ls.L sets.L k).1 := wrap_id (by omega) (by omega)
          rw [w1, wrap_succ (by omega)]
          refine rd_again ((need_yes ⟨h1, h2, rfl, rfl, h5, by simp only [I_i]; omega, by simp only [I_i]; omega, by simp only [I_i]; omega, by simp only [I_i]; omega⟩).trans h) (show ((comps.L.length : Int) - ((k + 1 : Nat) : Int)).toNat < (m.I - i.I).toNat by omega)
    · rw [show comps.L.length - k = 0 by omega] at h
      exact rd_out h
  · cases h
theorem ok40 (n : Nat) (hA : AllOK C n sp40) : FnOK C (n + 1) 40 (mkF s40 G40) := by
  refine fn_of hC (sp := sp40) (lp := lp40) hA (by kernel_rfl) [5, 15] (by kernel_rfl) (by kernel_rfl) (fun k hk L hL => by
    simp only [List.mem_cons, List.not_mem_nil, or_false] at hk
    rcases hk with rfl | rfl <;> cases hL
    · exact ok40_5 n hA
    · exact ok40_15 n hA) fun ds rr h => ?_
  unfold G40 at h
  split at h
  · rename_i cs ls m sets comps p
    obtain ⟨hp, h⟩ := need_some h
    rw [yes_iff] at hp
    refine (congrArg T.run (t40 cs ls m sets comps p)).trans ?_
    rw [← h]
    simp only [Int.toNat_zero, Nat.sub_zero]
    unfold possC
    refine go_yes hp (go_not (fun c => by simp [c]) fun c => ?_)
    have ht : TaskP cs.L ls.L := ⟨_, c⟩
    obtain ⟨k1, k2, k3⟩ := task_of ht
    have hm : 1 ≤ m.I ∧ m.I ≤ 8 := by
      simp only [taskOk, Bool.and_eq_true, Lite.within_iff] at c
      exact c.1.1.2
    refine go_if (fun c1 => ?_) fun c1 => go_ite (fun c2 => ?_) fun c2 => ?_
    · have : ¬ (comps.L.length : Int) ≤ m.I := by omega
      simp [this]
    · have : ¬ sets.L.length = ls.L.length := fun hh => ne_of_bne c2 (by rw [hh])
      simp [this]
    · have e1 : (comps.L.length : Int) ≤ m.I := by omega
      have e2 : sets.L.length = ls.L.length := by have := eq_of_bne c2; omega
      refine go_yes ⟨by omega, by trivial, by trivial, by omega, by omega, by omega, by omega⟩ (go_ite (fun c3 => go_ite (fun c4 => ?_) fun c4 => go_yes ⟨ht, e2, by trivial, by trivial, by omega, by omega, by omega, by omega, by omega⟩ ?_) fun c3 => ?_)
      · have : ¬ (countFrom sets.L 0 sets.L.length 0).1 = comps.L.length := ne_of_bne c4
        simp [this]
      · have e4 : (countFrom sets.L 0 sets.L.length 0).1 = comps.L.length := eq_of_bne c4
        simp only [c, e1, e2, decide_true, Bool.and_self, Bool.true_and]
        rw [← e2, c3, e4]
        simp only [decide_true, Bool.and_self, if_true]
        refine go_ite (fun c5 => by rw [c5]) fun c5 => by rw [c5, sums_fst _ _ _ c5]
      · simp [c3]
  · cases h
end Go.Proofs.Ytlofnkkokcihnaa
