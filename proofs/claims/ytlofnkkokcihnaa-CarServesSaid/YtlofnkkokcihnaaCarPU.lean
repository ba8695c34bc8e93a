/-
  The document's way of plans of tyres, and that it is the program's.
-/
import Derived.Test.YtlofnkkokcihnaaCarPR
namespace Go.Proofs.Ytlofnkkokcihnaa
open Go.Lite

/-! ### What a loop takes, and whether a tyre lasts -/
def wearOf (wl l : List (List D)) (i : Nat) : Int := ix (l.getD i []) 1 * ix (wl.getD (ix (l.getD i []) 0).toNat []) 0
theorem useFrom_rng {wl l : List (List D)} : ∀ (k i : Nat), (∀ j, i ≤ j → j < i + k → 0 ≤ wearOf wl l j ∧ wearOf wl l j ≤ 100000000) → 0 ≤ useFrom wl l i k ∧ useFrom wl l i k ≤ 100000000 * k
  | 0, i, _ => by simp [useFrom]
  | k + 1, i, h => by
    have h1 := h i (Nat.le_refl _) (by omega)
    have h2 := useFrom_rng k (i + 1) (fun j h3 h4 => h j (by omega) (by omega))
    simp only [useFrom]
    unfold wearOf at h1
    omega
theorem lastsFrom {dry wet wl : List (List D)} {loss : Int} {l : List (List D)} : ∀ (k i : Nat) (w s : Int) (b : Bool), (∀ j, i ≤ j → j < i + k → 0 ≤ wearOf wl l j ∧ wearOf wl l j ≤ 100000000) → w ≤ 1000000 →
    (driveFrom dry wet wl loss l i k w s b).2.2 = (b && decide (w + useFrom wl l i k ≤ 1000000))
  | 0, i, w, s, b, _, hw => by simp [driveFrom, useFrom, hw]
  | k + 1, i, w, s, b, h, hw => by
    have h1 := h i (Nat.le_refl _) (by omega)
    have h2 := useFrom_rng k (i + 1) (fun j h3 h4 => h j (by omega) (by omega))
    simp only [driveFrom, useFrom]
    rw [lastsFrom k (i + 1) _ _ _ (fun j h3 h4 => h j (by omega) (by omega)) (by split <;> omega)]
    have e : stepWear wl w (l.getD i []) = w + wearOf wl l i := rfl
    rw [e]
    have e2 : w + (ix (l.getD i []) 1 * ix (wl.getD (ix (l.getD i []) 0).toNat []) 0 + useFrom wl l (i + 1) k) = w + wearOf wl l i + useFrom wl l (i + 1) k := by rw [← Int.add_assoc]; rfl
    simp only [e2]
    by_cases hc : w + wearOf wl l i > 1000000
    · have : ¬ w + wearOf wl l i + useFrom wl l (i + 1) k ≤ 1000000 := by omega
      simp [hc, this]
    · simp only [hc, if_false]
theorem drv_use {c : List D} {l : List (List D)} (h : DrvP c l) {w : Int} (h1 : w ≤ 1000000) : (0 ≤ useFrom (lx c 2) l 0 l.length ∧ useFrom (lx c 2) l 0 l.length ≤ 3000000000) ∧ (drv c l w).2.2 = decide (w + useFrom (lx c 2) l 0 l.length ≤ 1000000) := by
  have hinc : ∀ j, 0 ≤ j → j < 0 + l.length → 0 ≤ wearOf (lx c 2) l j ∧ wearOf (lx c 2) l j ≤ 100000000 := fun j _ hj => (step_of h (w := 0) ⟨by omega, by omega⟩ (by omega : j < l.length)).2.2.2.2.2.2.2.2
  have hu := useFrom_rng l.length 0 hinc
  have hl := (stretch_of h.2).1
  refine ⟨by omega, ?_⟩
  unfold drv drive
  rw [lastsFrom _ _ _ _ _ hinc h1, Bool.true_and]

theorem ok41_4 (n : Nat) (hA : AllOK C n sp41) : LoopSim C n 41 (loopOf C.P 41 4) (mkL l41_4 G41_4) := by
  refine loop_of hC (sp := sp41) (lp := lp41) hA [] (by kernel_rfl) rfl (fun k hk => by cases hk) (by kernel_rfl) (fun ds => (((ds.getD 4 default).L.length : Int) - (ds.getD 2 default).I).toNat) fun ds rr h => ?_
  unfold G41_4 at h
  split at h
  · rename_i cs ls i sets comps p
    obtain ⟨hp, h⟩ := need_some h
    rw [yes_iff] at hp
    obtain ⟨h1, h2, h3, h4⟩ := hp
    refine ⟨by rw [fuelC]; simp; omega, ?_⟩
    rw [show roundT C (mkTab sp41 lp41) 41 (loopOf C.P 41 4) l41_4 [cs, ls, i, sets, comps, p] = _ from t41_4 cs ls i sets comps p]
    obtain ⟨k, hk⟩ : ∃ k : Nat, i.I = k := ⟨i.I.toNat, by omega⟩
    have w0 : IntKind.i64.wrap ((cs.L.length : Int) - 1) = (cs.L.length : Int) - 1 := wrap_id (by omega) (by omega)
    simp only [hk, w0, Int.toNat_natCast] at h h4 ⊢
    refine rd_if (fun hlt => ?_) fun hge => rd_out (all_end h (by omega))
    have hkl : k < comps.L.length := by omega
    obtain ⟨s1, s2⟩ := all_step h hkl
    refine rd_dec ⟨by omega, by omega⟩ (rd_not (fun c => rd_out (s1 c)) fun c => ?_)
    rw [wrap_succ (by omega)]
    exact rd_again ((need_yes ⟨h1, h2, by simp only [I_i]; omega, by simp only [I_i, L_l]; omega⟩).trans (s2 c)) (show ((comps.L.length : Int) - ((k + 1 : Nat) : Int)).toNat < ((comps.L.length : Int) - i.I).toNat by omega)
  · cases h
theorem ok41_11 (n : Nat) (hA : AllOK C n sp41) : LoopSim C n 41 (loopOf C.P 41 11) (mkL l41_11 G41_11) := by
  refine loop_of hC (sp := sp41) (lp := lp41) hA [] (by kernel_rfl) rfl (fun k hk => by cases hk) (by kernel_rfl) (fun ds => (((ds.getD 1 default).L.length : Int) - (ds.getD 5 default).I).toNat) fun ds rr h => ?_
  unfold G41_11 at h
  split at h
  · rename_i cs ls used loss m i sets comps p row
    obtain ⟨hp, h⟩ := need_some h
    rw [yes_iff] at hp
    obtain ⟨h1, h2, h3, h4, h5, h6, h7, h8, h9, h10, h11, h12, h13, h14⟩ := hp
    obtain ⟨k1, k2, k3⟩ := task_of h1
    refine ⟨by rw [fuelC]; simp; omega, ?_⟩
    rw [show roundT C (mkTab sp41 lp41) 41 (loopOf C.P 41 11) l41_11 [cs, ls, used, loss, m, i, sets, comps, p, row] = _ from t41_11 cs ls used loss m i sets comps p row]
    obtain ⟨k, hk⟩ : ∃ k : Nat, i.I = k := ⟨i.I.toNat, by omega⟩
    generalize hW : ints row.L = W at *
    rw [h12]
    have hlen : (mkI W).length = comps.L.length := by rw [len_mkI, h13]
    simp only [hk, h5, Int.toNat_natCast, ix_def, lx_def, ix_mkI, upd1, set_mkI, Nat.zero_add, Nat.reduceAdd] at h h7 h9 h11 ⊢
    refine rd_if (fun hlt => ?_) fun hge => ?_
    · have hkl : k < ls.L.length := by omega
      rw [show ls.L.length - k = (ls.L.length - (k + 1)) + 1 by omega] at h
      simp only [refFrom] at h
      refine rd_dec ⟨by omega, by omega⟩ ?_
      generalize hs : ix (sets.L.getD k []) 0 = s at *
      refine rd_if (fun c1 => ?_) fun c1 => rd_if (fun c2 => ?_) fun c2 => rd_if (fun c3 => ?_) fun c3 => ?_
      · rw [if_neg (by omega)] at h; exact rd_out h
      · rw [if_neg (by omega)] at h; exact rd_out h
      · rw [if_neg (by omega)] at h; exact rd_out h
      · obtain ⟨x, hx⟩ : ∃ x : Nat, s = x := ⟨s.toNat, by omega⟩
        subst hx
        have hxl : x < comps.L.length := by omega
        have hc := allFrom_iff.1 h4 x (Nat.zero_le _) (by omega)
        unfold compAt at hc
        rw [Lite.within_iff] at hc
        have hD := (k3 (ix (comps.L.getD x []) 0).toNat (by omega)).2.2 k hkl
        have hWx := h14 x hxl
        have hdr := drv_rng hD hWx.1 hWx.2
        obtain ⟨hu1, hu2⟩ := drv_use hD hWx.2
        simp only [Int.toNat_natCast]
        simp only [kindOfSet, Int.toNat_natCast] at h
        have er : (((ls.L.getD k []).getD 0 default).L) = rowAt ls.L k := rfl
        have er2 : lx (ls.L.getD k []) 0 = rowAt ls.L k := rfl
        have ed : ∀ w, drive (lx (cs.L.getD (ix (comps.L.getD x []) 0).toNat []) 0) (lx (cs.L.getD (ix (comps.L.getD x []) 0).toNat []) 1) (lx (cs.L.getD (ix (comps.L.getD x []) 0).toNat []) 2) (ix (cs.L.getD (ix (comps.L.getD x []) 0).toNat []) 3) (rowAt ls.L k) w = drv (cs.L.getD (ix (comps.L.getD x []) 0).toNat []) (rowAt ls.L k) w := fun _ => rfl
        simp only [er2, ed]
        obtain ⟨c, hcc⟩ : ∃ c, cs.L.getD (ix (comps.L.getD x []) 0).toNat [] = c := ⟨_, rfl⟩
        simp only [hcc] at h hD hdr hu1 hu2 ⊢
        have w1 : IntKind.i64.wrap (W.getD x 0 + useFrom (lx c 2) (rowAt ls.L k) 0 (rowAt ls.L k).length) = W.getD x 0 + useFrom (lx c 2) (rowAt ls.L k) 0 (rowAt ls.L k).length := wrap_id (by omega) (by omega)
        have w2 : IntKind.i64.wrap (loss.I + (drv c (rowAt ls.L k) (W.getD x 0)).2.1) = loss.I + (drv c (rowAt ls.L k) (W.getD x 0)).2.1 := wrap_id (by omega) (by omega)
        have w3 : IntKind.i64.wrap (used.I + 1) = used.I + 1 := wrap_id (by omega) (by omega)
        rw [w1, w2, w3, wrap_succ (by omega)]
        have hW' : ∀ j, j < comps.L.length → 0 ≤ (W.set x (drv c (rowAt ls.L k) (W.getD x 0)).1).getD j 0 ∧ (W.set x (drv c (rowAt ls.L k) (W.getD x 0)).1).getD j 0 ≤ 1000000 := fun j hj => by
          rw [getD_set (by omega)]
          split
          · exact hdr.1
          · exact h14 j hj
        have again : ∀ u : Int, 0 ≤ u → u ≤ (k : Int) + 1 → (T.ite (refFrom cs.L ls.L sets.L comps.L (k + 1) (ls.L.length - (k + 1)) u (loss.I + (drv c (rowAt ls.L k) (W.getD x 0)).2.1) (W.set x (drv c (rowAt ls.L k) (W.getD x 0)).1)).2.2
            (.leaf (.exit 2, [.i (refFrom cs.L ls.L sets.L comps.L (k + 1) (ls.L.length - (k + 1)) u (loss.I + (drv c (rowAt ls.L k) (W.getD x 0)).2.1) (W.set x (drv c (rowAt ls.L k) (W.getD x 0)).1)).1, .i (refFrom cs.L ls.L sets.L comps.L (k + 1) (ls.L.length - (k + 1)) u (loss.I + (drv c (rowAt ls.L k) (W.getD x 0)).2.1) (W.set x (drv c (rowAt ls.L k) (W.getD x 0)).1)).2.1, .l sets.L, .l comps.L, .i p.I])) (.leaf (.ret, [.i 0, .b false]))).run = some rr →
            RdOK G41_11 (fun ds => (((ds.getD 1 default).L.length : Int) - (ds.getD 5 default).I).toNat) [cs, ls, used, loss, m, i, sets, comps, p, row] rr
            (T.leaf (Rd.again [.l cs.L, .l ls.L, .i u, .i (loss.I + (drv c (rowAt ls.L k) (W.getD x 0)).2.1), .i comps.L.length, .i (k + 1 : Nat), .l sets.L, .l comps.L, .i p.I, .l (mkI (W.set x (drv c (rowAt ls.L k) (W.getD x 0)).1))])).run := by
          intro u hu0 hu3 hh
          refine rd_again ?_ (show ((ls.L.length : Int) - ((k + 1 : Nat) : Int)).toNat < ((ls.L.length : Int) - i.I).toNat by omega)
          refine (need_yes ⟨h1, h2, h3, h4, rfl, by simp only [I_i]; omega, by simp only [I_i, L_l]; omega, by simp only [I_i]; omega, by simp only [I_i]; omega, by simp only [I_i]; omega, by simp only [I_i]; omega, by simp only [L_l, ints_mkI], by simp only [L_l, ints_mkI, List.length_set]; exact h13, by simp only [L_l, ints_mkI]; exact hW'⟩).trans ?_
          simp only [L_l, I_i, ints_mkI, Int.toNat_natCast]
          exact hh
        have sz : (mkI W).length = comps.L.length := hlen
        refine rd_ite (fun c4 => ?_) fun c4 => ?_
        · have c4' : (x : Int) = used.I := by simpa using c4
          refine rd_dec ⟨by omega, by omega⟩ (rd_dec ⟨by omega, by omega⟩ (rd_dec ⟨by omega, by omega⟩ (rd_dec (by omega) (rd_dec ⟨by omega, by omega⟩ (rd_yes hD (rd_if (fun c5 => ?_) fun c5 => ?_))))))
          · rw [if_neg (by omega)] at h; exact rd_out h
          · rw [if_pos ⟨by omega, by omega, by omega, by omega⟩] at h
            simp only [if_pos c4'] at h
            exact rd_dec ⟨by omega, by omega⟩ (rd_dec ⟨by omega, by omega⟩ (rd_dec (by omega) (rd_yes ⟨hD, hWx.1, hWx.2⟩ (rd_dec ⟨by omega, by omega⟩ (rd_dec (by omega) (again _ (by omega) (by omega) h))))))
        · have c4' : ¬ (x : Int) = used.I := by simpa using c4
          refine rd_dec ⟨by omega, by omega⟩ (rd_dec ⟨by omega, by omega⟩ (rd_dec ⟨by omega, by omega⟩ (rd_dec (by omega) (rd_dec ⟨by omega, by omega⟩ (rd_yes hD (rd_if (fun c5 => ?_) fun c5 => ?_))))))
          · rw [if_neg (by omega)] at h; exact rd_out h
          · rw [if_pos ⟨by omega, by omega, by omega, by omega⟩] at h
            simp only [if_neg c4'] at h
            exact rd_dec ⟨by omega, by omega⟩ (rd_dec ⟨by omega, by omega⟩ (rd_dec (by omega) (rd_yes ⟨hD, hWx.1, hWx.2⟩ (rd_dec ⟨by omega, by omega⟩ (rd_dec (by omega) (again _ (by omega) (by omega) h))))))
    · rw [show ls.L.length - k = 0 by omega] at h
      exact rd_out h
  · cases h
end Go.Proofs.Ytlofnkkokcihnaa
