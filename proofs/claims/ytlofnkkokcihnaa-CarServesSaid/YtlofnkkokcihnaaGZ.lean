/-
  The document's functions of services compute what their words say.
  The document's search for the best choice of jobs computes what its words say.
  The document's search for the best choice of jobs, continued.
  The document's best choice of jobs is the program's: plain arithmetic.
-/
import Derived.Test.YtlofnkkokcihnaaGW
import Derived.Test.YtlofnkkokcihnaaCarPV
import Derived.Test.YtlofnkkokcihnaaGX
namespace Go.Proofs.Ytlofnkkokcihnaa
open Go.Lite

theorem ok90_2 (n : Nat) : LoopSim C n 90 (loopOf C.P 90 2) (mkL l90_2 G90_2) := by
  refine loop_of hC (sp := sp90) (lp := lp90) trivial [] (by kernel_rfl) rfl (fun k hk => by cases hk) (by kernel_rfl) (fun ds => (((ds.getD 0 default).L.length : Int) - (ds.getD 2 default).I).toNat) fun ds rr h => ?_
  unfold G90_2 at h
  split at h
  · rename_i l y i
    obtain ⟨hp, h⟩ := need_some h
    rw [yes_iff] at hp
    obtain ⟨h1, h2, h3⟩ := hp
    have hb : big = 4611686018427387904 := rfl
    refine ⟨by rw [fuelC]; simp; omega, ?_⟩
    rw [show roundT C (mkTab sp90 lp90) 90 (loopOf C.P 90 2) l90_2 [l, y, i] = _ from t90_2 l y i]
    obtain ⟨x, hx⟩ : ∃ x : Nat, i.I = x := ⟨i.I.toNat, by omega⟩
    simp only [hx, Int.toNat_natCast] at h h3 ⊢
    refine rd_if (fun hlt => ?_) fun hge => rd_out (all_end h (by omega))
    have hkl : x < l.L.length := by omega
    obtain ⟨s1, s2⟩ := all_step h hkl
    refine rd_dec ⟨by omega, by omega⟩ (rd_ite (fun c => rd_out (s1 ?_)) fun c => ?_)
    · unfold notAt; rw [Bool.not_eq_false']; exact c
    · rw [wrap_succ (by omega)]
      refine rd_again ((need_yes ⟨h1, by simp only [I_i]; omega, by simp only [I_i, L_l]; omega⟩).trans (s2 ?_)) (show ((l.L.length : Int) - ((x + 1 : Nat) : Int)).toNat < ((l.L.length : Int) - i.I).toNat by omega)
      unfold notAt; rw [Bool.not_eq_true']; exact c
  · cases h
theorem ok90 (n : Nat) : FnOK C (n + 1) 90 (mkF s90 G90) := by
  refine fn_of hC (sp := sp90) (lp := lp90) trivial (by kernel_rfl) [2] (by kernel_rfl) (by kernel_rfl) (fun k hk L hL => by simp at hk; subst hk; cases hL; exact ok90_2 n) fun ds rr h => ?_
  unfold G90 at h
  split at h
  · rename_i l y
    obtain ⟨hp, h⟩ := need_some h
    rw [yes_iff] at hp
    refine (congrArg T.run (t90 l y)).trans ?_
    rw [← h]
    simp only [Int.toNat_zero, Nat.sub_zero]
    unfold hasL
    exact go_yes ⟨hp, by omega, by omega⟩ (go_ite (fun c => by rw [c]; rfl) fun c => by rw [c]; rfl)
  · cases h
theorem needs_of {l : List (List D)} (h : needsOk l = true) : l.length ≤ 30 ∧ ∀ i, i < l.length → (lx (l.getD i []) 3).length ≤ 30 := by
  simp only [needsOk, Bool.and_eq_true, decide_eq_true_eq, allFrom_iff] at h
  exact ⟨h.2, fun i hi => of_decide_eq_true (h.1 i (Nat.zero_le _) (by omega))⟩
theorem ok30_9 (n : Nat) : LoopSim C (n + 1) 30 (loopOf C.P 30 9) (mkL l30_9 G30_9) := by
  refine loop_of hC (sp := sp30) (lp := lp30) ⟨ok50 n, trivial⟩ [] (by kernel_rfl) rfl (fun k hk => by cases hk) (by kernel_rfl) (fun ds => (31 - (ds.getD 2 default).I).toNat) fun ds rr h => ?_
  unfold G30_9 at h
  split at h
  · rename_i l i k
    obtain ⟨hp, h⟩ := need_some h
    rw [yes_iff] at hp
    obtain ⟨h1, h2, h3, h4, h5⟩ := hp
    obtain ⟨n1, n2⟩ := needs_of h1
    refine ⟨by rw [fuelC]; simp; omega, ?_⟩
    rw [show roundT C (mkTab sp30 lp30) 30 (loopOf C.P 30 9) l30_9 [l, i, k] = _ from t30_9 l i k]
    obtain ⟨x, hx⟩ : ∃ x : Nat, k.I = x := ⟨k.I.toNat, by omega⟩
    obtain ⟨y, hy⟩ : ∃ y : Nat, i.I = y := ⟨i.I.toNat, by omega⟩
    have w0 : IntKind.i64.wrap ((y : Int) - 1) = (y : Int) - 1 := wrap_id (by omega) (by omega)
    simp only [hx, hy, w0, Int.toNat_natCast, ix_def, lx_def, Nat.zero_add, Nat.reduceAdd] at h h3 h5 ⊢
    have hny := n2 y (by omega)
    refine rd_dec ⟨by omega, by omega⟩ (rd_if (fun hlt => ?_) fun hge => rd_out (all_end h (by omega)))
    have hkl : x < (lx (l.L.getD y []) 3).length := by omega
    obtain ⟨s1, s2⟩ := all_step h hkl
    rw [wrap_succ (by omega)]
    have hμ : (31 - ((x + 1 : Nat) : Int)).toNat < (31 - k.I).toNat := by omega
    have again : needJ y (lx (l.L.getD y []) 3) x = true → RdOK G30_9 (fun ds => (31 - (ds.getD 2 default).I).toNat) [l, i, k] rr (T.leaf (Rd.again [.l l.L, .i y, .i (x + 1 : Nat)])).run := fun hh =>
      rd_again ((need_yes ⟨h1, by simp only [I_i]; omega, by simp only [I_i, L_l]; omega, by simp only [I_i]; omega, by simp only [I_i, L_l, Int.toNat_natCast]; omega⟩).trans (by simp only [I_i, L_l, Int.toNat_natCast]; exact s2 hh)) hμ
    refine rd_dec ⟨by omega, by omega⟩ (rd_dec ⟨by omega, by omega⟩ (rd_not (fun c1 => rd_out (s1 ?_)) fun c1 => rd_if (fun c2 => ?_) fun c2 => ?_))
    · unfold needJ; rw [c1, Bool.false_and]
    · have w1 : IntKind.i64.wrap ((x : Int) - 1) = (x : Int) - 1 := wrap_id (by omega) (by omega)
      rw [w1, show ((x : Int) - 1).toNat = x - 1 by omega]
      refine rd_dec ⟨by omega, by omega⟩ (rd_dec ⟨by omega, by omega⟩ (rd_dec ⟨by omega, by omega⟩ (rd_dec ⟨by omega, by omega⟩ (rd_if (fun c3 => rd_out (s1 ?_)) fun c3 => again ?_))))
      · unfold needJ
        rw [decide_eq_false (show ¬ x = 0 by omega), decide_eq_false (show ¬ ix ((lx (l.L.getD y []) 3).getD (x - 1) []) 0 < ix ((lx (l.L.getD y []) 3).getD x []) 0 by omega)]
        simp
      · unfold needJ
        rw [c1, decide_eq_true (show ix ((lx (l.L.getD y []) 3).getD (x - 1) []) 0 < ix ((lx (l.L.getD y []) 3).getD x []) 0 by omega)]
        simp
    · refine again ?_
      unfold needJ
      rw [c1, decide_eq_true (show x = 0 by omega)]
      simp
  · cases h
theorem ok30_4 (n : Nat) : LoopSim C (n + 1) 30 (loopOf C.P 30 4) (mkL l30_4 G30_4) := by
  refine loop_of hC (sp := sp30) (lp := lp30) ⟨ok50 n, trivial⟩ [9] (by kernel_rfl) (by kernel_rfl) (fun k hk L hL => by simp at hk; subst hk; cases hL; exact ok30_9 n) (by kernel_rfl) (fun ds => (((ds.getD 0 default).L.length : Int) - (ds.getD 1 default).I).toNat) fun ds rr h => ?_
  unfold G30_4 at h
  split at h
  · rename_i l i
    obtain ⟨hp, h⟩ := need_some h
    rw [yes_iff] at hp
    obtain ⟨h1, h2, h3⟩ := hp
    obtain ⟨n1, n2⟩ := needs_of h1
    refine ⟨by rw [fuelC]; simp; omega, ?_⟩
    rw [show roundT C (mkTab sp30 lp30) 30 (loopOf C.P 30 4) l30_4 [l, i] = _ from t30_4 l i]
    obtain ⟨x, hx⟩ : ∃ x : Nat, i.I = x := ⟨i.I.toNat, by omega⟩
    simp only [hx, Int.toNat_natCast, Int.toNat_zero, Nat.sub_zero, ix_def, Nat.zero_add] at h h3 ⊢
    refine rd_if (fun hlt => ?_) fun hge => rd_out (all_end h (by omega))
    have hkl : x < l.L.length := by omega
    obtain ⟨s1, s2⟩ := all_step h hkl
    refine rd_dec ⟨by omega, by omega⟩ (rd_not (fun c1 => rd_out (s1 ?_)) fun c1 => rd_dec ⟨by omega, by omega⟩ (rd_not (fun c2 => rd_out (s1 ?_)) fun c2 => rd_yes ⟨h1, by omega, by omega, by omega, by omega⟩ (rd_ite (fun c3 => ?_) fun c3 => rd_out (s1 ?_))))
    · unfold jobAt jobP; rw [c1]; simp
    · unfold jobAt jobP; rw [c2]; simp
    · rw [wrap_succ (by omega)]
      exact rd_again ((need_yes ⟨h1, by simp only [I_i]; omega, by simp only [I_i, L_l]; omega⟩).trans (s2 (by unfold jobAt jobP; rw [c1, c2, c3]; rfl))) (show ((l.L.length : Int) - ((x + 1 : Nat) : Int)).toNat < ((l.L.length : Int) - i.I).toNat by omega)
    · unfold jobAt; rw [c3]; simp
  · cases h
theorem ok30 (n : Nat) : FnOK C (n + 2) 30 (mkF s30 G30) := by
  refine fn_of hC (sp := sp30) (lp := lp30) ⟨ok50 n, trivial⟩ (by kernel_rfl) [4] (by kernel_rfl) (by kernel_rfl) (fun k hk L hL => by simp at hk; subst hk; cases hL; exact ok30_4 n) fun ds rr h => ?_
  unfold G30 at h
  split at h
  · rename_i l m
    obtain ⟨hp, h⟩ := need_some h
    rw [yes_iff] at hp
    refine (congrArg T.run (t30 l m)).trans ?_
    rw [← h]
    simp only [Int.toNat_zero, Nat.sub_zero]
    unfold jobsOk
    refine go_if (fun c => ?_) fun c => go_not (fun c1 => by simp [c1]) fun c1 => go_yes ⟨hp, by omega, by omega⟩ (go_ite (fun c2 => ?_) fun c2 => by simp [c2])
    · have : ¬ l.L.length ≤ 20 := by omega
      simp [this]
    · have : l.L.length ≤ 20 := by omega
      simp [c1, c2, this]
  · cases h
theorem in_of {l ch : List (List D)} (h : chP l ch) {i : Nat} (hi : i < ch.length) : 0 ≤ ix (ch.getD i []) 0 ∧ ix (ch.getD i []) 0 ≤ (l.length : Int) - 1 := by
  have := allFrom_iff.1 h.2 i (Nat.zero_le _) (by omega)
  unfold inAt at this
  exact Lite.within_iff.1 this
theorem ok67_3 (n : Nat) : LoopSim C n 67 (loopOf C.P 67 3) (mkL l67_3 G67_3) := by
  refine loop_of hC (sp := sp67) (lp := lp67) trivial [] (by kernel_rfl) rfl (fun k hk => by cases hk) (by kernel_rfl) (fun ds => (((ds.getD 1 default).L.length : Int) - (ds.getD 4 default).I).toNat) fun ds rr h => ?_
  unfold G67_3 at h
  split at h
  · rename_i l ch v m i
    obtain ⟨hp, h⟩ := need_some h
    rw [yes_iff] at hp
    obtain ⟨h1, h2, h3, h4, h5, h6, h7, h8⟩ := hp
    have hl := h2.1
    refine ⟨by rw [fuelC]; simp; omega, ?_⟩
    rw [show roundT C (mkTab sp67 lp67) 67 (loopOf C.P 67 3) l67_3 [l, ch, v, m, i] = _ from t67_3 l ch v m i]
    obtain ⟨x, hx⟩ : ∃ x : Nat, i.I = x := ⟨i.I.toNat, by omega⟩
    simp only [hx, Int.toNat_natCast, ix_def, Nat.zero_add] at h h4 h6 h8 ⊢
    refine rd_if (fun hlt => ?_) fun hge => ?_
    · have hkl : x < ch.L.length := by omega
      have hin := in_of h2 hkl
      have hj := ((jobs_of h1).2 (ix (ch.L.getD x []) 0).toNat (by omega)).1
      rw [show ch.L.length - x = (ch.L.length - (x + 1)) + 1 by omega] at h
      simp only [valFrom, minFrom] at h
      have w1 : IntKind.i64.wrap (v.I + ix (l.L.getD (ix (ch.L.getD x []) 0).toNat []) 1) = v.I + ix (l.L.getD (ix (ch.L.getD x []) 0).toNat []) 1 := wrap_id (by omega) (by omega)
      have w2 : IntKind.i64.wrap (m.I + ix (l.L.getD (ix (ch.L.getD x []) 0).toNat []) 0) = m.I + ix (l.L.getD (ix (ch.L.getD x []) 0).toNat []) 0 := wrap_id (by omega) (by omega)
      rw [w1, w2, wrap_succ (by omega)]
      refine rd_dec ⟨by omega, by omega⟩ (rd_dec ⟨by omega, by omega⟩ (rd_dec ⟨by omega, by omega⟩ (rd_dec ⟨by omega, by omega⟩ (rd_again ?_ (show ((ch.L.length : Int) - ((x + 1 : Nat) : Int)).toNat < ((ch.L.length : Int) - i.I).toNat by omega)))))
      refine (need_yes ⟨h1, h2, by simp only [I_i]; omega, by simp only [I_i, L_l]; omega, by simp only [I_i]; omega, by simp only [I_i]; omega, by simp only [I_i]; omega, by simp only [I_i]; omega⟩).trans ?_
      simp only [I_i, L_l, Int.toNat_natCast, Int.add_assoc]
      exact h
    · rw [show ch.L.length - x = 0 by omega] at h
      simp only [valFrom, minFrom, Int.add_zero] at h
      exact rd_out h
  · cases h
theorem ok67 (n : Nat) : FnOK C (n + 1) 67 (mkF s67 G67) := by
  refine fn_of hC (sp := sp67) (lp := lp67) trivial (by kernel_rfl) [3] (by kernel_rfl) (by kernel_rfl) (fun k hk L hL => by simp at hk; subst hk; cases hL; exact ok67_3 n) fun ds rr h => ?_
  unfold G67 at h
  split at h
  · rename_i l ch
    obtain ⟨hp, h⟩ := need_some h
    rw [yes_iff] at hp
    refine (congrArg T.run (t67 l ch)).trans ?_
    simp only [Int.toNat_zero, Nat.sub_zero, Int.zero_add]
    exact go_yes ⟨hp.1, hp.2, by omega, by omega, by omega, by omega, by omega, by omega⟩ h
  · cases h
theorem ok68_2 (n : Nat) : LoopSim C n 68 (loopOf C.P 68 2) (mkL l68_2 G68_2) := by
  refine loop_of hC (sp := sp68) (lp := lp68) trivial [] (by kernel_rfl) rfl (fun k hk => by cases hk) (by kernel_rfl) (fun ds => (((ds.getD 0 default).L.length : Int) - (ds.getD 2 default).I).toNat) fun ds rr h => ?_
  unfold G68_2 at h
  split at h
  · rename_i a b i
    obtain ⟨hp, h⟩ := need_some h
    rw [yes_iff] at hp
    obtain ⟨h1, h2, h3, h4⟩ := hp
    have hb : big = 4611686018427387904 := rfl
    refine ⟨by rw [fuelC]; simp; omega, ?_⟩
    rw [show roundT C (mkTab sp68 lp68) 68 (loopOf C.P 68 2) l68_2 [a, b, i] = _ from t68_2 a b i]
    obtain ⟨x, hx⟩ : ∃ x : Nat, i.I = x := ⟨i.I.toNat, by omega⟩
    simp only [hx, Int.toNat_natCast, ix_def] at h h4 ⊢
    refine rd_if (fun hlt => rd_if (fun hlt2 => ?_) fun hge => rd_out (all_end h (by omega))) fun hge => rd_out (all_end h (by omega))
    have hkl : x < min a.L.length b.L.length := by omega
    rw [show min a.L.length b.L.length - x = (min a.L.length b.L.length - (x + 1)) + 1 by omega] at h
    refine rd_dec ⟨by omega, by omega⟩ (rd_dec ⟨by omega, by omega⟩ (rd_ite (fun c => ?_) fun c => ?_))
    · have c' := ne_of_bne c
      have e1 : allFrom (eqAt a.L b.L) x ((min a.L.length b.L.length - (x + 1)) + 1) = false := by rw [allS]; unfold eqAt; rw [decide_eq_false c', Bool.false_and]
      have e2 : befAt a.L b.L x ((min a.L.length b.L.length - (x + 1)) + 1) = decide (ix (a.L.getD x []) 0 < ix (b.L.getD x []) 0) := by simp only [befAt]; rw [if_neg c']
      rw [e1, e2] at h
      exact rd_dec ⟨by omega, by omega⟩ (rd_dec ⟨by omega, by omega⟩ (rd_out h))
    · have c' := eq_of_bne c
      have e1 : allFrom (eqAt a.L b.L) x ((min a.L.length b.L.length - (x + 1)) + 1) = allFrom (eqAt a.L b.L) (x + 1) (min a.L.length b.L.length - (x + 1)) := by rw [allS]; unfold eqAt; rw [decide_eq_true c', Bool.true_and]
      have e2 : befAt a.L b.L x ((min a.L.length b.L.length - (x + 1)) + 1) = befAt a.L b.L (x + 1) (min a.L.length b.L.length - (x + 1)) := by simp only [befAt]; rw [if_pos c']
      rw [e1, e2] at h
      rw [wrap_succ (by omega)]
      refine rd_again ((need_yes ⟨h1, h2, by simp only [I_i]; omega, by simp only [I_i, L_l]; omega⟩).trans h) (show ((a.L.length : Int) - ((x + 1 : Nat) : Int)).toNat < ((a.L.length : Int) - i.I).toNat by omega)
  · cases h
theorem ok68 (n : Nat) : FnOK C (n + 1) 68 (mkF s68 G68) := by
  refine fn_of hC (sp := sp68) (lp := lp68) trivial (by kernel_rfl) [2] (by kernel_rfl) (by kernel_rfl) (fun k hk L hL => by simp at hk; subst hk; cases hL; exact ok68_2 n) fun ds rr h => ?_
  unfold G68 at h
  split at h
  · rename_i a b
    obtain ⟨hp, h⟩ := need_some h
    rw [yes_iff] at hp
    refine (congrArg T.run (t68 a b)).trans ?_
    rw [← h]
    simp only [Int.toNat_zero, Nat.sub_zero]
    unfold beforeL
    refine go_yes ⟨hp.1, hp.2, by omega, by omega⟩ (go_ite (fun c => ?_) fun c => ?_)
    · rw [if_pos c]
      have : ((a.L.length : Int) < b.L.length) ↔ a.L.length < b.L.length := by omega
      simp only [run_leaf, this]
    · rw [if_neg (by rw [c]; decide)]
  · cases h

/-! ### Choices -/
theorem ok66_10 (n : Nat) : LoopSim C (n + 1) 66 (loopOf C.P 66 10) (mkL l66_10 G66_10) := by
  refine loop_of hC (sp := sp66) (lp := lp66) ⟨ok50 n, ok90 n, trivial⟩ [] (by kernel_rfl) rfl (fun k hk => by cases hk) (by kernel_rfl) (fun ds => (((ds.getD 9 default).L.length : Int) - (ds.getD 5 default).I).toNat) fun ds rr h => ?_
  unfold G66_10 at h
  split at h
  · rename_i l m ch s i k a b c d
    obtain ⟨hp, h⟩ := need_some h
    rw [yes_iff] at hp
    obtain ⟨h1, h2, h3, h4⟩ := hp
    have hb : big = 4611686018427387904 := rfl
    refine ⟨by rw [fuelC]; simp; omega, ?_⟩
    rw [show roundT C (mkTab sp66 lp66) 66 (loopOf C.P 66 10) l66_10 [l, m, ch, s, i, k, a, b, c, d] = _ from t66_10 l m ch s i k a b c d]
    obtain ⟨x, hx⟩ : ∃ x : Nat, k.I = x := ⟨k.I.toNat, by omega⟩
    simp only [hx, Int.toNat_natCast] at h h4 ⊢
    refine rd_if (fun hlt => ?_) fun hge => rd_out (all_end h (by omega))
    have hkl : x < d.L.length := by omega
    obtain ⟨s1, s2⟩ := all_step h hkl
    refine rd_dec ⟨by omega, by omega⟩ (rd_yes (by omega) (rd_not (fun c1 => rd_out (s1 c1)) fun c1 => ?_))
    rw [wrap_succ (by omega)]
    exact rd_again ((need_yes ⟨h1, h2, by simp only [I_i]; omega, by simp only [I_i, L_l]; omega⟩).trans (s2 c1)) (show ((d.L.length : Int) - ((x + 1 : Nat) : Int)).toNat < ((d.L.length : Int) - k.I).toNat by omega)
  · cases h
theorem ok66_15 (n : Nat) : LoopSim C (n + 1) 66 (loopOf C.P 66 15) (mkL l66_15 G66_15) := by
  refine loop_of hC (sp := sp66) (lp := lp66) ⟨ok50 n, ok90 n, trivial⟩ [] (by kernel_rfl) rfl (fun k hk => by cases hk) (by kernel_rfl) (fun ds => (((ds.getD 0 default).L.length : Int) - (ds.getD 4 default).I).toNat) fun ds rr h => ?_
  unfold G66_15 at h
  split at h
  · rename_i l m ch s i
    obtain ⟨hp, h⟩ := need_some h
    rw [yes_iff] at hp
    obtain ⟨h1, h2, h3, h4⟩ := hp
    have hj := (jobs_of h1).1
    have hb : big = 4611686018427387904 := rfl
    refine ⟨by rw [fuelC]; simp; omega, ?_⟩
    rw [show roundT C (mkTab sp66 lp66) 66 (loopOf C.P 66 15) l66_15 [l, m, ch, s, i] = _ from t66_15 l m ch s i]
    obtain ⟨x, hx⟩ : ∃ x : Nat, i.I = x := ⟨i.I.toNat, by omega⟩
    simp only [hx, Int.toNat_natCast] at h h4 ⊢
    refine rd_if (fun hlt => ?_) fun hge => rd_out (all_end h (by omega))
    have hkl : x < l.L.length := by omega
    obtain ⟨s1, s2⟩ := all_step h hkl
    rw [wrap_succ (by omega)]
    have again : mustAt l.L ch.L x = true → RdOK G66_15 (fun ds => (((ds.getD 0 default).L.length : Int) - (ds.getD 4 default).I).toNat) [l, m, ch, s, i] rr (T.leaf (Rd.again [.l l.L, .i m.I, .l ch.L, .i s.I, .i (x + 1 : Nat)])).run := fun hh =>
      rd_again ((need_yes ⟨h1, h2, by simp only [I_i]; omega, by simp only [I_i, L_l]; omega⟩).trans (s2 hh)) (show ((l.L.length : Int) - ((x + 1 : Nat) : Int)).toNat < ((l.L.length : Int) - i.I).toNat by omega)
    refine rd_dec ⟨by omega, by omega⟩ (rd_ite (fun c1 => rd_yes (by omega) (rd_not (fun c2 => rd_out (s1 ?_)) fun c2 => again ?_)) fun c1 => again ?_)
    · have c1' : bx (l.L.getD x []) 2 = true := c1
      unfold mustAt; rw [c1', c2]; rfl
    · unfold mustAt; rw [c2, Bool.or_true]
    · have c1' : bx (l.L.getD x []) 2 = false := c1
      unfold mustAt; rw [c1']; rfl
  · cases h
theorem ok66_3 (n : Nat) : LoopSim C (n + 1) 66 (loopOf C.P 66 3) (mkL l66_3 G66_3) := by
  refine loop_of hC (sp := sp66) (lp := lp66) ⟨ok50 n, ok90 n, trivial⟩ [10] (by kernel_rfl) (by kernel_rfl) (fun k hk L hL => by simp at hk; subst hk; cases hL; exact ok66_10 n) (by kernel_rfl) (fun ds => (((ds.getD 2 default).L.length : Int) - (ds.getD 4 default).I).toNat) fun ds rr h => ?_
  unfold G66_3 at h
  split at h
  · rename_i l m ch s i
    obtain ⟨hp, h⟩ := need_some h
    rw [yes_iff] at hp
    obtain ⟨h1, h2, h3, h4, h5, h6⟩ := hp
    have hj := (jobs_of h1).1
    refine ⟨by rw [fuelC]; simp; omega, ?_⟩
    rw [show roundT C (mkTab sp66 lp66) 66 (loopOf C.P 66 3) l66_3 [l, m, ch, s, i] = _ from t66_3 l m ch s i]
    obtain ⟨x, hx⟩ : ∃ x : Nat, i.I = x := ⟨i.I.toNat, by omega⟩
    have w0 : IntKind.i64.wrap ((l.L.length : Int) - 1) = (l.L.length : Int) - 1 := wrap_id (by omega) (by omega)
    simp only [hx, w0, Int.toNat_natCast, Int.toNat_zero, Nat.sub_zero, ix_def, lx_def, Nat.zero_add, Nat.reduceAdd] at h h4 h6 ⊢
    refine rd_if (fun hlt => ?_) fun hge => ?_
    · have hkl : x < ch.L.length := by omega
      rw [show ch.L.length - x = (ch.L.length - (x + 1)) + 1 by omega] at h
      rw [allS] at h
      simp only [minFrom] at h
      rw [wrap_succ (by omega)]
      have hμ : ((ch.L.length : Int) - ((x + 1 : Nat) : Int)).toNat < ((ch.L.length : Int) - i.I).toNat := by omega
      have out : chAt l.L ch.L x = false → RdOK G66_3 (fun ds => (((ds.getD 2 default).L.length : Int) - (ds.getD 4 default).I).toNat) [l, m, ch, s, i] rr (T.leaf (Rd.out Ex.ret [D.b false])).run := fun hh => by
        rw [hh, Bool.false_and] at h
        exact rd_out h
      refine rd_dec ⟨by omega, by omega⟩ (rd_not (fun c1 => out ?_) fun c1 => ?_)
      · have c1' : inAt l.L ch.L x = false := c1
        unfold chAt; rw [c1']; rfl
      · have c1' : inAt l.L ch.L x = true := c1
        have hin := Lite.within_iff.1 c1
        obtain ⟨⟨q1, -⟩, q2, -⟩ := (jobs_of h1).2 (ix (ch.L.getD x []) 0).toNat (by omega)
        have tail : (decide (x = 0) || decide (ix (ch.L.getD (x - 1) []) 0 < ix (ch.L.getD x []) 0)) = true → RdOK G66_3 (fun ds => (((ds.getD 2 default).L.length : Int) - (ds.getD 4 default).I).toNat) [l, m, ch, s, i] rr
            (T.need (decide (0 ≤ (x : Int) ∧ (x : Int) < (ch.L.length : Int))) (T.need (decide (0 ≤ ix (ch.L.getD x []) 0 ∧ ix (ch.L.getD x []) 0 < (l.L.length : Int))) (T.need (yes (ch.L.length ≤ 20 ∧ (lx (l.L.getD (ix (ch.L.getD x []) 0).toNat []) 3).length ≤ 20 ∧ (0 : Int) ≤ 0 ∧ (0 : Int) ≤ ((lx (l.L.getD (ix (ch.L.getD x []) 0).toNat []) 3).length : Int)))
              (T.ite (allFrom (needAtC (lx (l.L.getD (ix (ch.L.getD x []) 0).toNat []) 3) ch.L) 0 (lx (l.L.getD (ix (ch.L.getD x []) 0).toNat []) 3).length)
                (T.leaf (Rd.again [.l l.L, .i m.I, .l ch.L, .i (IntKind.i64.wrap (s.I + ix (l.L.getD (ix (ch.L.getD x []) 0).toNat []) 0)), .i (x + 1 : Nat)])) (T.leaf (Rd.out Ex.ret [D.b false])))))).run := fun hord => by
          refine rd_dec ⟨by omega, by omega⟩ (rd_dec ⟨by omega, by omega⟩ (rd_yes ⟨h2, q2, by omega, by omega⟩ (rd_ite (fun c2 => ?_) fun c2 => out ?_)))
          · have hc : chAt l.L ch.L x = true := by unfold chAt; rw [c1', hord, c2]; rfl
            rw [hc, Bool.true_and] at h
            have w1 : IntKind.i64.wrap (s.I + ix (l.L.getD (ix (ch.L.getD x []) 0).toNat []) 0) = s.I + ix (l.L.getD (ix (ch.L.getD x []) 0).toNat []) 0 := wrap_id (by omega) (by omega)
            rw [w1]
            refine rd_again ?_ hμ
            refine (need_yes ⟨h1, h2, by simp only [I_i]; omega, by simp only [I_i, L_l]; omega, by simp only [I_i]; omega, by simp only [I_i]; omega⟩).trans ?_
            simp only [I_i, L_l, Int.toNat_natCast, Int.add_assoc]
            exact h
          · unfold chAt; rw [c2, Bool.and_false]
        refine rd_if (fun c2 => ?_) fun c2 => tail ?_
        · have w1 : IntKind.i64.wrap ((x : Int) - 1) = (x : Int) - 1 := wrap_id (by omega) (by omega)
          rw [w1, show ((x : Int) - 1).toNat = x - 1 by omega]
          refine rd_dec ⟨by omega, by omega⟩ (rd_dec ⟨by omega, by omega⟩ (rd_if (fun c3 => out ?_) fun c3 => tail ?_))
          · unfold chAt
            rw [decide_eq_false (show ¬ x = 0 by omega), decide_eq_false (show ¬ ix (ch.L.getD (x - 1) []) 0 < ix (ch.L.getD x []) 0 by omega)]
            simp
          · rw [decide_eq_true (show ix (ch.L.getD (x - 1) []) 0 < ix (ch.L.getD x []) 0 by omega), Bool.or_true]
        · rw [decide_eq_true (show x = 0 by omega), Bool.true_or]
    · rw [show ch.L.length - x = 0 by omega] at h
      simp only [minFrom, Int.add_zero] at h
      exact rd_out h
  · cases h
theorem ok66 (n : Nat) : FnOK C (n + 2) 66 (mkF s66 G66) := by
  refine fn_of hC (sp := sp66) (lp := lp66) ⟨ok50 n, ok90 n, trivial⟩ (by kernel_rfl) [3, 15] (by kernel_rfl) (by kernel_rfl) (fun k hk L hL => by
    simp only [List.mem_cons, List.not_mem_nil, or_false] at hk
    rcases hk with rfl | rfl <;> cases hL
    · exact ok66_3 n
    · exact ok66_15 n) fun ds rr h => ?_
  unfold G66 at h
  split at h
  · rename_i l m ch
    obtain ⟨hp, h⟩ := need_some h
    rw [yes_iff] at hp
    refine (congrArg T.run (t66 l m ch)).trans ?_
    rw [← h]
    simp only [Int.toNat_zero, Nat.sub_zero, Int.zero_add]
    unfold choiceOk
    exact go_yes ⟨hp.1, hp.2, by omega, by omega, by omega, by omega⟩ (go_ite (fun c => go_yes ⟨hp.1, hp.2, by omega, by omega⟩ (go_ite (fun c2 => by simp [c, c2]) fun c2 => by simp [c2])) fun c => by simp [c])
  · cases h

/-! ### The search -/
theorem bit_eq64 (s i : Nat) (hi : i ≤ 60) : (IntKind.wrap IntKind.i64 ((BitVec.toNat (BitVec.ofInt (IntKind.bits IntKind.i64) (Int.fdiv (s : Int) (2 ^ min i (IntKind.bits IntKind.i64))) &&& BitVec.ofInt (IntKind.bits IntKind.i64) 1) : Nat) : Int) == 1) = s.testBit i := by
  have e : IntKind.bits IntKind.i64 = 64 := rfl
  rw [e, Nat.min_eq_left (by omega), fdiv_pow, and_one, wrap_id (by omega) (by omega)]
  rw [Nat.testBit_eq_decide_div_mod_eq]
  by_cases h : s / 2 ^ i % 2 = 1
  · rw [h]; rfl
  · have : s / 2 ^ i % 2 = 0 := by omega
    rw [this]; rfl
theorem rest_step {l : List (List D)} {y x : Nat} (hx : x < l.length) : restB l y x = if y.testBit x then (x : Int) :: restB l y (x + 1 : Nat) else restB l y (x + 1 : Nat) := by
  unfold restB
  simp only [Int.toNat_natCast]
  rw [show l.length - x = (l.length - (x + 1)) + 1 by omega]
  rfl
theorem rest_end {l : List (List D)} {y x : Nat} (hx : ¬ x < l.length) : restB l y x = [] := by
  unfold restB
  simp only [Int.toNat_natCast]
  rw [show l.length - x = 0 by omega]
  rfl
end Go.Proofs.Ytlofnkkokcihnaa

namespace Go.Proofs.Ytlofnkkokcihnaa
open Go.Lite

def bitsM (ds : List D) : Nat := if ds.length = 6 then (31 - (ds.getD 5 default).I).toNat else if ds.length = 10 then (31 - (ds.getD 7 default).I).toNat else (31 - (ds.getD 6 default).I).toNat
set_option maxRecDepth 100000 in
theorem ok31_8 (n : Nat) (hA : AllOK C n sp31) : LoopSim C n 31 (loopOf C.P 31 8) (mkL l31_8 G31_8) := by
  refine loop_of hC (sp := sp31) (lp := lp31) hA [] (by kernel_rfl) rfl (fun k hk => by cases hk) (by kernel_rfl) bitsM fun ds rr h => ?_
  have e1 : ∀ c : List D, List.take 1 [c] = [c] := fun _ => rfl
  unfold G31_8 at h
  split at h
  · rename_i j l m met s i
    obtain ⟨hp, h'⟩ := need_some h
    clear h
    rw [yes_iff] at hp
    obtain ⟨rfl, h1, h2, h3, h4, h5⟩ := hp
    have h := h'
    clear h'
    have hj := (jobs_of h1).1
    refine ⟨by rw [fuelC]; simp [bitsM]; omega, ?_⟩
    rw [show roundT C (mkTab sp31 lp31) 31 (loopOf C.P 31 8) l31_8 [.i 0, l, m, met, s, i] = _ from t31_8_0 l m met s i]
    obtain ⟨x, hx⟩ : ∃ x : Nat, i.I = x := ⟨i.I.toNat, by omega⟩
    obtain ⟨y, hy⟩ : ∃ y : Nat, s.I = y := ⟨s.I.toNat, by omega⟩
    simp only [hx, hy, Int.toNat_natCast, bit_eq64 y x (by omega)] at h h3 h5 ⊢
    refine rd_if (fun hlt => ?_) fun hge => ?_
    · have hxl : x < l.L.length := by omega
      rw [wrap_succ (by omega)]
      refine rd_need (by rw [decide_eq_false (by omega)]; rfl) (rd_ite (fun c => ?_) fun c => ?_)
      · rw [rest_step hxl, c] at h
        refine rd_need rfl (rd_false rfl (rd_need rfl (rd_again ?_ (show (31 - ((x + 1 : Nat) : Int)).toNat < (31 - i.I).toNat by omega))))
        refine (need_yes ⟨⟨h1, by simp only [I_i]; omega, by simp only [I_i]; omega, by simp only [I_i]; omega, by simp only [I_i, L_l]; omega⟩, rfl, by simp only [I_i, L_l, List.length_singleton]; omega⟩).trans ?_
        simp only [I_i, L_l, List.length_singleton]
        rw [Nat.add_comm]
        exact h
      · rw [rest_step hxl, c] at h
        refine rd_again ?_ (show (31 - ((x + 1 : Nat) : Int)).toNat < (31 - i.I).toNat by omega)
        exact (need_yes ⟨rfl, h1, by simp only [I_i]; omega, by simp only [I_i]; omega, by simp only [I_i]; omega, by simp only [I_i, L_l]; omega⟩).trans h
    · rw [rest_end (by omega)] at h
      exact rd_out h
  · rename_i j l m a b c d row
    split at h
    · obtain ⟨hp, h⟩ := need_some h
      rw [yes_iff] at hp
      obtain ⟨⟨h1, h2, h3, h4, h5⟩, h6, h7⟩ := hp
      have hj := (jobs_of h1).1
      refine ⟨by rw [fuelC]; simp [bitsM]; omega, ?_⟩
      rw [show roundT C (mkTab sp31 lp31) 31 (loopOf C.P 31 8) l31_8 [.i 1, l, m, a, b, c, d, row] = _ from t31_8_1 l m a b c d row]
      obtain ⟨x, hx⟩ : ∃ x : Nat, d.I = x := ⟨d.I.toNat, by omega⟩
      obtain ⟨y, hy⟩ : ∃ y : Nat, b.I = y := ⟨b.I.toNat, by omega⟩
      have e2 : List.take row.L.length row.L = row.L := List.take_length
      simp only [hx, hy, h6, Int.toNat_natCast, bit_eq64 y x (by omega), List.length_singleton, e1, e2] at h h3 h5 h7 ⊢
      refine rd_if (fun hlt => ?_) fun hge => ?_
      · have hxl : x < l.L.length := by omega
        rw [wrap_succ (by omega)]
        have hμ : (31 - ((x + 1 : Nat) : Int)).toNat < (31 - d.I).toNat := by omega
        refine rd_need (by rw [decide_eq_false (by omega)]; rfl) (rd_ite (fun c => ?_) fun c => ?_)
        · rw [rest_step hxl, c] at h
          refine rd_need rfl (rd_false rfl (rd_dec ⟨by omega, by omega, by rw [bytes3']; omega⟩ (rd_again ?_ hμ)))
          refine (need_yes ⟨⟨h1, by simp only [I_i]; omega, by simp only [I_i]; omega, by simp only [I_i]; omega, by simp only [I_i, L_l]; omega⟩, by simp [D.L, D.I], by simp only [I_i, L_l, List.length_append, List.length_singleton]; omega⟩).trans ?_
          simp only [I_i, L_l, List.length_append, List.length_singleton, List.append_assoc]
          have : row.L.length + 1 + (restB l.L y (x + 1 : Nat)).length = row.L.length + ((x : Int) :: restB l.L y (x + 1 : Nat)).length := by simp only [List.length_cons]; omega
          rw [this]
          exact h
        · rw [rest_step hxl, c] at h
          refine rd_again ?_ hμ
          exact (need_yes ⟨⟨h1, by simp only [I_i]; omega, by simp only [I_i]; omega, by simp only [I_i]; omega, by simp only [I_i, L_l]; omega⟩, rfl, by simp only [I_i, L_l]; omega⟩).trans h
      · rw [rest_end (by omega)] at h
        simp only [List.length_nil, Nat.add_zero, mkI, List.map_nil, List.append_nil] at h
        exact rd_out h
    · obtain ⟨hp, h⟩ := need_some h
      rw [yes_iff] at hp
      obtain ⟨⟨h1, h2, h3, h4, h5⟩, h6⟩ := hp
      have hj := (jobs_of h1).1
      refine ⟨by rw [fuelC]; simp [bitsM]; omega, ?_⟩
      rw [show roundT C (mkTab sp31 lp31) 31 (loopOf C.P 31 8) l31_8 [.i 2, l, m, a, b, c, d, row] = _ from t31_8_2 l m a b c d row]
      obtain ⟨x, hx⟩ : ∃ x : Nat, d.I = x := ⟨d.I.toNat, by omega⟩
      obtain ⟨y, hy⟩ : ∃ y : Nat, c.I = y := ⟨c.I.toNat, by omega⟩
      simp only [hx, hy, h6, Int.toNat_natCast, bit_eq64 y x (by omega)] at h h3 h5 ⊢
      refine rd_if (fun hlt => ?_) fun hge => ?_
      · have hxl : x < l.L.length := by omega
        rw [wrap_succ (by omega)]
        have hμ : (31 - ((x + 1 : Nat) : Int)).toNat < (31 - d.I).toNat := by omega
        refine rd_need (by rw [decide_eq_false (by omega)]; rfl) (rd_ite (fun c => ?_) fun c => ?_)
        · rw [rest_step hxl, c] at h
          refine rd_need rfl (rd_false rfl (rd_need rfl (rd_again ?_ hμ)))
          refine (need_yes ⟨rfl, ⟨h1, by simp only [I_i]; omega, by simp only [I_i]; omega, by simp only [I_i]; omega, by simp only [I_i, L_l]; omega⟩, rfl, rfl, by simp only [I_i, L_l, List.length_singleton]; omega⟩).trans ?_
          simp only [I_i, L_l, List.length_singleton]
          rw [Nat.add_comm]
          exact h
        · rw [rest_step hxl, c] at h
          refine rd_again ?_ hμ
          exact (need_yes ⟨⟨h1, by simp only [I_i]; omega, by simp only [I_i]; omega, by simp only [I_i]; omega, by simp only [I_i, L_l]; omega⟩, rfl⟩).trans h
      · rw [rest_end (by omega)] at h
        exact rd_out h
    · cases h
  · rename_i j l m q met s p i row row'
    obtain ⟨hp, h'⟩ := need_some h
    clear h
    rw [yes_iff] at hp
    obtain ⟨rfl, ⟨h1, h2, h3, h4, h5⟩, h6, h7, h8⟩ := hp
    have h := h'
    clear h'
    have hj := (jobs_of h1).1
    refine ⟨by rw [fuelC]; simp [bitsM]; omega, ?_⟩
    rw [show roundT C (mkTab sp31 lp31) 31 (loopOf C.P 31 8) l31_8 [.i 3, l, m, q, met, s, p, i, row, row'] = _ from t31_8_3 l m q met s p i row row']
    obtain ⟨x, hx⟩ : ∃ x : Nat, i.I = x := ⟨i.I.toNat, by omega⟩
    obtain ⟨y, hy⟩ : ∃ y : Nat, s.I = y := ⟨s.I.toNat, by omega⟩
    have e2 : List.take row'.L.length row'.L = row'.L := List.take_length
    simp only [hx, hy, h6, h7, Int.toNat_natCast, bit_eq64 y x (by omega), List.length_singleton, e1, e2] at h h3 h5 h8 ⊢
    refine rd_if (fun hlt => ?_) fun hge => ?_
    · have hxl : x < l.L.length := by omega
      rw [wrap_succ (by omega)]
      have hμ : (31 - ((x + 1 : Nat) : Int)).toNat < (31 - i.I).toNat := by omega
      refine rd_need (by rw [decide_eq_false (by omega)]; rfl) (rd_ite (fun c => ?_) fun c => ?_)
      · rw [rest_step hxl, c] at h
        refine rd_need rfl (rd_false rfl (rd_dec ⟨by omega, by omega, by rw [bytes3']; omega⟩ (rd_again ?_ hμ)))
        refine (need_yes ⟨rfl, ⟨h1, by simp only [I_i]; omega, by simp only [I_i]; omega, by simp only [I_i]; omega, by simp only [I_i, L_l]; omega⟩, rfl, by simp [D.L, D.I], by simp only [I_i, L_l, List.length_append, List.length_singleton]; omega⟩).trans ?_
        simp only [I_i, L_l, List.length_append, List.length_singleton, List.append_assoc]
        have : row'.L.length + 1 + (restB l.L y (x + 1 : Nat)).length = row'.L.length + ((x : Int) :: restB l.L y (x + 1 : Nat)).length := by simp only [List.length_cons]; omega
        rw [this]
        exact h
      · rw [rest_step hxl, c] at h
        refine rd_again ?_ hμ
        exact (need_yes ⟨rfl, ⟨h1, by simp only [I_i]; omega, by simp only [I_i]; omega, by simp only [I_i]; omega, by simp only [I_i, L_l]; omega⟩, rfl, rfl, by simp only [I_i, L_l]; omega⟩).trans h
    · rw [rest_end (by omega)] at h
      simp only [List.length_nil, Nat.add_zero, mkI, List.map_nil, List.append_nil] at h
      exact rd_out h
  · cases h
end Go.Proofs.Ytlofnkkokcihnaa

namespace Go.Proofs.Ytlofnkkokcihnaa
open Go.Lite

section
variable {G : List D → T (Ex × List D)} {μ : List D → Nat} {ds : List D} {r : Ex × List D}
theorem pick_tree {new same inn : T Rd} {l A B : List (List D)} {met : Bool} (hn : (!met || betterL l A B) = true → RdOK G μ ds r new.run) (hs : (!met || betterL l A B) = false → RdOK G μ ds r same.run)
    (hinn : RdOK G μ ds r (T.ite (beforeL A B) new same).run → RdOK G μ ds r inn.run) :
    RdOK G μ ds r (T.ite (!met) new (T.ite (decide (valFrom l A 0 A.length > valFrom l B 0 B.length)) new (T.ite (valFrom l A 0 A.length == valFrom l B 0 B.length)
      (T.ite (decide (minFrom l A 0 A.length < minFrom l B 0 B.length)) new (T.ite (minFrom l A 0 A.length == minFrom l B 0 B.length) inn same)) same))).run := by
  refine rd_not (fun c => hn (by rw [c]; rfl)) fun c => rd_if (fun c1 => hn ?_) fun c1 => rd_ite (fun c2 => rd_if (fun c3 => hn ?_) fun c3 => rd_ite (fun c4 => hinn (rd_ite (fun c5 => hn ?_) fun c5 => hs ?_)) fun c4 => hs ?_) fun c2 => hs ?_
  · unfold betterL; rw [decide_eq_true c1]; simp
  · unfold betterL; rw [c2, decide_eq_true c3]; simp
  · unfold betterL; rw [c2, c4, c5]; simp
  · unfold betterL; rw [c, decide_eq_false c1, decide_eq_false c3, c2, c4, c5]; rfl
  · unfold betterL; rw [c, decide_eq_false c1, decide_eq_false c3, c2, c4]; rfl
  · unfold betterL; rw [c, decide_eq_false c1, c2]; rfl
end
def runX (l : List (List D)) (m : Int) (s : Nat) (b : Bool × List Int) : T (Ex × List D) :=
  .ite (searchR l m s (2 ^ l.length - s) b).2.isEmpty (.leaf (.exit 0, [.i 0, .b (searchR l m s (2 ^ l.length - s) b).1]))
    (.leaf (.exit 0, [.i 1, .i (searchR l m s (2 ^ l.length - s) b).2.length, .b (searchR l m s (2 ^ l.length - s) b).1, .l (mkI (searchR l m s (2 ^ l.length - s) b).2)]))
theorem st0 {l : List (List D)} {m : Int} {met : Bool} {s : Nat} {rr : Ex × List D} (hj : jobsOk l = true) (hs : s ≤ 2 ^ l.length) (h : (runX l m s (met, [])).run = some rr) : (G31_4 [.i 0, .l l, .i m, .b met, .i s]).run = some rr := by
  refine (need_yes ⟨rfl, hj, by simp only [I_i]; omega, by simp only [I_i, L_l]; omega⟩).trans ?_
  simp only [I_i, L_l, B_b, Int.toNat_natCast]
  exact h
theorem st1 {l : List (List D)} {m : Int} {met : Bool} {s : Nat} {B : List Int} {rr : Ex × List D} (hj : jobsOk l = true) (hs : s ≤ 2 ^ l.length) (hB : chP l (mkI B)) (hB0 : 0 < B.length) (h : (runX l m s (met, B)).run = some rr) : (G31_4 [.i 1, .l l, .i m, .i B.length, .b met, .i s, .l (mkI B)]).run = some rr := by
  refine (need_yes ⟨rfl, hj, by simp only [I_i]; omega, by simp only [I_i, L_l]; omega, by simp only [I_i, L_l, len_mkI], by simp only [L_l, ints_mkI], hB, by simp only [L_l, len_mkI]; exact hB0⟩).trans ?_
  simp only [I_i, L_l, B_b, Int.toNat_natCast, ints_mkI]
  exact h
theorem bits_in {s : Nat} : ∀ k i, ∀ x ∈ bitsFrom s i k, (i : Int) ≤ x ∧ x < i + k
  | 0, _, _, h => by cases h
  | k + 1, i, x, h => by
    simp only [bitsFrom] at h
    split at h
    · rcases List.mem_cons.1 h with rfl | h
      · omega
      · have := bits_in k (i + 1) x h
        omega
    · have := bits_in k (i + 1) x h
      omega
theorem chP_bits {l : List (List D)} (hj : l.length ≤ 20) (s : Nat) : chP l (mkI (bitsFrom s 0 l.length)) := by
  refine ⟨by rw [len_mkI]; have := bits_len (s := s) l.length 0; omega, allFrom_iff.2 fun j _ h => ?_⟩
  rw [len_mkI, Nat.zero_add] at h
  unfold inAt
  rw [ix_mkI, Lite.within_iff]
  have e : (bitsFrom s 0 l.length).getD j 0 = (bitsFrom s 0 l.length)[j] := by simp [List.getD_eq_getElem?_getD, h]
  rw [e]
  have := bits_in (s := s) l.length 0 _ (List.getElem_mem h)
  omega
theorem chP_nil (l : List (List D)) : chP l [] := ⟨by simp, rfl⟩
theorem search_stepR {l : List (List D)} {m : Int} {s : Nat} {b : Bool × List Int} (hs : s < 2 ^ l.length) : runX l m s b = runX l m (s + 1) (stepR l m s b) := by
  unfold runX
  rw [show 2 ^ l.length - s = (2 ^ l.length - (s + 1)) + 1 by omega]
  rfl
theorem shl_len {n : Nat} (h : n ≤ 20) : IntKind.i64.wrap (1 * 2 ^ min n (IntKind.bits IntKind.i64)) = ((2 ^ n : Nat) : Int) := by
  have hp := two_pow20 h
  have e : IntKind.bits IntKind.i64 = 64 := rfl
  rw [e, Nat.min_eq_left (by omega), Int.one_mul]
  have : (2 : Int) ^ n = ((2 ^ n : Nat) : Int) := by simp
  rw [this]
  obtain ⟨N, hN⟩ : ∃ N, 2 ^ n = N := ⟨_, rfl⟩
  rw [hN] at hp ⊢
  exact wrap_id (by omega) (by omega)
def srchM (ds : List D) : Nat := (1048577 - (if ds.length = 5 then ds.getD 4 default else ds.getD 5 default).I).toNat
theorem srchM5 (a b c d e : D) : srchM [a, b, c, d, e] = (1048577 - e.I).toNat := by simp [srchM]
theorem srchM7 (a b c d e f g : D) : srchM [a, b, c, d, e, f, g] = (1048577 - f.I).toNat := by simp [srchM]
set_option maxRecDepth 100000 in
theorem ok31_4 (n : Nat) (hA : AllOK C n sp31) : LoopSim C n 31 (loopOf C.P 31 4) (mkL l31_4 G31_4) := by
  refine loop_of hC (sp := sp31) (lp := lp31) hA [8] (by kernel_rfl) (by kernel_rfl) (fun k hk L hL => by simp at hk; subst hk; cases hL; exact ok31_8 n hA) (by kernel_rfl) srchM fun ds rr h => ?_
  have hb : big = 4611686018427387904 := rfl
  unfold G31_4 at h
  split at h
  · rename_i j l m met s
    obtain ⟨hp, h'⟩ := need_some h
    clear h
    rw [yes_iff] at hp
    obtain ⟨rfl, h1, h2, h3⟩ := hp
    have h : (runX l.L m.I s.I.toNat (met.B, [])).run = some rr := h'
    clear h'
    have hj := (jobs_of h1).1
    have hpow := two_pow20 hj
    refine ⟨by rw [fuelC, srchM5]; omega, ?_⟩
    rw [show roundT C (mkTab sp31 lp31) 31 (loopOf C.P 31 4) l31_4 [.i 0, l, m, met, s] = _ from t31_4_0 l m met s]
    obtain ⟨x, hx⟩ : ∃ x : Nat, s.I = x := ⟨s.I.toNat, by omega⟩
    have erest : restB l.L (x : Int) 0 = bitsFrom x 0 l.L.length := rfl
    have hch := chP_bits hj x
    have hlb := bits_len (s := x) l.L.length 0
    simp only [hx, shl_len hj, erest, Int.toNat_natCast, take_mkI] at h h3 ⊢
    refine rd_need rfl (rd_if (fun hlt => ?_) fun hge => ?_)
    · have hxl : x < 2 ^ l.L.length := by omega
      rw [search_stepR hxl] at h
      rw [wrap_succ (by omega)]
      have hμ : (1048577 - ((x + 1 : Nat) : Int)).toNat < (1048577 - s.I).toNat := by omega
      have same : stepR l.L m.I x (met.B, []) = (met.B, []) → RdOK G31_4 srchM [.i 0, l, m, met, s] rr (T.leaf (Rd.again [.i 0, .l l.L, .i m.I, .b met.B, .i (x + 1 : Nat)])).run := fun hh => by
        rw [hh] at h
        exact rd_again (st0 h1 (by omega) h) (by simp only [srchM5, I_i]; exact hμ)
      refine rd_yes ⟨by trivial, h1, by omega, by omega, by omega, by omega⟩ (rd_ite (fun c => ?_) fun c => ?_)
      · rw [List.isEmpty_iff] at c
        have new : stepR l.L m.I x (met.B, []) = (true, []) → RdOK G31_4 srchM [.i 0, l, m, met, s] rr (T.leaf (Rd.again [.i 0, .l l.L, .i m.I, .b true, .i (x + 1 : Nat)])).run := fun hh => by
          rw [hh] at h
          exact rd_again (st0 h1 (by omega) h) (by simp only [srchM5, I_i]; exact hμ)
        have e0 : mkI [] = [] := rfl
        refine rd_yes ⟨h1, by simp⟩ (rd_not (fun c1 => same ?_) fun c1 => rd_yes ⟨h1, chP_nil _⟩ (rd_yes ⟨h1, chP_nil _⟩ (rd_not (fun c2 => new ?_) fun c2 => rd_false rfl (rd_true rfl (rd_false rfl (rd_true rfl (rd_yes ⟨by simp; omega, by simp; omega⟩ (rd_false rfl (same ?_)))))))))
        · unfold stepR; rw [c, e0, c1]; rfl
        · unfold stepR; rw [c, e0, c1]; simp [c2]
        · unfold stepR; rw [c, e0, c1]; simp [c2, betterL, beforeL, valFrom, minFrom, allFrom]
      · have new : stepR l.L m.I x (met.B, []) = (true, bitsFrom x 0 l.L.length) → RdOK G31_4 srchM [.i 0, l, m, met, s] rr (T.leaf (Rd.again [.i 1, .l l.L, .i m.I, .i (bitsFrom x 0 l.L.length).length, .b true, .i (x + 1 : Nat), .l (mkI (bitsFrom x 0 l.L.length))])).run := fun hh => by
          rw [hh] at h
          exact rd_again (st1 h1 (by omega) hch (by cases hcc : bitsFrom x 0 l.L.length with | nil => rw [hcc] at c; cases c | cons a b => simp) h) (by simp only [srchM5, srchM7, I_i]; exact hμ)
        have hl2 := hch.1
        rw [len_mkI] at hl2
        refine rd_dec (by rw [len_mkI]; omega) (rd_yes ⟨h1, hch.1⟩ (rd_not (fun c1 => same ?_) fun c1 => rd_dec (by rw [len_mkI]; omega) (rd_yes ⟨h1, hch⟩ (rd_yes ⟨h1, chP_nil _⟩ (pick_tree (l := l.L) (A := mkI (bitsFrom x 0 l.L.length)) (B := []) (fun c2 => new ?_) (fun c2 => same ?_) fun hh => rd_dec (by rw [len_mkI]; omega) (rd_yes ⟨by rw [len_mkI]; omega, by simp; omega⟩ hh))))))
        · unfold stepR; rw [c1]; rfl
        · have e0 : mkI [] = [] := rfl
          unfold stepR; simp only [e0]; rw [c1, c2]; rfl
        · have e0 : mkI [] = [] := rfl
          unfold stepR; simp only [e0]; rw [c1, c2]; rfl
    · unfold runX at h
      rw [show 2 ^ l.L.length - x = 0 by omega] at h
      exact rd_out h
  · rename_i j l m q met s row
    obtain ⟨hp, h'⟩ := need_some h
    clear h
    rw [yes_iff] at hp
    obtain ⟨rfl, h1, h2, h3, h4, h5, h6, h7⟩ := hp
    have h : (runX l.L m.I s.I.toNat (met.B, ints row.L)).run = some rr := h'
    clear h'
    have hj := (jobs_of h1).1
    have hpow := two_pow20 hj
    refine ⟨by rw [fuelC, srchM7]; omega, ?_⟩
    rw [show roundT C (mkTab sp31 lp31) 31 (loopOf C.P 31 4) l31_4 [.i 1, l, m, q, met, s, row] = _ from t31_4_1 l m q met s row]
    obtain ⟨x, hx⟩ : ∃ x : Nat, s.I = x := ⟨s.I.toNat, by omega⟩
    obtain ⟨B, hB⟩ : ∃ B, ints row.L = B := ⟨_, rfl⟩
    rw [hB] at h h5
    rw [h5] at h4 h6 h7 ⊢
    rw [len_mkI] at h4 h7
    have erest : restB l.L (x : Int) 0 = bitsFrom x 0 l.L.length := rfl
    have hch := chP_bits hj x
    have hlb := bits_len (s := x) l.L.length 0
    have hl3 := h6.1
    rw [len_mkI] at hl3
    simp only [hx, h4, shl_len hj, erest, Int.toNat_natCast, take_mkI, len_mkI] at h h3 ⊢
    refine rd_need rfl (rd_if (fun hlt => ?_) fun hge => ?_)
    · have hxl : x < 2 ^ l.L.length := by omega
      rw [search_stepR hxl] at h
      rw [wrap_succ (by omega)]
      have hμ : (1048577 - ((x + 1 : Nat) : Int)).toNat < (1048577 - s.I).toNat := by omega
      have same : stepR l.L m.I x (met.B, B) = (met.B, B) → RdOK G31_4 srchM [.i 1, l, m, q, met, s, row] rr (T.leaf (Rd.again [.i 1, .l l.L, .i m.I, .i B.length, .b met.B, .i (x + 1 : Nat), .l (mkI B)])).run := fun hh => by
        rw [hh] at h
        exact rd_again (st1 h1 (by omega) h6 h7 h) (by simp only [srchM7, I_i]; exact hμ)
      refine rd_yes ⟨⟨h1, by omega, by omega, by omega, by omega⟩, by trivial⟩ (rd_ite (fun c => ?_) fun c => ?_)
      · rw [List.isEmpty_iff] at c
        have new : stepR l.L m.I x (met.B, B) = (true, []) → RdOK G31_4 srchM [.i 1, l, m, q, met, s, row] rr (T.leaf (Rd.again [.i 0, .l l.L, .i m.I, .b true, .i (x + 1 : Nat)])).run := fun hh => by
          rw [hh] at h
          exact rd_again (st0 h1 (by omega) h) (by simp only [srchM5, srchM7, I_i]; exact hμ)
        have e0 : mkI [] = [] := rfl
        have el : B.length = (mkI B).length := (len_mkI B).symm
        simp only [el]
        rw [← el]
        refine rd_yes ⟨h1, by simp⟩ (rd_not (fun c1 => same ?_) fun c1 => rd_yes ⟨h1, chP_nil _⟩ (rd_dec (by omega) (rd_yes ⟨h1, h6⟩ ?_)))
        · unfold stepR; rw [c, e0, c1]; rfl
        · have := pick_tree (G := G31_4) (μ := srchM) (ds := [.i 1, l, m, q, met, s, row]) (r := rr) (l := l.L) (A := []) (B := mkI B) (met := met.B) (fun c2 => new (by unfold stepR; simp only [c, e0]; rw [c1, c2]; rfl)) (fun c2 => same (by unfold stepR; simp only [c, e0]; rw [c1, c2]; rfl)) (fun hh => rd_dec (p := B.length ≤ B.length) (by omega) (rd_yes (p := ([] : List (List D)).length < big ∧ B.length < big) ⟨by simp; omega, by omega⟩ hh))
          simp only [len_mkI] at this
          exact this
      · have new : stepR l.L m.I x (met.B, B) = (true, bitsFrom x 0 l.L.length) → RdOK G31_4 srchM [.i 1, l, m, q, met, s, row] rr (T.leaf (Rd.again [.i 1, .l l.L, .i m.I, .i (bitsFrom x 0 l.L.length).length, .b true, .i (x + 1 : Nat), .l (mkI (bitsFrom x 0 l.L.length))])).run := fun hh => by
          rw [hh] at h
          exact rd_again (st1 h1 (by omega) hch (by cases hcc : bitsFrom x 0 l.L.length with | nil => rw [hcc] at c; cases c | cons a b => simp) h) (by simp only [srchM7, I_i]; exact hμ)
        have hl2 := hch.1
        rw [len_mkI] at hl2
        refine rd_dec (by omega) (rd_yes ⟨h1, hl2⟩ (rd_not (fun c1 => same ?_) fun c1 => rd_dec (by omega) (rd_yes ⟨h1, hch⟩ (rd_dec (by omega) (rd_yes ⟨h1, h6⟩ ?_)))))
        · unfold stepR; rw [c1]; rfl
        · have := pick_tree (G := G31_4) (μ := srchM) (ds := [.i 1, l, m, q, met, s, row]) (r := rr) (l := l.L) (A := mkI (bitsFrom x 0 l.L.length)) (B := mkI B) (met := met.B) (fun c2 => new (by unfold stepR; rw [c1, c2]; rfl)) (fun c2 => same (by unfold stepR; rw [c1, c2]; rfl)) (fun hh => rd_dec (p := (bitsFrom x 0 l.L.length).length ≤ (bitsFrom x 0 l.L.length).length) (by omega) (rd_dec (p := B.length ≤ B.length) (by omega) (rd_yes (p := (bitsFrom x 0 l.L.length).length < big ∧ B.length < big) ⟨by omega, by omega⟩ hh)))
          simp only [len_mkI] at this
          exact this
    · unfold runX at h
      rw [show 2 ^ l.L.length - x = 0 by omega] at h
      have e : (searchR l.L m.I x 0 (met.B, B)).2.isEmpty = false := by
        cases hcc : B with
        | nil => rw [hcc] at h7; simp at h7
        | cons a b => rfl
      rw [run_ite, e] at h
      exact rd_out h
  · cases h
set_option maxRecDepth 100000 in
theorem ok31 (n : Nat) (hA : AllOK C n sp31) : FnOK C (n + 1) 31 (mkF s31 G31) := by
  refine fn_of hC (sp := sp31) (lp := lp31) hA (by kernel_rfl) [4] (by kernel_rfl) (by kernel_rfl) (fun k hk L hL => by simp at hk; subst hk; cases hL; exact ok31_4 n hA) fun ds rr h => ?_
  unfold G31 at h
  split at h
  · rename_i l m
    obtain ⟨hp, h⟩ := need_some h
    rw [yes_iff] at hp
    refine (congrArg T.run (t31 l m)).trans ?_
    simp only [Int.toNat_zero, Nat.sub_zero, Int.toNat_natCast]
    exact go_yes ⟨by trivial, hp, by omega, Int.natCast_nonneg _⟩ h
  · cases h
end Go.Proofs.Ytlofnkkokcihnaa

namespace Go.Proofs.Ytlofnkkokcihnaa
open Go.Lite

/-! ### Lists of bits -/
theorem bits_append (s : Nat) : ∀ a b i, bitsFrom s i (a + b) = bitsFrom s i a ++ bitsFrom s (i + a) b
  | 0, b, i => by simp [bitsFrom]
  | a + 1, b, i => by
    rw [show a + 1 + b = (a + b) + 1 by omega]
    simp only [bitsFrom]
    rw [bits_append s a b (i + 1), show i + 1 + a = i + (a + 1) by omega]
    split <;> simp
theorem bits_n {s n : Nat} (hs : s < 2 ^ n) (hn : n ≤ 20) : bitsL s = bitsFrom s 0 n := by
  unfold bitsL
  have e : bitsFrom s (0 + n) (20 - n) = [] := no_bits (i := n) (Nat.not_le.2 hs) _ _ (by omega)
  have e2 := bits_append s n (20 - n) 0
  rw [show n + (20 - n) = 20 by omega, e, List.append_nil] at e2
  exact e2
theorem mem_bits {s : Nat} {x : Int} : ∀ k i, x ∈ bitsFrom s i k ↔ ∃ j : Nat, i ≤ j ∧ j < i + k ∧ x = j ∧ s.testBit j = true
  | 0, i => by
    simp only [bitsFrom, List.not_mem_nil, false_iff]
    rintro ⟨j, h1, h2, _⟩
    omega
  | k + 1, i => by
    have ih := mem_bits (s := s) (x := x) k (i + 1)
    simp only [bitsFrom]
    split
    · rename_i hb
      rw [List.mem_cons, ih]
      constructor
      · rintro (rfl | ⟨j, h1, h2, h3, h4⟩)
        · exact ⟨i, by omega, by omega, rfl, hb⟩
        · exact ⟨j, by omega, by omega, h3, h4⟩
      · rintro ⟨j, h1, h2, h3, h4⟩
        by_cases hj : j = i
        · subst hj; exact .inl h3
        · exact .inr ⟨j, by omega, by omega, h3, h4⟩
    · rename_i hb
      rw [ih]
      constructor
      · rintro ⟨j, h1, h2, h3, h4⟩
        exact ⟨j, by omega, by omega, h3, h4⟩
      · rintro ⟨j, h1, h2, h3, h4⟩
        by_cases hj : j = i
        · subst hj; exact absurd h4 hb
        · exact ⟨j, by omega, by omega, h3, h4⟩
theorem bits_sorted {s : Nat} : ∀ k i, (bitsFrom s i k).Pairwise (· < ·)
  | 0, _ => List.Pairwise.nil
  | k + 1, i => by
    have ih := bits_sorted (s := s) k (i + 1)
    simp only [bitsFrom]
    split
    · refine List.pairwise_cons.2 ⟨fun x hx => ?_, ih⟩
      have := bits_in k (i + 1) x hx
      omega
    · exact ih
theorem has_mem {c : List Int} {x : Int} : hasL (mkI c) x = true ↔ x ∈ c := by
  unfold hasL
  rw [Bool.not_eq_true', allFrom_false]
  constructor
  · rintro ⟨j, _, h2, h3⟩
    rw [len_mkI, Nat.zero_add] at h2
    unfold notAt at h3
    rw [Bool.not_eq_false', beq_iff_eq, ix_mkI] at h3
    rw [← h3, show c.getD j 0 = c[j] by simp [List.getD_eq_getElem?_getD, h2]]
    exact List.getElem_mem h2
  · intro h
    obtain ⟨j, hj, rfl⟩ := List.getElem_of_mem h
    refine ⟨j, Nat.zero_le _, by rw [len_mkI]; omega, ?_⟩
    unfold notAt
    rw [Bool.not_eq_false', beq_iff_eq, ix_mkI]
    simp [List.getD_eq_getElem?_getD, hj]
/-! ### Sums -/
def sumW (f : Nat → Int) : List Int → Int
  | [] => 0
  | x :: xs => f x.toNat + sumW f xs
theorem val_list {l : List (List D)} {c : List Int} : ∀ k i, i + k = c.length → valFrom l (mkI c) i k = sumW (fun x => ix (l.getD x []) 1) (c.drop i) ∧ minFrom l (mkI c) i k = sumW (fun x => ix (l.getD x []) 0) (c.drop i)
  | 0, i, h => by rw [List.drop_eq_nil_of_le (by omega)]; exact ⟨rfl, rfl⟩
  | k + 1, i, h => by
    obtain ⟨h1, h2⟩ := val_list (l := l) (c := c) k (i + 1) (by omega)
    have hi : i < c.length := by omega
    rw [List.drop_eq_getElem_cons hi]
    have e : c.getD i 0 = c[i] := by simp [List.getD_eq_getElem?_getD, hi]
    simp only [valFrom, minFrom, sumW, ix_mkI, e, h1, h2]
    exact ⟨trivial, trivial⟩
theorem val_all (l : List (List D)) (c : List Int) : valFrom l (mkI c) 0 (mkI c).length = sumW (fun x => ix (l.getD x []) 1) c ∧ minFrom l (mkI c) 0 (mkI c).length = sumW (fun x => ix (l.getD x []) 0) c := by
  rw [len_mkI]
  have := val_list (l := l) (c := c) c.length 0 (by omega)
  rwa [List.drop_zero] at this
def fineAt (l : List (List D)) (s i : Nat) : Bool := if s.testBit i then allFrom (bitAt s (lx (l.getD i []) 3)) 0 (lx (l.getD i []) 3).length else !(bx (l.getD i []) 2)
theorem worth_eq {l : List (List D)} {s : Nat} : ∀ k i v t, worthFrom l s i k v t = if allFrom (fineAt l s) i k then (v + sumW (fun x => ix (l.getD x []) 1) (bitsFrom s i k), t + sumW (fun x => ix (l.getD x []) 0) (bitsFrom s i k), true) else (0, 0, false)
  | 0, i, v, t => by simp [worthFrom, allFrom, bitsFrom, sumW]
  | k + 1, i, v, t => by
    rw [allS]
    simp only [worthFrom, bitsFrom]
    by_cases hb : s.testBit i = true
    · have e : fineAt l s i = allFrom (bitAt s (lx (l.getD i []) 3)) 0 (lx (l.getD i []) 3).length := by unfold fineAt; rw [if_pos hb]
      rw [if_pos hb, if_pos hb, e]
      cases allFrom (bitAt s (lx (l.getD i []) 3)) 0 (lx (l.getD i []) 3).length with
      | true =>
        simp only [if_true, Bool.true_and]
        rw [worth_eq k (i + 1)]
        simp only [sumW, Int.toNat_natCast, Int.add_assoc]
      | false => simp
    · have e : fineAt l s i = !(bx (l.getD i []) 2) := by unfold fineAt; rw [if_neg hb]
      rw [if_neg hb, if_neg hb, e]
      cases bx (l.getD i []) 2 with
      | true => simp
      | false =>
        simp only [Bool.not_false, Bool.true_and, Bool.false_eq_true, if_false]
        rw [worth_eq k (i + 1)]
theorem worth_all (l : List (List D)) (s : Nat) : worthOf l s = if allFrom (fineAt l s) 0 l.length then (valFrom l (mkI (bitsFrom s 0 l.length)) 0 (mkI (bitsFrom s 0 l.length)).length, minFrom l (mkI (bitsFrom s 0 l.length)) 0 (mkI (bitsFrom s 0 l.length)).length, true) else (0, 0, false) := by
  unfold worthOf
  rw [worth_eq, (val_all l _).1, (val_all l _).2, Int.zero_add, Int.zero_add]
/-- A set is a choice if the program and the document say so. -/
theorem choice_eq {l : List (List D)} (hj : jobsOk l = true) (m : Int) (s : Nat) : worthOk l m s = choiceOk l m (mkI (bitsFrom s 0 l.length)) := by
  obtain ⟨j1, j2⟩ := jobs_of hj
  have hin : ∀ x : Int, x ∈ bitsFrom s 0 l.length ↔ ∃ j : Nat, j < l.length ∧ x = j ∧ s.testBit j = true := fun x => by
    rw [mem_bits]
    constructor
    · rintro ⟨j, _, h2, h3, h4⟩; exact ⟨j, by omega, h3, h4⟩
    · rintro ⟨j, h2, h3, h4⟩; exact ⟨j, by omega, by omega, h3, h4⟩
  have key : allFrom (fineAt l s) 0 l.length = (allFrom (chAt l (mkI (bitsFrom s 0 l.length))) 0 (mkI (bitsFrom s 0 l.length)).length && allFrom (mustAt l (mkI (bitsFrom s 0 l.length))) 0 l.length) := by
    rw [Bool.eq_iff_iff, Bool.and_eq_true, allFrom_iff, allFrom_iff, allFrom_iff]
    constructor
    · intro hf
      refine ⟨fun i _ hi => ?_, fun i _ hi => ?_⟩
      · rw [len_mkI, Nat.zero_add] at hi
        have hc := allFrom_iff.1 (chP_bits j1 s).2 i (Nat.zero_le _) (by rw [len_mkI]; omega)
        have e : (bitsFrom s 0 l.length).getD i 0 = (bitsFrom s 0 l.length)[i] := by simp [List.getD_eq_getElem?_getD, hi]
        obtain ⟨j, hjl, hje, hjb⟩ := (hin _).1 (List.getElem_mem hi)
        unfold chAt
        simp only [hc, ix_mkI, e, hje, Int.toNat_natCast, Bool.true_and]
        have hfj := hf j (Nat.zero_le _) (by omega)
        unfold fineAt at hfj
        rw [if_pos hjb] at hfj
        rw [Bool.and_eq_true]
        refine ⟨?_, ?_⟩
        · by_cases hi0 : i = 0
          · rw [decide_eq_true hi0, Bool.true_or]
          · have hp := List.pairwise_iff_getElem.1 (bits_sorted (s := s) l.length 0) (i - 1) i (by omega) hi (by omega)
            have e' : (bitsFrom s 0 l.length).getD (i - 1) 0 = (bitsFrom s 0 l.length)[i - 1] := by simp [List.getD_eq_getElem?_getD, show i - 1 < (bitsFrom s 0 l.length).length by omega]
            rw [e', decide_eq_true (show (bitsFrom s 0 l.length)[i - 1] < (j : Int) by rw [← hje]; exact hp), Bool.or_true]
        · rw [allFrom_iff] at hfj ⊢
          intro q h1 h2
          have hq := hfj q h1 h2
          unfold needAtC
          rw [has_mem, hin]
          have hn := (j2 j hjl).2.2 q (by omega)
          unfold bitAt at hq
          exact ⟨_, by omega, by omega, hq⟩
      · unfold mustAt
        have hfi := hf i (Nat.zero_le _) (by omega)
        unfold fineAt at hfi
        by_cases hb : s.testBit i = true
        · have : hasL (mkI (bitsFrom s 0 l.length)) i = true := has_mem.2 ((hin _).2 ⟨i, by omega, rfl, hb⟩)
          rw [this, Bool.or_true]
        · rw [if_neg hb] at hfi
          rw [hfi, Bool.true_or]
    · rintro ⟨hc, hm⟩ i _ hi
      unfold fineAt
      by_cases hb : s.testBit i = true
      · rw [if_pos hb, allFrom_iff]
        obtain ⟨q, hq, hqe⟩ := List.getElem_of_mem ((hin (i : Int)).2 ⟨i, by omega, rfl, hb⟩)
        have hcq := hc q (Nat.zero_le _) (by rw [len_mkI]; omega)
        unfold chAt at hcq
        simp only [ix_mkI] at hcq
        have e : (bitsFrom s 0 l.length).getD q 0 = (i : Int) := by rw [← hqe]; simp [List.getD_eq_getElem?_getD, hq]
        simp only [e, Int.toNat_natCast] at hcq
        rw [Bool.and_eq_true, allFrom_iff] at hcq
        intro p h1 h2
        have := hcq.2 p h1 h2
        unfold needAtC at this
        rw [has_mem, hin] at this
        obtain ⟨j, hjl, hje, hjb⟩ := this
        unfold bitAt
        rw [hje, Int.toNat_natCast]
        exact hjb
      · rw [if_neg hb]
        have := hm i (Nat.zero_le _) (by omega)
        unfold mustAt at this
        rw [Bool.or_eq_true] at this
        rcases this with h | h
        · exact h
        · rw [has_mem, hin] at h
          obtain ⟨j, hjl, hje, hjb⟩ := h
          obtain rfl : i = j := by omega
          exact absurd hjb hb
  unfold worthOk choiceOk
  rw [← key, worth_all]
  cases allFrom (fineAt l s) 0 l.length with
  | true => rfl
  | false => rfl
/-! ### Comparing -/
theorem cmp_of {a b : List (List D)} : ∀ k i, i + k = a.length → i ≤ b.length →
    (allFrom (eqAt a b) i (min a.length b.length - i) = true → cmpFrom a b i k = if b.length < a.length then 1 else 0) ∧
    (allFrom (eqAt a b) i (min a.length b.length - i) = false → cmpFrom a b i k ≠ 0 ∧ decide (cmpFrom a b i k < 0) = befAt a b i (min a.length b.length - i))
  | 0, i, h, hb => by
    rw [show min a.length b.length - i = 0 by omega]
    refine ⟨fun _ => ?_, fun hh => by cases hh⟩
    rw [if_neg (by omega)]
    rfl
  | k + 1, i, h, hb => by
    by_cases hbi : b.length ≤ i
    · have e : cmpFrom a b i (k + 1) = 1 := by simp only [cmpFrom]; rw [if_pos hbi]
      rw [e, show min a.length b.length - i = 0 by omega]
      refine ⟨fun _ => ?_, fun hh => by cases hh⟩
      rw [if_pos (by omega)]
    · rw [show min a.length b.length - i = (min a.length b.length - (i + 1)) + 1 by omega]
      have ih := cmp_of (a := a) (b := b) k (i + 1) (by omega) (by omega)
      rw [allS]
      by_cases he : ix (a.getD i []) 0 = ix (b.getD i []) 0
      · have e1 : eqAt a b i = true := decide_eq_true he
        have e2 : cmpI (ix (a.getD i []) 0) (ix (b.getD i []) 0) = 0 := by unfold cmpI; rw [if_neg (by omega), if_neg (by omega)]
        have e3 : cmpFrom a b i (k + 1) = cmpFrom a b (i + 1) k := by simp only [cmpFrom]; rw [if_neg hbi, if_neg (fun hh => hh e2)]
        have e4 : befAt a b i ((min a.length b.length - (i + 1)) + 1) = befAt a b (i + 1) (min a.length b.length - (i + 1)) := by simp only [befAt]; rw [if_pos he]
        rw [e1, e3, e4, Bool.true_and]
        exact ih
      · have e1 : eqAt a b i = false := decide_eq_false he
        have e4 : befAt a b i ((min a.length b.length - (i + 1)) + 1) = decide (ix (a.getD i []) 0 < ix (b.getD i []) 0) := by simp only [befAt]; rw [if_neg he]
        rw [e1, e4, Bool.false_and]
        refine ⟨fun hh => (by cases hh), fun _ => ?_⟩
        by_cases hlt : ix (a.getD i []) 0 < ix (b.getD i []) 0
        · have e2 : cmpI (ix (a.getD i []) 0) (ix (b.getD i []) 0) = -1 := by unfold cmpI; rw [if_pos hlt]
          have e3 : cmpFrom a b i (k + 1) = -1 := by simp only [cmpFrom]; rw [if_neg hbi, e2, if_pos (by decide)]
          rw [e3, decide_eq_true hlt]
          decide
        · have e2 : cmpI (ix (a.getD i []) 0) (ix (b.getD i []) 0) = 1 := by unfold cmpI; rw [if_neg hlt, if_pos (by omega)]
          have e3 : cmpFrom a b i (k + 1) = 1 := by simp only [cmpFrom]; rw [if_neg hbi, e2, if_pos (by decide)]
          rw [e3, decide_eq_false hlt]
          decide
theorem cmp_before (a b : List (List D)) : decide (cmpL a b < 0) = beforeL a b := by
  obtain ⟨h1, h2⟩ := cmp_of (a := a) (b := b) a.length 0 (by omega) (Nat.zero_le _)
  rw [Nat.sub_zero] at h1 h2
  unfold cmpL beforeL
  cases hc : allFrom (eqAt a b) 0 (min a.length b.length) with
  | true =>
    rw [h1 hc, if_pos rfl]
    by_cases hba : b.length < a.length
    · rw [if_pos hba, if_pos (by decide), decide_eq_false (show ¬ a.length < b.length by omega)]
      decide
    · rw [if_neg hba, if_neg (by decide)]
      by_cases hab : a.length < b.length
      · rw [if_pos hab, decide_eq_true hab]; decide
      · rw [if_neg hab, decide_eq_false hab]; decide
  | false =>
    obtain ⟨h3, h4⟩ := h2 hc
    rw [if_pos h3, h4, if_neg (by decide)]
theorem better_eq {l : List (List D)} {s s' : Nat} (hn : l.length ≤ 20) (hs : s < 2 ^ l.length) (hs' : s' < 2 ^ l.length) :
    betterB s (valFrom l (mkI (bitsFrom s 0 l.length)) 0 (mkI (bitsFrom s 0 l.length)).length) (minFrom l (mkI (bitsFrom s 0 l.length)) 0 (mkI (bitsFrom s 0 l.length)).length) s' (valFrom l (mkI (bitsFrom s' 0 l.length)) 0 (mkI (bitsFrom s' 0 l.length)).length) (minFrom l (mkI (bitsFrom s' 0 l.length)) 0 (mkI (bitsFrom s' 0 l.length)).length)
    = betterL l (mkI (bitsFrom s 0 l.length)) (mkI (bitsFrom s' 0 l.length)) := by
  unfold betterB betterL
  rw [cmp_before, bits_n hs hn, bits_n hs' hn]
  generalize valFrom l (mkI (bitsFrom s 0 l.length)) 0 (mkI (bitsFrom s 0 l.length)).length = v
  generalize valFrom l (mkI (bitsFrom s' 0 l.length)) 0 (mkI (bitsFrom s' 0 l.length)).length = v'
  generalize minFrom l (mkI (bitsFrom s 0 l.length)) 0 (mkI (bitsFrom s 0 l.length)).length = t
  generalize minFrom l (mkI (bitsFrom s' 0 l.length)) 0 (mkI (bitsFrom s' 0 l.length)).length = t'
  by_cases hv : v = v'
  · subst hv
    by_cases ht : t = t'
    · subst ht
      simp
    · simp [ht]
  · simp [hv]

/-! ### The two searches side by side -/
def Side (l : List (List D)) (b : Option (List D)) (c : Bool × List Int) : Prop := (b = none ∧ c = (false, [])) ∨ ∃ s, s < 2 ^ l.length ∧ c = (true, bitsFrom s 0 l.length) ∧
  b = some (rowS s (valFrom l (mkI (bitsFrom s 0 l.length)) 0 (mkI (bitsFrom s 0 l.length)).length) (minFrom l (mkI (bitsFrom s 0 l.length)) 0 (mkI (bitsFrom s 0 l.length)).length))
theorem side_step {l : List (List D)} (hj : jobsOk l = true) (m : Int) {s : Nat} (hs : s < 2 ^ l.length) {b : Option (List D)} {c : Bool × List Int} (h : Side l b c) : Side l (bestStep l m s b) (stepR l m s c) := by
  have hn := (jobs_of hj).1
  unfold bestStep stepR
  rw [← choice_eq hj]
  cases hw : worthOk l m s with
  | false => simpa using h
  | true =>
    have hwo : worthOf l s = (valFrom l (mkI (bitsFrom s 0 l.length)) 0 (mkI (bitsFrom s 0 l.length)).length, minFrom l (mkI (bitsFrom s 0 l.length)) 0 (mkI (bitsFrom s 0 l.length)).length, true) := by
      unfold worthOk at hw
      rw [Bool.and_eq_true] at hw
      rw [worth_all] at hw ⊢
      split
      · rfl
      · rename_i hc
        rw [if_neg hc] at hw
        exact absurd hw.1 (by decide)
    rw [hwo]
    simp only [if_true, Bool.true_and]
    rcases h with ⟨rfl, rfl⟩ | ⟨s', hs', rfl, rfl⟩
    · exact .inr ⟨s, hs, by simp, rfl⟩
    · have e : betterR (rowS s (valFrom l (mkI (bitsFrom s 0 l.length)) 0 (mkI (bitsFrom s 0 l.length)).length) (minFrom l (mkI (bitsFrom s 0 l.length)) 0 (mkI (bitsFrom s 0 l.length)).length)) (rowS s' (valFrom l (mkI (bitsFrom s' 0 l.length)) 0 (mkI (bitsFrom s' 0 l.length)).length) (minFrom l (mkI (bitsFrom s' 0 l.length)) 0 (mkI (bitsFrom s' 0 l.length)).length)) = betterL l (mkI (bitsFrom s 0 l.length)) (mkI (bitsFrom s' 0 l.length)) := by
        rw [← better_eq hn hs hs']
        rfl
      simp only [e, Bool.not_true, Bool.false_or]
      cases betterL l (mkI (bitsFrom s 0 l.length)) (mkI (bitsFrom s' 0 l.length)) with
      | true => exact .inr ⟨s, hs, by simp, by simp⟩
      | false => exact .inr ⟨s', hs', by simp, by simp⟩
theorem side_all {l : List (List D)} (hj : jobsOk l = true) (m : Int) : ∀ k s b c, s + k ≤ 2 ^ l.length → Side l b c → Side l (bestFrom l m s k b) (searchR l m s k c)
  | 0, _, _, _, _, h => h
  | k + 1, s, b, c, hk, h => side_all hj m k (s + 1) _ _ (by omega) (side_step hj m (by omega) h)
end Go.Proofs.Ytlofnkkokcihnaa
