/-
  The checks of plans and tables compute what their words say.
-/
import Derived.Test.YtipbcpobnciccaaTimTreeR
import Derived.Test.YtipbcpobnciccaaKnown
namespace Go.Proofs.Ytipbcpobnciccaa
open Go.Lite
set_option maxRecDepth 100000
set_option linter.unusedVariables false
theorem wayB_mk (a b c d e f g h : D) (first : Bool) (p : Int) : wayB (mk8 a b c d e f g h) first p = (decide ((1 ≤ a.I ∧ a.I ≤ 1000) ∧ (0 ≤ b.I ∧ b.I ≤ 600) ∧ (0 ≤ c.I ∧ c.I ≤ 600) ∧ (1 ≤ d.I ∧ d.I ≤ 60) ∧ (0 ≤ f.I ∧ f.I ≤ g.I) ∧ g.I ≤ 1000 ∧ h.L.length ≤ 10) &&
    ((if e.B then !first else (decide (f.I = 0 ∧ g.I = 0) && (first || decide (d.I = p)))) && hours h.L)) := rfl
theorem wayL_mk (w : List (List D)) (k : Nat) (first : Bool) (p : Int) : wayB (mk8 (.i (ix (w.getD k []) 0)) (.i (ix (w.getD k []) 1)) (.i (ix (w.getD k []) 2)) (.i (ix (w.getD k []) 3)) (.b (bx (w.getD k []) 4)) (.i (ix (w.getD k []) 5)) (.i (ix (w.getD k []) 6)) (.l (lx (w.getD k []) 7))) first p = wayB (w.getD k []) first p := rfl
theorem bne_t {a b : Int} (h : (a != b) = true) : a ≠ b := bne_iff_ne.1 h
theorem bne_f {a b : Int} (h : (a != b) = false) : a = b := by
  by_cases e : a = b
  · exact e
  · have := bne_iff_ne.2 e
    rw [h] at this
    cases this
theorem ok48 (n : Nat) : FnOK C (n + 1) 48 (mkF s48 G48) := by
  refine fn_ofS hC (sp := sp48) (lp := lp48) (sw := sw48) trivial trivial (by kernel_rfl) [] (by kernel_rfl) rfl (fun k hk => by cases hk) fun ds r h => ?_
  unfold G48 at h
  split at h
  · rename_i a b c
    refine (congrArg T.run (t48 a b c)).trans ?_
    rw [← h]
    refine go_if (fun h1 => ?_) fun h1 => ?_
    · rw [within_dec]
      simp only [run_leaf, show (b.I ≤ a.I ∧ a.I ≤ c.I) ↔ a.I ≤ c.I from ⟨fun h => h.2, fun h => ⟨h1, h⟩⟩]
    · rw [within_dec, decide_eq_false (fun h => h1 h.1)]
  · cases h
theorem ok54 (n : Nat) : FnOK C (n + 1) 54 (mkF s54 G54) := by
  refine fn_ofS hC (sp := sp54) (lp := lp54) (sw := sw54) trivial trivial (by kernel_rfl) [] (by kernel_rfl) rfl (fun k hk => by cases hk) fun ds r h => ?_
  unfold G54 at h
  split at h
  · rename_i a b c
    refine (congrArg T.run (t54 a b c)).trans ?_
    rw [← h]
    refine go_if (fun h1 => ?_) fun h1 => ?_
    · rw [within_dec]
      simp only [run_leaf, show (b.I ≤ a.I ∧ a.I ≤ c.I) ↔ a.I ≤ c.I from ⟨fun h => h.2, fun h => ⟨h1, h⟩⟩]
    · rw [within_dec, decide_eq_false (fun h => h1 h.1)]
  · cases h
theorem ok16 : FnOK C 12 16 (mkF s16 G16) := by
  intro args v hb h avs hv
  unfold mkF at h
  split at h
  · rename_i ds hds
    have ha : args = [] := by
      cases args with
      | nil => rfl
      | cons x y => simp [s16, fitsVs] at hds
    subst ha
    simp only [VRL] at hv
    subst hv
    simp only [s16, fitsVs, Option.some.injEq] at hds
    subst hds
    simp only [G16, T.run_map, run_leaf, Option.map_some, Option.some.injEq] at h
    obtain ⟨rfl, rfl⟩ := Prod.mk.inj h
    exact ⟨_, _, known0, rfl, rfl, fun i => by cases i <;> exact trivial⟩
  · cases h
theorem ok86 (n : Nat) : FnOK C (n + 2) 86 (mkF s86 G86) := by
  refine fn_ofS hC (sp := sp86) (lp := lp86) (sw := sw86) ⟨ok48 n, trivial⟩ trivial (by kernel_rfl) [] (by kernel_rfl) rfl (fun k hk => by cases hk) fun ds r h => ?_
  unfold G86 at h
  split at h
  · rename_i a b c
    refine (congrArg T.run (t86 a b c)).trans ?_
    rw [← h]
    simp only [within_dec]
    refine go_if (fun c1 => by rw [decide_eq_false (by omega)]; rfl) fun c1 => go_if (fun c2 => by rw [decide_eq_false (by omega)]; rfl) fun c2 => go_if (fun c3 => by rw [decide_eq_false (by omega)]; rfl) fun c3 => ?_
    by_cases c4 : 0 ≤ c.I ∧ c.I ≤ 200000
    · rw [decide_eq_true c4, decide_eq_true (by omega)]
    · rw [decide_eq_false c4, decide_eq_false (by omega)]
  · cases h
theorem hour_mk (l : List (List D)) (k : Nat) : (!decide ((0 ≤ (D.i (ix (l.getD k []) 0)).I ∧ (D.i (ix (l.getD k []) 0)).I ≤ (D.i (ix (l.getD k []) 1)).I) ∧ (D.i (ix (l.getD k []) 1)).I ≤ 200000 ∧ 0 ≤ (D.i (ix (l.getD k []) 2)).I ∧ (D.i (ix (l.getD k []) 2)).I ≤ 200000)) = !hourB l k := rfl
theorem ok88_2 (n : Nat) : LoopSim C (n + 2) 88 (loopOf C.P 88 2) (mkL l88_2 G88_2) := by
  refine loop_ofK hC (sp := sp88) (lp := lp88) (sw := sw88) ⟨ok86 n, trivial⟩ trivial 0 [] (by kernel_rfl) rfl (fun k hk => by cases hk) (by kernel_rfl) (fun ds => ((ds.getD 1 default).I - (ds.getD 2 default).I).toNat) fun ds rr h => ?_
  unfold G88_2 at h
  split at h
  · rename_i l m i
    obtain ⟨hp, h⟩ := need_some h
    rw [yes_iff] at hp
    obtain ⟨hl, hm, hi0, hi1⟩ := hp
    have hb := big_eq
    refine ⟨by rw [fuelC]; simp; omega, ?_⟩
    rw [show roundTK C (mkTab sp88 lp88 sw88) 88 (loopOf C.P 88 2) 0 l88_2 [l, m, i] = _ from t88_2 l m i]
    obtain ⟨k, hk⟩ : ∃ k : Nat, i.I = k := ⟨i.I.toNat, by omega⟩
    simp only [hk, hm, Int.toNat_natCast, Nat.reduceAdd, ix_def] at h hi0 hi1 ⊢
    refine rd_if (fun hlt => ?_) fun hge => rd_out (first_end h (by omega))
    obtain ⟨s1, s2⟩ := first_step h (by omega : k < l.L.length)
    refine rd_dec (by omega) (rd_ite (fun c => rd_out (s1 c)) fun c => ?_)
    rw [wrap_succ (by omega)]
    exact rd_again ((need_yes ⟨hl, rfl, by simp only [I_i]; omega, by simp only [I_i, L_l]; omega⟩).trans (s2 c)) (show ((l.L.length : Int) - ((k + 1 : Nat) : Int)).toNat < (m.I - i.I).toNat by omega)
  · cases h
theorem ok88 (n : Nat) : FnOK C (n + 3) 88 (mkF s88 G88) := by
  refine fn_ofS hC (sp := sp88) (lp := lp88) (sw := sw88) ⟨ok86 n, trivial⟩ trivial (by kernel_rfl) [2] (by kernel_rfl) (by kernel_rfl) (fun k hk L hL => by simp at hk; subst hk; cases hL; exact ok88_2 n) fun ds rr h => ?_
  unfold G88 at h
  split at h
  · rename_i l
    obtain ⟨hp, h⟩ := need_some h
    rw [yes_iff] at hp
    refine (congrArg T.run (t88 l)).trans ?_
    rw [← h]
    simp only [Int.toNat_zero, Nat.sub_zero]
    refine go_yes ⟨hp, trivial, by omega, by omega⟩ (go_if (fun c => rfl) fun c => ?_)
    rw [firstFrom_neg (by omega)]
  · cases h
theorem ok85 (n : Nat) : FnOK C (n + 4) 85 (mkF s85 G85) := by
  refine fn_ofS hC (sp := sp85) (lp := lp85) (sw := sw85) ⟨ok88 n, ok86 (n + 1), trivial⟩ trivial (by kernel_rfl) [] (by kernel_rfl) rfl (fun k hk => by cases hk) fun ds rr h => ?_
  unfold G85 at h
  split at h
  · rename_i l
    obtain ⟨hp, h⟩ := need_some h
    rw [yes_iff] at hp
    refine (congrArg T.run (t85 l)).trans ?_
    rw [← h]
    refine go_yes hp ?_
    rw [firstFrom_all]
    simp only [Bool.not_not]
    rfl
  · cases h
theorem ok71 (n : Nat) : FnOK C (n + 5) 71 (mkF s71 G71) := by
  have hb := big_eq
  refine fn_ofS hC (sp := sp71) (lp := lp71) (sw := sw71) ⟨ok48 (n + 3), ok85 n, trivial⟩ trivial (by kernel_rfl) [] (by kernel_rfl) rfl (fun k hk => by cases hk) fun ds rr hh => ?_
  unfold G71 at hh
  split at hh
  · rename_i a b c d e f g h
    refine (congrArg T.run (t71 a b c d e f g h)).trans ?_
    rw [← hh, wayB_mk]
    simp only [within_dec]
    refine go_not (fun c1 => ?_) fun c1 => go_not (fun c2 => ?_) fun c2 => go_not (fun c3 => ?_) fun c3 => go_not (fun c4 => ?_) fun c4 => go_not (fun c5 => ?_) fun c5 => go_not (fun c6 => ?_) fun c6 => go_if (fun c7 => by rw [decide_eq_false (by omega)]; rfl) fun c7 => ?_
    · have c1 := of_decide_eq_false c1
      rw [decide_eq_false (by omega)]; rfl
    · have c2 := of_decide_eq_false c2
      rw [decide_eq_false (by omega)]; rfl
    · have c3 := of_decide_eq_false c3
      rw [decide_eq_false (by omega)]; rfl
    · have c4 := of_decide_eq_false c4
      rw [decide_eq_false (by omega)]; rfl
    · have c5 := of_decide_eq_false c5
      rw [decide_eq_false (by omega)]; rfl
    · have c6 := of_decide_eq_false c6
      rw [decide_eq_false (by omega)]; rfl
    · have c1 := of_decide_eq_true c1
      have c2 := of_decide_eq_true c2
      have c3 := of_decide_eq_true c3
      have c4 := of_decide_eq_true c4
      have c5 := of_decide_eq_true c5
      have c6 := of_decide_eq_true c6
      rw [decide_eq_true (by omega), Bool.true_and]
      refine go_true rfl ?_
      cases he : e.B with
      | true => exact go_true rfl rfl
      | false =>
        refine go_false rfl (go_true rfl (go_ite (fun k1 => ?_) fun k1 => go_ite (fun k2 => ?_) fun k2 => go_false rfl (go_yes (by omega) ?_)))
        · rw [decide_eq_false fun h => bne_t k1 h.1]; rfl
        · rw [decide_eq_false fun h => bne_t k2 h.2]; rfl
        · rw [decide_eq_true ⟨bne_f k1, bne_f k2⟩, Bool.not_not]; rfl
  · cases hh
theorem ok1071 (n : Nat) : FnOK C (n + 5) 71 (mkF s1071 G1071) := by
  have hb := big_eq
  refine fn_ofS hC (sp := sp1071) (lp := lp1071) (sw := sw1071) ⟨ok48 (n + 3), ok85 n, trivial⟩ trivial (by kernel_rfl) [] (by kernel_rfl) rfl (fun k hk => by cases hk) fun ds rr hh => ?_
  unfold G1071 at hh
  split at hh
  · rename_i a b c d e f g h q1 q2 q3 p q5 q6 q7 q8
    refine (congrArg T.run (t1071 a b c d e f g h q1 q2 q3 p q5 q6 q7 q8)).trans ?_
    rw [← hh, wayB_mk]
    simp only [within_dec]
    refine go_not (fun c1 => ?_) fun c1 => go_not (fun c2 => ?_) fun c2 => go_not (fun c3 => ?_) fun c3 => go_not (fun c4 => ?_) fun c4 => go_not (fun c5 => ?_) fun c5 => go_not (fun c6 => ?_) fun c6 => go_if (fun c7 => by rw [decide_eq_false (by omega)]; rfl) fun c7 => ?_
    · have c1 := of_decide_eq_false c1
      rw [decide_eq_false (by omega)]; rfl
    · have c2 := of_decide_eq_false c2
      rw [decide_eq_false (by omega)]; rfl
    · have c3 := of_decide_eq_false c3
      rw [decide_eq_false (by omega)]; rfl
    · have c4 := of_decide_eq_false c4
      rw [decide_eq_false (by omega)]; rfl
    · have c5 := of_decide_eq_false c5
      rw [decide_eq_false (by omega)]; rfl
    · have c6 := of_decide_eq_false c6
      rw [decide_eq_false (by omega)]; rfl
    · have c1 := of_decide_eq_true c1
      have c2 := of_decide_eq_true c2
      have c3 := of_decide_eq_true c3
      have c4 := of_decide_eq_true c4
      have c5 := of_decide_eq_true c5
      have c6 := of_decide_eq_true c6
      rw [decide_eq_true (by omega), Bool.true_and]
      refine go_false rfl ?_
      cases he : e.B with
      | true =>
        refine go_false rfl (go_yes (by omega) ?_)
        rw [Bool.not_not]; rfl
      | false =>
        refine go_true rfl (go_ite (fun k1 => ?_) fun k1 => go_ite (fun k2 => ?_) fun k2 => go_true rfl (go_ite (fun k3 => ?_) fun k3 => go_yes (by omega) ?_))
        · rw [decide_eq_false fun h => bne_t k1 h.1]; rfl
        · rw [decide_eq_false fun h => bne_t k2 h.2]; rfl
        · rw [decide_eq_true ⟨bne_f k1, bne_f k2⟩, decide_eq_false (bne_t k3)]; rfl
        · rw [decide_eq_true ⟨bne_f k1, bne_f k2⟩, decide_eq_true (bne_f k3), Bool.not_not]; rfl
  · cases hh
def mu41 : List D → Nat
  | [_, _, m, i, _, _, _] => (m.I - i.I).toNat
  | [_, _, _, _, _, _, _, _, _, _, m, i, _, _, _] => (m.I - i.I).toNat
  | _ => 0
theorem ok41_5 (n : Nat) : LoopSim C (n + 5) 41 (loopOf C.P 41 5) (mkL l41_5 G41_5) := by
  refine loop_ofK hC (sp := sp41) (lp := lp41) (sw := sw41) ⟨ok48 (n + 4), fn_two (ok71 n) (ok1071 n), trivial⟩ trivial 0 [] (by kernel_rfl) rfl (fun k hk => by cases hk) (by kernel_rfl) mu41 fun ds rr hh => ?_
  unfold G41_5 at hh
  split at hh
  · rename_i j w m i x y w'
    obtain ⟨hp, hh⟩ := need_some hh
    rw [yes_iff] at hp
    obtain ⟨hj, hw, hl, hm, hi⟩ := hp
    refine ⟨by rw [fuelC]; show (m.I - i.I).toNat < _; omega, ?_⟩
    rw [roundTK_head (j := j) (n := 0) hj (by decide), show roundTK C (mkTab sp41 lp41 sw41) 41 (loopOf C.P 41 5) 0 l41_5 [.i 0, w, m, i, x, y, w'] = _ from t41_5_0 w m i x y w']
    simp only [hi, hm, hw, Int.toNat_zero, Nat.reduceAdd, ix_def, bx_def, lx_def, wayL_mk] at hh ⊢
    refine rd_if (fun hlt => ?_) fun hge => ?_
    · have hkl : 0 < w.L.length := by omega
      rw [show w.L.length = w.L.length - 0 by omega] at hh
      obtain ⟨s1, s2⟩ := all_step hh hkl
      refine rd_dec (by omega) (rd_not (fun c => rd_out (s1 ?_)) fun c => rd_dec (by omega) ?_)
      · exact c
      · have hw1 : IntKind.i64.wrap (0 + 1) = ((0 + 1 : Nat) : Int) := by rw [wrap_id (by omega) (by omega)]; rfl
        rw [hw1]
        exact rd_again ((need_yes ⟨rfl, rfl, hl, rfl, by simp only [I_i]; omega, by simp only [I_i, L_l]; omega, rfl⟩).trans (s2 c)) (show ((w.L.length : Int) - ((0 + 1 : Nat) : Int)).toNat < (m.I - i.I).toNat by omega)
    · rw [show w.L.length = 0 by omega] at hh
      exact rd_out hh
  · rename_i j g1 g2 g3 g g5 g6 g7 g8 w m i x y w'
    obtain ⟨hp, hh⟩ := need_some hh
    rw [yes_iff] at hp
    obtain ⟨hj, hw, hl, hm, hi0, hi1, hg⟩ := hp
    refine ⟨by rw [fuelC]; show (m.I - i.I).toNat < _; omega, ?_⟩
    rw [roundTK_head (j := j) (n := 1) hj (by decide), show roundTK C (mkTab sp41 lp41 sw41) 41 (loopOf C.P 41 5) 0 l41_5 [.i 1, g1, g2, g3, g, g5, g6, g7, g8, w, m, i, x, y, w'] = _ from t41_5_1 g1 g2 g3 g g5 g6 g7 g8 w m i x y w']
    obtain ⟨k, hk⟩ : ∃ k : Nat, i.I = ((k + 1 : Nat) : Int) := ⟨i.I.toNat - 1, by omega⟩
    have hi1' : k + 1 ≤ w.L.length := by omega
    simp only [hk, hm, hw, hg, Int.toNat_natCast, Nat.reduceAdd, Nat.add_sub_cancel, ix_def, bx_def, lx_def, wayL_mk] at hh ⊢
    refine rd_if (fun hlt => ?_) fun hge => ?_
    · have hkl : k + 1 < w.L.length := by omega
      obtain ⟨s1, s2⟩ := all_step hh hkl
      refine rd_dec (by omega) (rd_not (fun c => rd_out (s1 ?_)) fun c => rd_dec (by omega) ?_)
      · exact c
      · rw [wrap_succ (by omega)]
        exact rd_again ((need_yes ⟨rfl, rfl, hl, rfl, by simp only [I_i]; omega, by simp only [I_i, L_l]; omega, rfl⟩).trans (s2 c)) (show ((w.L.length : Int) - ((k + 1 + 1 : Nat) : Int)).toNat < (m.I - i.I).toNat by omega)
    · rw [show w.L.length - (k + 1) = 0 by omega] at hh
      exact rd_out hh
  · cases hh
theorem ok41 (n : Nat) : FnOK C (n + 6) 41 (mkF s41 G41) := by
  refine fn_ofS hC (sp := sp41) (lp := lp41) (sw := sw41) ⟨ok48 (n + 4), fn_two (ok71 n) (ok1071 n), trivial⟩ trivial (by kernel_rfl) [5] (by kernel_rfl) (by kernel_rfl) (fun k hk L hL => by simp at hk; subst hk; cases hL; exact ok41_5 n) fun ds rr h => ?_
  unfold G41 at h
  split at h
  · rename_i c f w
    refine (congrArg T.run (t41 c f w)).trans ?_
    rw [← h]
    have hH : ∀ b : Bool, planH c.I f.I w.L = b → planB c.I f.I w.L = (b && allFrom (wayL w.L) 0 w.L.length) := fun b e => by unfold planB; rw [e]
    have f1 : ¬ ((1 ≤ c.I ∧ c.I ≤ 200) ∧ (1 ≤ w.L.length ∧ w.L.length ≤ 60) ∧ 0 ≤ f.I ∧ f.I ≤ 100000) → planB c.I f.I w.L = false := fun h => hH false (decide_eq_false h)
    simp only [within_dec]
    refine go_not (fun c1 => ?_) fun c1 => go_not (fun c2 => ?_) fun c2 => go_not (fun c3 => ?_) fun c3 => ?_
    · have c1 := of_decide_eq_false c1
      rw [f1 (by omega)]; rfl
    · have c2 := of_decide_eq_false c2
      rw [f1 (by omega)]; rfl
    · have c3 := of_decide_eq_false c3
      rw [f1 (by omega)]; rfl
    · have c1 := of_decide_eq_true c1
      have c2 := of_decide_eq_true c2
      have c3 := of_decide_eq_true c3
      rw [hH true (decide_eq_true (by omega)), Bool.true_and]
      exact go_yes ⟨trivial, trivial, by omega, trivial, trivial⟩ (go_ite (fun c => by rw [c]; rfl) fun c => by rw [c]; rfl)
  · cases h
theorem ok84 (n : Nat) : FnOK C (n + 2) 84 (mkF s84 G84) := by
  refine fn_ofS hC (sp := sp84) (lp := lp84) (sw := sw84) ⟨ok48 n, trivial⟩ trivial (by kernel_rfl) [] (by kernel_rfl) rfl (fun k hk => by cases hk) fun ds r h => ?_
  unfold G84 at h
  split at h
  · rename_i t
    exact (congrArg T.run (t84 t)).trans h
  · cases h
theorem ok87 (n : Nat) : FnOK C (n + 3) 87 (mkF s87 G87) := by
  refine fn_ofS hC (sp := sp87) (lp := lp87) (sw := sw87) ⟨ok84 n, trivial⟩ trivial (by kernel_rfl) [] (by kernel_rfl) rfl (fun k hk => by cases hk) fun ds r h => ?_
  unfold G87 at h
  split at h
  · rename_i t
    exact (congrArg T.run (t87 t)).trans h
  · cases h
theorem time_dec (l : List (List D)) (k : Nat) : timeL l k = within (rg l k) 0 1000000000 := by unfold timeL; rw [within_dec]
theorem ok2080_2 (n : Nat) : LoopSim C (n + 3) 80 (loopOf C.P 80 2) (mkL l2080_2 G2080_2) := by
  refine loop_ofK hC (sp := sp2080) (lp := lp2080) (sw := sw2080) ⟨ok87 n, ok84 (n + 1), trivial⟩ trivial 0 [] (by kernel_rfl) rfl (fun k hk => by cases hk) (by kernel_rfl) (fun ds => ((ds.getD 1 default).I - (ds.getD 2 default).I).toNat) fun ds rr h => ?_
  unfold G2080_2 at h
  split at h
  · rename_i l m i
    obtain ⟨hp, h⟩ := need_some h
    rw [yes_iff] at hp
    obtain ⟨hl, hm, hi0, hi1⟩ := hp
    have hb := big_eq
    refine ⟨by rw [fuelC]; simp; omega, ?_⟩
    rw [show roundTK C (mkTab sp2080 lp2080 sw2080) 80 (loopOf C.P 80 2) 0 l2080_2 [l, m, i] = _ from t2080_2 l m i]
    obtain ⟨k, hk⟩ : ∃ k : Nat, i.I = k := ⟨i.I.toNat, by omega⟩
    simp only [hk, hm, Int.toNat_natCast, rg_def] at h hi0 hi1 ⊢
    refine rd_if (fun hlt => ?_) fun hge => rd_out (first_end h (by omega))
    obtain ⟨s1, s2⟩ := first_step h (by omega : k < l.L.length)
    refine rd_dec (by omega) (rd_ite (fun c => rd_out (s1 (by rw [time_dec]; exact c))) fun c => ?_)
    rw [wrap_succ (by omega)]
    exact rd_again ((need_yes ⟨hl, rfl, by simp only [I_i]; omega, by simp only [I_i, L_l]; omega⟩).trans (s2 (by rw [time_dec]; exact c))) (show ((l.L.length : Int) - ((k + 1 : Nat) : Int)).toNat < (m.I - i.I).toNat by omega)
  · cases h
theorem ok2080 (n : Nat) : FnOK C (n + 4) 80 (mkF s2080 G2080) := by
  refine fn_ofS hC (sp := sp2080) (lp := lp2080) (sw := sw2080) ⟨ok87 n, ok84 (n + 1), trivial⟩ trivial (by kernel_rfl) [2] (by kernel_rfl) (by kernel_rfl) (fun k hk L hL => by simp at hk; subst hk; cases hL; exact ok2080_2 n) fun ds rr h => ?_
  unfold G2080 at h
  split at h
  · rename_i l
    obtain ⟨hp, h⟩ := need_some h
    rw [yes_iff] at hp
    refine (congrArg T.run (t2080 l)).trans ?_
    rw [← h]
    simp only [Int.toNat_zero, Nat.sub_zero]
    refine go_yes ⟨hp, trivial, by omega, by omega⟩ (go_if (fun c => rfl) fun c => ?_)
    rw [firstFrom_neg (by omega)]
  · cases h
theorem ok2061 (n : Nat) : FnOK C (n + 5) 61 (mkF s2061 G2061) := by
  refine fn_ofS hC (sp := sp2061) (lp := lp2061) (sw := sw2061) ⟨ok2080 n, ok87 (n + 1), ok84 (n + 2), trivial⟩ trivial (by kernel_rfl) [] (by kernel_rfl) rfl (fun k hk => by cases hk) fun ds rr h => ?_
  unfold G2061 at h
  split at h
  · rename_i l
    obtain ⟨hp, h⟩ := need_some h
    rw [yes_iff] at hp
    refine (congrArg T.run (t2061 l)).trans ?_
    rw [← h]
    refine go_yes hp ?_
    rw [firstFrom_all]
    simp only [Bool.not_not]
  · cases h
theorem ok83 (n : Nat) : FnOK C (n + 6) 83 (mkF s83 G83) := by
  refine fn_ofS hC (sp := sp83) (lp := lp83) (sw := sw83) ⟨ok2061 n, ok84 (n + 3), ok87 (n + 2), trivial⟩ trivial (by kernel_rfl) [] (by kernel_rfl) rfl (fun k hk => by cases hk) fun ds rr h => ?_
  unfold G83 at h
  split at h
  · rename_i l
    obtain ⟨hp, h⟩ := need_some h
    rw [yes_iff] at hp
    refine (congrArg T.run (t83 l)).trans ?_
    rw [← h, Bool.not_not]
    exact go_yes hp rfl
  · cases h
theorem ok70 (n : Nat) : FnOK C (n + 7) 70 (mkF s70 G70) := by
  refine fn_ofS hC (sp := sp70) (lp := lp70) (sw := sw70) ⟨ok83 n, trivial⟩ trivial (by kernel_rfl) [] (by kernel_rfl) rfl (fun k hk => by cases hk) fun ds rr h => ?_
  unfold G70 at h
  split at h
  · rename_i l m
    obtain ⟨hp, h⟩ := need_some h
    rw [yes_iff] at hp
    refine (congrArg T.run (t70 l m)).trans ?_
    rw [← h]
    unfold timedB
    refine go_ite (fun c => go_yes hp ?_) fun c => ?_
    · rw [decide_eq_true (eq_of_beq c), Bool.true_and]
    · rw [decide_eq_false (ne_of_beq_false c)]; rfl
  · cases h
theorem way_of {c f : Int} {w : List (List D)} (h : planB c f w = true) {k : Nat} (hk : k < w.length) : wayC (w.getD k []) = true ∧ hours (lx (w.getD k []) 7) = true := by
  unfold planB at h
  rw [Bool.and_eq_true, allFrom_iff] at h
  have := h.2 k (Nat.zero_le _) (by omega)
  unfold wayL wayB at this
  rw [Bool.and_eq_true, Bool.and_eq_true] at this
  exact ⟨this.1, this.2.2⟩
theorem plan_of {c f : Int} {w : List (List D)} (h : planB c f w = true) : (1 ≤ c ∧ c ≤ 200) ∧ (1 ≤ w.length ∧ w.length ≤ 60) ∧ 0 ≤ f ∧ f ≤ 100000 := by
  unfold planB planH at h
  rw [Bool.and_eq_true, decide_eq_true_iff] at h
  exact h.1
theorem wayC_of {c : List D} (h : wayC c = true) : (1 ≤ ix c 0 ∧ ix c 0 ≤ 1000) ∧ (0 ≤ ix c 1 ∧ ix c 1 ≤ 600) ∧ (0 ≤ ix c 2 ∧ ix c 2 ≤ 600) ∧ (1 ≤ ix c 3 ∧ ix c 3 ≤ 60) ∧ (0 ≤ ix c 5 ∧ ix c 5 ≤ ix c 6) ∧ ix c 6 ≤ 1000 ∧ (lx c 7).length ≤ 10 := of_decide_eq_true h
theorem span_of {c f : Int} {w : List (List D)} (h : planB c f w = true) {k : Nat} (hk : k < w.length) : 0 ≤ spanF c (w.getD k []) ∧ spanF c (w.getD k []) ≤ 12000 := by
  have h1 := (plan_of h).1
  have h2 := (wayC_of (way_of h hk).1).2.2.2.1
  unfold spanF
  constructor
  · exact Int.mul_nonneg (by omega) (by omega)
  · have := Int.mul_le_mul (show c - 1 ≤ 200 by omega) (show ix (w.getD k []) 3 ≤ 60 by omega) (by omega) (by omega)
    omega
theorem ok73 (n : Nat) : FnOK C (n + 1) 73 (mkF s73 G73) := by
  refine fn_ofS hC (sp := sp73) (lp := lp73) (sw := sw73) trivial trivial (by kernel_rfl) [] (by kernel_rfl) rfl (fun k hk => by cases hk) fun ds rr h => ?_
  unfold G73 at h
  split at h
  · rename_i c f w j
    obtain ⟨hp, h⟩ := need_some h
    rw [yes_iff] at hp
    refine (congrArg T.run (t73 c f w j)).trans (go_dec ⟨hp.2.1, hp.2.2⟩ ?_)
    rw [← h]
    have h1 := plan_of hp.1
    have h2 := span_of hp.1 (k := j.I.toNat) (by omega)
    have h3 := wayC_of (way_of hp.1 (k := j.I.toNat) (by omega)).1
    unfold busyF
    unfold spanF at h2 ⊢
    simp only [Nat.reduceAdd, ix_def]
    rw [wrap_id (x := c.I - 1) (by omega) (by omega), wrap_id (x := (c.I - 1) * ix (w.L.getD j.I.toNat []) 3) (by omega) (by omega), wrap_id (x := (c.I - 1) * ix (w.L.getD j.I.toNat []) 3 + ix (w.L.getD j.I.toNat []) 0) (by omega) (by omega), wrap_id (by omega) (by omega)]
  · cases h
theorem ok60 (n : Nat) : FnOK C (n + 1) 60 (mkF s60 G60) := by
  refine fn_ofS hC (sp := sp60) (lp := lp60) (sw := sw60) trivial trivial (by kernel_rfl) [] (by kernel_rfl) rfl (fun k hk => by cases hk) fun ds rr h => ?_
  unfold G60 at h
  split at h
  · rename_i c f w j
    obtain ⟨hp, h⟩ := need_some h
    rw [yes_iff] at hp
    refine (congrArg T.run (t60 c f w j)).trans (go_dec ⟨hp.2.1, hp.2.2⟩ ?_)
    rw [← h]
    have h1 := plan_of hp.1
    have h2 := span_of hp.1 (k := j.I.toNat) (by omega)
    unfold spanF at h2 ⊢
    simp only [Nat.reduceAdd, ix_def]
    rw [wrap_id (x := c.I - 1) (by omega) (by omega), wrap_id (by omega) (by omega)]
  · cases h
theorem ok59_2 (n : Nat) : LoopSim C (n + 1) 59 (loopOf C.P 59 2) (mkL l59_2 G59_2) := by
  refine loop_ofK hC (sp := sp59) (lp := lp59) (sw := sw59) ⟨ok54 n, trivial⟩ trivial 0 [] (by kernel_rfl) rfl (fun k hk => by cases hk) (by kernel_rfl) (fun ds => (((ds.getD 0 default).L.length : Int) - (ds.getD 2 default).I).toNat) fun ds rr h => ?_
  unfold G59_2 at h
  split at h
  · rename_i l m i
    obtain ⟨hp, h⟩ := need_some h
    rw [yes_iff] at hp
    obtain ⟨hl, hi0, hi1⟩ := hp
    have hb := big_eq
    refine ⟨by rw [fuelC]; simp; omega, ?_⟩
    rw [show roundTK C (mkTab sp59 lp59 sw59) 59 (loopOf C.P 59 2) 0 l59_2 [l, m, i] = _ from t59_2 l m i]
    obtain ⟨k, hk⟩ : ∃ k : Nat, i.I = k := ⟨i.I.toNat, by omega⟩
    simp only [hk, Int.toNat_natCast, rg_def] at h hi0 hi1 ⊢
    refine rd_if (fun hlt => ?_) fun hge => rd_out (all_end h (by omega))
    obtain ⟨s1, s2⟩ := all_step h (by omega : k < l.L.length)
    refine rd_dec (by omega) (rd_not (fun c => rd_out (s1 (by rw [time_dec]; exact c))) fun c => ?_)
    rw [wrap_succ (by omega)]
    exact rd_again ((need_yes ⟨hl, by simp only [I_i]; omega, by simp only [I_i, L_l]; omega⟩).trans (s2 (by rw [time_dec]; exact c))) (show ((l.L.length : Int) - ((k + 1 : Nat) : Int)).toNat < ((l.L.length : Int) - i.I).toNat by omega)
  · cases h
theorem ok59 (n : Nat) : FnOK C (n + 2) 59 (mkF s59 G59) := by
  refine fn_ofS hC (sp := sp59) (lp := lp59) (sw := sw59) ⟨ok54 n, trivial⟩ trivial (by kernel_rfl) [2] (by kernel_rfl) (by kernel_rfl) (fun k hk L hL => by simp at hk; subst hk; cases hL; exact ok59_2 n) fun ds rr h => ?_
  unfold G59 at h
  split at h
  · rename_i l m
    obtain ⟨hp, h⟩ := need_some h
    rw [yes_iff] at hp
    refine (congrArg T.run (t59 l m)).trans ?_
    rw [← h]
    unfold timedB
    simp only [Int.toNat_zero, Nat.sub_zero]
    refine go_yes ⟨hp, by omega, by omega⟩ (go_ite (fun c => ?_) fun c => by rw [c, Bool.and_false])
    rw [c, Bool.and_true]
    by_cases e : (l.L.length : Int) = m.I
    · rw [decide_eq_true e, beq_iff_eq.2 e]
    · rw [decide_eq_false e, beq_eq_false_iff_ne.2 e]
  · cases h
theorem ok25_4 (n : Nat) : LoopSim C n 25 (loopOf C.P 25 4) (mkL l25_4 G25_4) := by
  refine loop_ofK hC (sp := sp25) (lp := lp25) (sw := sw25) trivial trivial 0 [] (by kernel_rfl) rfl (fun k hk => by cases hk) (by kernel_rfl) (fun ds => (((ds.getD 3 default).L.length : Int) - (ds.getD 0 default).I).toNat) fun ds rr h => ?_
  unfold G25_4 at h
  split at h
  · rename_i i a b w
    obtain ⟨hp, h⟩ := need_some h
    rw [yes_iff] at hp
    obtain ⟨hl, hi0, hi1⟩ := hp
    refine ⟨by rw [fuelC]; simp; omega, ?_⟩
    rw [show roundTK C (mkTab sp25 lp25 sw25) 25 (loopOf C.P 25 4) 0 l25_4 [i, a, b, w] = _ from t25_4 i a b w]
    obtain ⟨k, hk⟩ : ∃ k : Nat, i.I = k := ⟨i.I.toNat, by omega⟩
    simp only [hk, Int.toNat_natCast, Nat.reduceAdd, lx_def] at h hi0 hi1 ⊢
    refine rd_if (fun hlt => ?_) fun hge => rd_out (all_end h (by omega))
    obtain ⟨s1, s2⟩ := all_step h (by omega : k < w.L.length)
    have e0 : fewW w.L k = decide ((lx (w.L.getD k []) 7).length ≤ 12 ∧ (2 < k → (lx (w.L.getD k []) 7).length ≤ 3)) := rfl
    rw [e0] at s1 s2
    have hmu : ((w.L.length : Int) - ((k + 1 : Nat) : Int)).toNat < ((w.L.length : Int) - i.I).toNat := by omega
    rw [wrap_succ (by omega)]
    exact rd_dec (by omega) (rd_if (fun c1 => rd_out (s1 (decide_eq_false (by omega)))) fun c1 => rd_if (fun c2 => rd_dec (by omega) (rd_if (fun c3 => rd_out (s1 (decide_eq_false (by omega)))) fun c3 =>
      rd_again ((need_yes ⟨hl, by simp only [I_i]; omega, by simp only [I_i, L_l]; omega⟩).trans (s2 (decide_eq_true (by omega)))) hmu)) fun c2 => rd_again ((need_yes ⟨hl, by simp only [I_i]; omega, by simp only [I_i, L_l]; omega⟩).trans (s2 (decide_eq_true (by omega)))) hmu)
  · cases h
theorem ok25 (n : Nat) : FnOK C (n + 1) 25 (mkF s25 G25) := by
  refine fn_ofS hC (sp := sp25) (lp := lp25) (sw := sw25) trivial trivial (by kernel_rfl) [4] (by kernel_rfl) (by kernel_rfl) (fun k hk L hL => by simp at hk; subst hk; cases hL; exact ok25_4 n) fun ds rr h => ?_
  unfold G25 at h
  split at h
  · rename_i a b w
    refine (congrArg T.run (t25 a b w)).trans ?_
    rw [← h]
    unfold smallP
    simp only [Int.toNat_zero, Nat.sub_zero]
    refine go_if (fun c => by rw [decide_eq_false (by omega)]; rfl) fun c => go_yes ⟨by omega, by omega, by omega⟩ ?_
    rw [decide_eq_true (by omega), Bool.true_and]
    exact go_ite (fun c => by rw [c]) fun c => by rw [c]
  · cases h
theorem ok37 (n : Nat) : FnOK C (n + 1) 37 (mkF s37 G37) := by
  refine fn_ofS hC (sp := sp37) (lp := lp37) (sw := sw37) trivial trivial (by kernel_rfl) [] (by kernel_rfl) rfl (fun k hk => by cases hk) fun ds rr h => ?_
  unfold G37 at h
  split at h
  · rename_i a b c d
    refine (congrArg T.run (t37 a b c d)).trans ?_
    rw [← h]
    unfold briefT
    refine go_if (fun c1 => go_if (fun c2 => go_if (fun c3 => ?_) fun c3 => by rw [decide_eq_false (by omega)]) fun c2 => by rw [decide_eq_false (by omega)]) fun c1 => by rw [decide_eq_false (by omega)]
    by_cases c4 : d.L.length ≤ 12
    · rw [decide_eq_true (by omega), decide_eq_true (by omega)]
    · rw [decide_eq_false (by omega), decide_eq_false (by omega)]
  · cases h
end Go.Proofs.Ytipbcpobnciccaa
