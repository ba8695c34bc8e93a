/-
  The document's functions about networks, and the program's check, compute what their words say.
-/
import Derived.Test.YtgmefblkmidglaaResPC
import Derived.Test.YtgmefblkmidglaaResTreeC
namespace Go.Proofs.Ytgmefblkmidglaa
open Go.Lite
set_option maxRecDepth 100000
theorem bnot_t {b : Bool} (h : (!b) = true) : b = false := by cases b; rfl; cases h
theorem bnot_f {b : Bool} (h : (!b) = false) : b = true := by cases b; cases h; rfl
theorem ok47 (n : Nat) : FnOK C (n + 1) 47 (mkF s47 G47) := by
  refine fn_ofS hC (sp := sp47) (lp := lp47) (sw := sw47) trivial trivial (by kernel_rfl) [] (by kernel_rfl) rfl (fun k hk => by cases hk) fun ds r h => ?_
  unfold G47 at h
  split at h
  · rename_i a b c
    cases h
    refine (congrArg T.run (t47 a b c)).trans (go_if (fun h1 => ?_) fun h1 => ?_)
    · rw [within_dec]
      simp only [run_leaf, show (b.I ≤ a.I ∧ a.I ≤ c.I) ↔ a.I ≤ c.I from ⟨fun h => h.2, fun h => ⟨h1, h⟩⟩]
    · rw [within_dec, decide_eq_false (fun h => h1 h.1)]
      rfl
  · cases h
theorem ok25_2 (n : Nat) : LoopSim C n 25 (loopOf C.P 25 2) (mkL l25_2 G25_2) := by
  refine loop_ofK hC (sp := sp25) (lp := lp25) (sw := sw25) trivial trivial 0 [] (by kernel_rfl) rfl (fun k hk => by cases hk) (by kernel_rfl) (fun ds => (((ds.getD 5 default).L.length : Int) - (ds.getD 1 default).I).toNat) fun ds rr h => ?_
  unfold G25_2 at h
  split at h
  · rename_i s i a b c l
    obtain ⟨hp, h⟩ := need_some h
    rw [yes_iff] at hp
    obtain ⟨hc, hs, hl, hi0, hi1⟩ := hp
    have hb := big_eq
    have hll := hl.1
    refine ⟨by rw [fuelC]; simp; omega, ?_⟩
    rw [show roundTK C (mkTab sp25 lp25 sw25) 25 (loopOf C.P 25 2) 0 l25_2 [s, i, a, b, c, l] = _ from t25_2 s i a b c l]
    obtain ⟨j, hj⟩ : ∃ j : Nat, i.I = j := ⟨i.I.toNat, by omega⟩
    simp only [hj, Int.toNat_natCast, Nat.reduceAdd, ix_def] at h hi0 hi1 ⊢
    have hcj := hl.2 j
    unfold okS at hs
    unfold okT at hc
    have hmu : j < l.L.length → ((l.L.length : Int) - ((j + 1 : Nat) : Int)).toNat < ((l.L.length : Int) - i.I).toNat := fun _ => by rw [hj]; omega
    refine rd_if (fun hlt => ?_) fun hge => ?_
    · rw [entF_step (by omega)] at h
      rw [wrap_id (by omega) (by omega), wrap_succ (by omega)]
      refine rd_dec (by omega) (rd_if (fun c1 => rd_if (fun c2 => ?_) fun c2 => ?_) fun c1 => ?_)
      · rw [if_pos ⟨c1, c2⟩] at h
        exact rd_again ((need_yes ⟨hc, okS_of hl, hl, by simp only [I_i]; omega, by simp only [I_i, L_l]; omega⟩).trans h) (hmu (by omega))
      · rw [if_neg (fun h => c2 h.2)] at h
        exact rd_again ((need_yes ⟨hc, hs, hl, by simp only [I_i]; omega, by simp only [I_i, L_l]; omega⟩).trans h) (hmu (by omega))
      · rw [if_neg (fun h => c1 h.1)] at h
        exact rd_again ((need_yes ⟨hc, hs, hl, by simp only [I_i]; omega, by simp only [I_i, L_l]; omega⟩).trans h) (hmu (by omega))
    · rw [show l.L.length - j = 0 by omega] at h
      exact rd_out h
  · cases h
theorem ok25 (n : Nat) : FnOK C (n + 1) 25 (mkF s25 G25) := by
  refine fn_ofS hC (sp := sp25) (lp := lp25) (sw := sw25) trivial trivial (by kernel_rfl) [2] (by kernel_rfl) (by kernel_rfl) (fun k hk L hL => by
    simp at hk; subst hk; cases hL; exact ok25_2 n) fun ds r h => ?_
  unfold G25 at h
  split at h
  · rename_i a b c l s
    obtain ⟨hp, h⟩ := need_some h
    rw [yes_iff] at hp
    obtain ⟨hc, hs, hl⟩ := hp
    exact (congrArg T.run (t25 a b c l s)).trans (go_yes ⟨hc, hs, hl, by omega, by omega⟩ h)
  · cases h

/-! ### Closings and roads -/
theorem ok48_4 (n : Nat) : LoopSim C (n + 1) 48 (loopOf C.P 48 4) (mkL l48_4 G48_4) := by
  refine loop_ofK hC (sp := sp48) (lp := lp48) (sw := sw48) ⟨ok47 n, trivial⟩ trivial 0 [] (by kernel_rfl) rfl (fun k hk => by cases hk) (by kernel_rfl) (fun ds => (((ds.getD 4 default).L.length : Int) - (ds.getD 0 default).I).toNat) fun ds rr h => ?_
  unfold G48_4 at h
  split at h
  · rename_i i a b c l
    obtain ⟨hp, h⟩ := need_some h
    rw [yes_iff] at hp
    obtain ⟨h1, hi0, hi1⟩ := hp
    refine ⟨by rw [fuelC]; simp; omega, ?_⟩
    rw [show roundTK C (mkTab sp48 lp48 sw48) 48 (loopOf C.P 48 4) 0 l48_4 [i, a, b, c, l] = _ from t48_4 i a b c l]
    obtain ⟨j, hj⟩ : ∃ j : Nat, i.I = j := ⟨i.I.toNat, by omega⟩
    simp only [hj, Int.toNat_natCast, Nat.reduceAdd, ix_def] at h hi0 hi1 ⊢
    refine rd_if (fun hlt => ?_) fun hge => rd_out (all_end h (by omega))
    obtain ⟨s1, s2⟩ := all_step h (by omega : j < l.L.length)
    unfold clB at s1 s2
    rw [wrap_succ (by omega)]
    have hmu : ((l.L.length : Int) - ((j + 1 : Nat) : Int)).toNat < ((l.L.length : Int) - i.I).toNat := by rw [hj]; omega
    have key : (0 ≤ ix (l.L.getD j []) 0 ∧ ix (l.L.getD j []) 0 < ix (l.L.getD j []) 1 ∧ ix (l.L.getD j []) 1 ≤ 100000 ∧ (0 < j → ix (l.L.getD (j - 1) []) 1 < ix (l.L.getD j []) 0)) → (G48_4 [.i ((j + 1 : Nat) : Int), .i a.I, .i b.I, .i c.I, .l l.L]).run = some rr := fun hq =>
      (need_yes ⟨h1, by simp only [I_i]; omega, by simp only [I_i, L_l]; omega⟩).trans (s2 (decide_eq_true hq))
    refine rd_dec (by omega) (rd_if (fun c1 => rd_out (s1 (decide_eq_false (by omega)))) fun c1 => rd_if (fun c2 => rd_out (s1 (decide_eq_false (by omega)))) fun c2 => rd_if (fun c3 => rd_out (s1 (decide_eq_false (by omega)))) fun c3 => rd_if (fun c4 => ?_) fun c4 => rd_again (key ⟨by omega, by omega, by omega, fun h => by omega⟩) hmu)
    rw [wrap_pred (by omega), show ((j : Int) - 1).toNat = j - 1 by omega]
    exact rd_dec (by omega) (rd_if (fun c5 => rd_out (s1 (decide_eq_false fun h => by have := h.2.2.2 (by omega); omega))) fun c5 => rd_again (key ⟨by omega, by omega, by omega, fun h => by omega⟩) hmu)
  · cases h
theorem ok48 (n : Nat) : FnOK C (n + 2) 48 (mkF s48 G48) := by
  refine fn_ofS hC (sp := sp48) (lp := lp48) (sw := sw48) ⟨ok47 n, trivial⟩ trivial (by kernel_rfl) [4] (by kernel_rfl) (by kernel_rfl) (fun k hk L hL => by
    simp at hk; subst hk; cases hL; exact ok48_4 n) fun ds r h => ?_
  unfold G48 at h
  split at h
  · rename_i m a b c l
    obtain ⟨hp, h⟩ := need_some h
    rw [yes_iff] at hp
    refine (congrArg T.run (t48 m a b c l)).trans ?_
    rw [← h, wrap_id (by omega) (by omega), show roadB m.I (mkRd a b c l) = (decide ((0 ≤ a.I ∧ a.I < m.I) ∧ (0 ≤ b.I ∧ b.I < m.I) ∧ a.I ≠ b.I ∧ (1 ≤ c.I ∧ c.I ≤ 10000) ∧ l.L.length ≤ 20) && allFrom (clB l.L) 0 l.L.length) from rfl]
    simp only [within_dec]
    refine go_not (fun c1 => ?_) fun c1 => go_not (fun c2 => ?_) fun c2 => go_ite (fun c3 => ?_) fun c3 => go_not (fun c4 => ?_) fun c4 => go_if (fun c5 => ?_) fun c5 => ?_
    · have c1 := of_decide_eq_false c1; rw [decide_eq_false (by omega)]; rfl
    · have c2 := of_decide_eq_false c2; rw [decide_eq_false (by omega)]; rfl
    · have c3 := eq_of_beq c3; rw [decide_eq_false (by omega)]; rfl
    · have c4 := of_decide_eq_false c4; rw [decide_eq_false (by omega)]; rfl
    · rw [decide_eq_false (by omega)]; rfl
    · have c1 := of_decide_eq_true c1
      have c2 := of_decide_eq_true c2
      have c3 := ne_of_beq_false c3
      have c4 := of_decide_eq_true c4
      rw [decide_eq_true (by omega), Bool.true_and]
      simp only [Int.toNat_zero, Nat.sub_zero]
      exact go_yes ⟨by omega, by omega, by omega⟩ (go_ite (fun c6 => go_leaf (by rw [c6]; rfl)) fun c6 => go_leaf (by rw [c6]; rfl))
  · cases h

/-! ### The law's and the program's views of networks -/
theorem ok15_4 (n : Nat) : LoopSim C n 15 (loopOf C.P 15 4) (mkL l15_4 G15_4) := by
  refine loop_ofK hC (sp := sp15) (lp := lp15) (sw := sw15) trivial trivial 0 [] (by kernel_rfl) rfl (fun k hk => by cases hk) (by kernel_rfl) (fun ds => (((ds.getD 2 default).L.length : Int) - (ds.getD 0 default).I).toNat) fun ds rr h => ?_
  unfold G15_4 at h
  split at h
  · rename_i i a l
    obtain ⟨hp, h⟩ := need_some h
    rw [yes_iff] at hp
    obtain ⟨h1, hi0, hi1⟩ := hp
    refine ⟨by rw [fuelC]; simp; omega, ?_⟩
    rw [show roundTK C (mkTab sp15 lp15 sw15) 15 (loopOf C.P 15 4) 0 l15_4 [i, a, l] = _ from t15_4 i a l]
    obtain ⟨j, hj⟩ : ∃ j : Nat, i.I = j := ⟨i.I.toNat, by omega⟩
    simp only [hj, Int.toNat_natCast, Nat.reduceAdd, lx_def] at h hi0 hi1 ⊢
    refine rd_if (fun hlt => ?_) fun hge => rd_out (all_end h (by omega))
    obtain ⟨s1, s2⟩ := all_step h (by omega : j < l.L.length)
    unfold fewR at s1 s2
    rw [wrap_succ (by omega)]
    refine rd_dec (by omega) (rd_if (fun c1 => rd_out (s1 (decide_eq_false (by omega)))) fun c1 => ?_)
    exact rd_again ((need_yes ⟨h1, by simp only [I_i]; omega, by simp only [I_i, L_l]; omega⟩).trans (s2 (decide_eq_true (by omega)))) (show ((l.L.length : Int) - ((j + 1 : Nat) : Int)).toNat < ((l.L.length : Int) - i.I).toNat by rw [hj]; omega)
  · cases h
theorem ok15 (n : Nat) : FnOK C (n + 1) 15 (mkF s15 G15) := by
  refine fn_ofS hC (sp := sp15) (lp := lp15) (sw := sw15) trivial trivial (by kernel_rfl) [4] (by kernel_rfl) (by kernel_rfl) (fun k hk L hL => by
    simp at hk; subst hk; cases hL; exact ok15_4 n) fun ds r h => ?_
  unfold G15 at h
  split at h
  · rename_i a l
    refine (congrArg T.run (t15 a l)).trans ?_
    rw [← show _ = some r from h]
    show _ = some [D.b (smallB a.I l.L)]
    unfold smallB smallH
    have no : ¬ ((l.L.length ≤ 16 ∨ 1000 < l.L.length) ∧ l.L.length ≤ 1100 ∧ (a.I ≤ 8 ∨ 200 < a.I)) → (T.leaf [D.b false]).run = some [D.b (decide ((l.L.length ≤ 16 ∨ 1000 < l.L.length) ∧ l.L.length ≤ 1100 ∧ (a.I ≤ 8 ∨ 200 < a.I)) && allFrom (fewR l.L) 0 l.L.length)] := fun hn => by rw [decide_eq_false hn]; rfl
    have ys : ((l.L.length ≤ 16 ∨ 1000 < l.L.length) ∧ l.L.length ≤ 1100 ∧ (a.I ≤ 8 ∨ 200 < a.I)) → (T.need (yes (l.L.length ≤ 1100 ∧ (0 : Int) ≤ (0 : Int) ∧ (0 : Int) ≤ (l.L.length : Int))) (T.ite (allFrom (fewR l.L) (0 : Int).toNat (l.L.length - (0 : Int).toNat)) (T.leaf [D.b true]) (T.leaf [D.b false]))).run = some [D.b (decide ((l.L.length ≤ 16 ∨ 1000 < l.L.length) ∧ l.L.length ≤ 1100 ∧ (a.I ≤ 8 ∨ 200 < a.I)) && allFrom (fewR l.L) 0 l.L.length)] := fun hy => by
      rw [decide_eq_true hy, Bool.true_and]
      simp only [Int.toNat_zero, Nat.sub_zero]
      exact go_yes ⟨hy.2.1, by omega, by omega⟩ (go_ite (fun c6 => go_leaf (by rw [c6])) fun c6 => go_leaf (by rw [c6]))
    refine go_if (fun c1 => go_if (fun c2 => no (by omega)) fun c2 => go_if (fun c3 => no (by omega)) fun c3 => go_if (fun c4 => go_if (fun c5 => no (by omega)) fun c5 => ys (by omega)) fun c4 => ys (by omega)) fun c1 => go_if (fun c3 => no (by omega)) fun c3 => go_if (fun c4 => go_if (fun c5 => no (by omega)) fun c5 => ys (by omega)) fun c4 => ys (by omega)
  · cases h
theorem roadB_mk (n : Int) (c : List D) : roadB n (mkRd (.i (ix c 0)) (.i (ix c 1)) (.i (ix c 2)) (.l (lx c 3))) = roadB n c := rfl
theorem ok19_4 (n : Nat) : LoopSim C (n + 2) 19 (loopOf C.P 19 4) (mkL l19_4 G19_4) := by
  refine loop_ofK hC (sp := sp19) (lp := lp19) (sw := sw19) ⟨ok47 (n + 1), ok48 n, trivial⟩ trivial 0 [] (by kernel_rfl) rfl (fun k hk => by cases hk) (by kernel_rfl) (fun ds => (((ds.getD 2 default).L.length : Int) - (ds.getD 0 default).I).toNat) fun ds rr h => ?_
  unfold G19_4 at h
  split at h
  · rename_i i a l
    obtain ⟨hp, h⟩ := need_some h
    rw [yes_iff] at hp
    obtain ⟨h0, h1, hi0, hi1⟩ := hp
    refine ⟨by rw [fuelC]; simp; omega, ?_⟩
    rw [show roundTK C (mkTab sp19 lp19 sw19) 19 (loopOf C.P 19 4) 0 l19_4 [i, a, l] = _ from t19_4 i a l]
    obtain ⟨j, hj⟩ : ∃ j : Nat, i.I = j := ⟨i.I.toNat, by omega⟩
    simp only [hj, Int.toNat_natCast, Nat.reduceAdd, lx_def, ix_def] at h hi0 hi1 ⊢
    refine rd_if (fun hlt => ?_) fun hge => rd_out (all_end h (by omega))
    obtain ⟨s1, s2⟩ := all_step h (by omega : j < l.L.length)
    rw [wrap_succ (by omega)]
    refine rd_dec (by omega) (rd_yes h0 (rd_not (fun c1 => rd_out (s1 c1)) fun c1 => ?_))
    exact rd_again ((need_yes ⟨h0, h1, by simp only [I_i]; omega, by simp only [I_i, L_l]; omega⟩).trans (s2 c1)) (show ((l.L.length : Int) - ((j + 1 : Nat) : Int)).toNat < ((l.L.length : Int) - i.I).toNat by rw [hj]; omega)
  · cases h
theorem ok19 (n : Nat) : FnOK C (n + 3) 19 (mkF s19 G19) := by
  refine fn_ofS hC (sp := sp19) (lp := lp19) (sw := sw19) ⟨ok47 (n + 1), ok48 n, trivial⟩ trivial (by kernel_rfl) [4] (by kernel_rfl) (by kernel_rfl) (fun k hk L hL => by
    simp at hk; subst hk; cases hL; exact ok19_4 n) fun ds r h => ?_
  unfold G19 at h
  split at h
  · rename_i a l
    refine (congrArg T.run (t19 a l)).trans ?_
    rw [← show _ = some r from h]
    show _ = some [D.b (netB a.I l.L)]
    unfold netB
    simp only [within_dec]
    refine go_not (fun c1 => ?_) fun c1 => go_if (fun c2 => ?_) fun c2 => ?_
    · have c1 := of_decide_eq_false c1; rw [decide_eq_false (by omega)]; rfl
    · rw [decide_eq_false (by omega)]; rfl
    · have c1 := of_decide_eq_true c1
      rw [decide_eq_true (by omega), Bool.true_and]
      simp only [Int.toNat_zero, Nat.sub_zero]
      exact go_yes ⟨c1, by omega, by omega, by omega⟩ (go_ite (fun c6 => go_leaf (by rw [c6])) fun c6 => go_leaf (by rw [c6]))
  · cases h
theorem ok18_10 (n : Nat) : LoopSim C (n + 1) 18 (loopOf C.P 18 10) (mkL l18_10 G18_10) := by
  refine loop_ofK hC (sp := sp18) (lp := lp18) (sw := sw18) ⟨ok45 n, trivial⟩ trivial 0 [] (by kernel_rfl) rfl (fun k hk => by cases hk) (by kernel_rfl) (fun ds => (((ds.getD 4 default).L.length : Int) - (ds.getD 6 default).I).toNat) fun ds rr h => ?_
  unfold G18_10 at h
  split at h
  · rename_i la r m i l m' j n' r'
    obtain ⟨hp, h⟩ := need_some h
    rw [yes_iff] at hp
    obtain ⟨h1, hm, hi0, hi1, hla⟩ := hp
    refine ⟨by rw [fuelC]; simp; omega, ?_⟩
    rw [show roundTK C (mkTab sp18 lp18 sw18) 18 (loopOf C.P 18 10) 0 l18_10 [la, r, m, i, l, m', j, n', r'] = _ from t18_10 la r m i l m' j n' r']
    obtain ⟨k, hk⟩ : ∃ k : Nat, j.I = k := ⟨j.I.toNat, by omega⟩
    simp only [hk, hm, Int.toNat_natCast, Nat.reduceAdd, ix_def] at h hi0 hi1 hla ⊢
    refine rd_if (fun hlt => ?_) fun hge => rd_out (all_end h (by omega))
    obtain ⟨s1, s2⟩ := all_step h (by omega : k < l.L.length)
    unfold clB at s1 s2
    rw [wrap_succ (by omega)]
    have hla2 : (k = 0 ∧ la.I = -1) ∨ (0 < k ∧ la.I = ix (l.L.getD (k - 1) []) 1) := by
      by_cases h0 : (k : Int) = 0
      · rw [if_pos h0] at hla; exact .inl ⟨by omega, hla⟩
      · rw [if_neg h0] at hla; exact .inr ⟨by omega, hla⟩
    refine rd_dec (by omega) (rd_if (fun c1 => ?_) fun c1 => rd_if (fun c2 => rd_out (s1 (decide_eq_false (by omega)))) fun c2 => rd_if (fun c3 => rd_out (s1 (decide_eq_false (by omega)))) fun c3 => rd_if (fun c4 => rd_out (s1 (decide_eq_false (by omega)))) fun c4 => ?_)
    · refine rd_out (s1 (decide_eq_false fun hn => ?_))
      rcases hla2 with ⟨e1, e2⟩ | ⟨e1, e2⟩
      · omega
      · have := hn.2.2.2 e1; omega
    · refine rd_again ((need_yes ⟨h1, by simp only [I_i, L_l], by simp only [I_i]; omega, by simp only [I_i, L_l]; omega, ?_⟩).trans (s2 (decide_eq_true ⟨by omega, by omega, by omega, fun h => by rcases hla2 with ⟨e1, e2⟩ | ⟨e1, e2⟩ <;> omega⟩))) (show ((l.L.length : Int) - ((k + 1 : Nat) : Int)).toNat < ((l.L.length : Int) - j.I).toNat by rw [hk]; omega)
      simp only [I_i, L_l, Int.toNat_natCast, Nat.add_sub_cancel]
      rw [if_neg (by omega)]
  · cases h
theorem ok18_4 (n : Nat) : LoopSim C (n + 1) 18 (loopOf C.P 18 4) (mkL l18_4 G18_4) := by
  refine loop_ofK hC (sp := sp18) (lp := lp18) (sw := sw18) ⟨ok45 n, trivial⟩ trivial 0 [10] (by kernel_rfl) (by kernel_rfl) (fun k hk L hL => by simp at hk; subst hk; cases hL; exact ok18_10 n) (by kernel_rfl) (fun ds => (((ds.getD 0 default).L.length : Int) - (ds.getD 2 default).I).toNat) fun ds rr h => ?_
  unfold G18_4 at h
  split at h
  · rename_i l m i a r'
    obtain ⟨hp, h⟩ := need_some h
    rw [yes_iff] at hp
    obtain ⟨h0, h1, hm, hi0, hi1⟩ := hp
    refine ⟨by rw [fuelC]; simp; omega, ?_⟩
    rw [show roundTK C (mkTab sp18 lp18 sw18) 18 (loopOf C.P 18 4) 0 l18_4 [l, m, i, a, r'] = _ from t18_4 l m i a r']
    obtain ⟨j, hj⟩ : ∃ j : Nat, i.I = j := ⟨i.I.toNat, by omega⟩
    simp only [hj, hm, Int.toNat_natCast, Nat.reduceAdd, lx_def, ix_def, within_dec] at h hi0 hi1 ⊢
    refine rd_if (fun hlt => ?_) fun hge => rd_out (all_end h (by omega))
    obtain ⟨s1, s2⟩ := all_step h (by omega : j < l.L.length)
    rw [wrap_succ (by omega), wrap_id (by omega) (by omega)]
    unfold roadB roadH at s1 s2
    generalize l.L.getD j [] = c at *
    have no : ¬ ((0 ≤ ix c 0 ∧ ix c 0 < a.I) ∧ (0 ≤ ix c 1 ∧ ix c 1 < a.I) ∧ ix c 0 ≠ ix c 1 ∧ (1 ≤ ix c 2 ∧ ix c 2 ≤ 10000) ∧ (lx c 3).length ≤ 20) → some (Ex.ret, [D.i 2]) = some rr := fun hn => s1 (by rw [decide_eq_false hn]; rfl)
    refine rd_dec (by omega) (rd_not (fun c1 => ?_) fun c1 => rd_not (fun c2 => ?_) fun c2 => rd_ite (fun c3 => ?_) fun c3 => rd_not (fun c4 => ?_) fun c4 => rd_if (fun c5 => rd_out (no (by omega))) fun c5 => ?_)
    · have c1 := of_decide_eq_false c1; exact rd_out (no (by omega))
    · have c2 := of_decide_eq_false c2; exact rd_out (no (by omega))
    · have c3 := eq_of_beq c3; exact rd_out (no (by omega))
    · have c4 := of_decide_eq_false c4; exact rd_out (no (by omega))
    · have c1 := of_decide_eq_true c1
      have c2 := of_decide_eq_true c2
      have c3 := ne_of_beq_false c3
      have c4 := of_decide_eq_true c4
      rw [decide_eq_true (by omega), Bool.true_and] at s1 s2
      refine rd_yes ⟨by omega, trivial, by omega, by omega, by simp⟩ ?_
      simp only [Int.toNat_zero, Nat.sub_zero]
      refine rd_ite (fun c6 => ?_) fun c6 => rd_out (s1 c6)
      exact rd_again ((need_yes ⟨h0, h1, by simp only [I_i, L_l], by simp only [I_i]; omega, by simp only [I_i, L_l]; omega⟩).trans (s2 c6)) (show ((l.L.length : Int) - ((j + 1 : Nat) : Int)).toNat < ((l.L.length : Int) - i.I).toNat by rw [hj]; omega)
  · cases h
theorem ok18 (n : Nat) : FnOK C (n + 2) 18 (mkF s18 G18) := by
  refine fn_ofS hC (sp := sp18) (lp := lp18) (sw := sw18) ⟨ok45 n, trivial⟩ trivial (by kernel_rfl) [4] (by kernel_rfl) (by kernel_rfl) (fun k hk L hL => by
    simp at hk; subst hk; cases hL; exact ok18_4 n) fun ds r h => ?_
  unfold G18 at h
  split at h
  · rename_i a l
    refine (congrArg T.run (t18 a l)).trans ?_
    rw [← show _ = some r from h]
    show _ = some [D.i (if netB a.I l.L = true then 0 else 2)]
    unfold netB
    simp only [within_dec]
    refine go_not (fun c1 => ?_) fun c1 => go_if (fun c2 => ?_) fun c2 => ?_
    · have c1 := of_decide_eq_false c1; rw [decide_eq_false (by omega)]; rfl
    · rw [decide_eq_false (by omega)]; rfl
    · have c1 := of_decide_eq_true c1
      rw [decide_eq_true (by omega), Bool.true_and]
      simp only [Int.toNat_zero, Nat.sub_zero]
      exact go_yes ⟨c1, by omega, trivial, by omega, by omega⟩ (go_ite (fun c6 => go_leaf (by rw [c6]; rfl)) fun c6 => go_leaf (by rw [c6]; rfl))
  · cases h
theorem ok20 (n : Nat) : FnOK C (n + 1) 20 (mkF s20 G20) := by
  refine fn_ofS hC (sp := sp20) (lp := lp20) (sw := sw20) trivial trivial (by kernel_rfl) [] (by kernel_rfl) rfl (fun k hk => by cases hk) fun ds r h => ?_
  unfold G20 at h
  split at h
  · rename_i a l v t
    refine (congrArg T.run (t20 a l v t)).trans ?_
    rw [← show _ = some r from h]
    show _ = some [D.b (nodeB a.I v.I t.I)]
    unfold nodeB
    refine go_if (fun c1 => go_if (fun c2 => go_if (fun c3 => ?_) fun c3 => ?_) fun c2 => ?_) fun c1 => ?_
    · by_cases h4 : t.I ≤ 100000
      · rw [decide_eq_true h4, decide_eq_true (by omega)]; rfl
      · rw [decide_eq_false h4, decide_eq_false (by omega)]; rfl
    · rw [decide_eq_false (by omega)]; rfl
    · rw [decide_eq_false (by omega)]; rfl
    · rw [decide_eq_false (by omega)]; rfl
  · cases h
theorem ok21_4 (n : Nat) : LoopSim C n 21 (loopOf C.P 21 4) (mkL l21_4 G21_4) := by
  refine loop_ofK hC (sp := sp21) (lp := lp21) (sw := sw21) trivial trivial 0 [] (by kernel_rfl) rfl (fun k hk => by cases hk) (by kernel_rfl) (fun ds => (((ds.getD 0 default).L.length : Int) - (ds.getD 2 default).I).toNat) fun ds rr h => ?_
  unfold G21_4 at h
  split at h
  · rename_i a b i
    obtain ⟨hp, h⟩ := need_some h
    rw [yes_iff] at hp
    obtain ⟨h1, h2, h3, h4⟩ := hp
    have hb := big_eq
    refine ⟨by rw [fuelC]; simp; omega, ?_⟩
    rw [show roundTK C (mkTab sp21 lp21 sw21) 21 (loopOf C.P 21 4) 0 l21_4 [a, b, i] = _ from t21_4 a b i]
    obtain ⟨k, hk⟩ : ∃ k : Nat, i.I = k := ⟨i.I.toNat, by omega⟩
    simp only [hk, Int.toNat_natCast] at h h4 ⊢
    refine rd_if (fun hlt => ?_) fun hge => rd_out (all_end h (by omega))
    obtain ⟨s1, s2⟩ := all_step h (by omega : k < a.L.length)
    refine rd_dec ⟨by omega, by omega⟩ (rd_dec ⟨by omega, by omega⟩ (rd_ite (fun c => rd_out (s1 (bnot_t c))) fun c => ?_))
    rw [wrap_succ (by omega)]
    exact rd_again ((need_yes ⟨h1, h2, by simp only [I_i]; omega, by simp only [I_i, L_l]; omega⟩).trans (s2 (bnot_f c))) (show ((a.L.length : Int) - ((k + 1 : Nat) : Int)).toNat < ((a.L.length : Int) - i.I).toNat by omega)
  · cases h
theorem ok21 (n : Nat) : FnOK C (n + 1) 21 (mkF s21 G21) := by
  refine fn_ofS hC (sp := sp21) (lp := lp21) (sw := sw21) trivial trivial (by kernel_rfl) [4] (by kernel_rfl) (by kernel_rfl) (fun k hk L hL => by simp at hk; subst hk; cases hL; exact ok21_4 n) fun ds rr h => ?_
  unfold G21 at h
  split at h
  · rename_i a b
    obtain ⟨hp, h⟩ := need_some h
    rw [yes_iff] at hp
    have h1 := hp
    refine (congrArg T.run (t21 a b)).trans ?_
    rw [← h]
    unfold sameR
    refine go_ite (fun c => ?_) fun c => ?_
    · have : ¬ a.L.length = b.L.length := fun e => by rw [e] at c; simp at c
      rw [decide_eq_false this, Bool.false_and]
    · have e9 : (a.L.length : Int) = b.L.length := eq_of_beq (bnot_f c)
      have e : a.L.length = b.L.length := by omega
      rw [decide_eq_true e, Bool.true_and]
      simp only [Int.toNat_zero, Nat.sub_zero]
      exact go_yes ⟨h1, e, by omega, by omega⟩ (go_ite (fun c6 => go_leaf (by rw [c6]; rfl)) fun c6 => go_leaf (by rw [c6]; rfl))
  · cases h
end Go.Proofs.Ytgmefblkmidglaa
