/-
  The document's ways compute what their words say.
-/
import Derived.Test.YtgmefblkmidglaaResPH
namespace Go.Proofs.Ytgmefblkmidglaa
open Go.Lite
set_option maxRecDepth 100000
set_option linter.unusedVariables false
theorem ok24_10 (n : Nat) : LoopSim C (n + 3) 24 (loopOf C.P 24 10) (mkL l24_10 G24_10) := by
  refine loop_ofK hC (sp := sp24) (lp := lp24) (sw := sw24) ⟨ok22 n, ok49 (n + 1), ok25 (n + 2), trivial⟩ trivial 0 [] (by kernel_rfl) rfl (fun k hk => by cases hk) (by kernel_rfl) (fun ds => if (ds.getD 0 default).I = 0 then (((ds.getD 8 default).L.length : Int) - (ds.getD 6 default).I).toNat else (((ds.getD 9 default).L.length : Int) - (ds.getD 7 default).I).toNat) fun ds rr h => ?_
  unfold G24_10 at h
  split at h
  · rename_i j to best left v t i m r
    obtain ⟨hp, h⟩ := need_some h
    rw [yes_iff] at hp
    obtain ⟨hj, hW, hl0, hi0, hi1⟩ := hp
    have hby : Try.prog.types[40].bytes = 16 := by kernel_rfl
    have hW' := hW
    obtain ⟨hN, hl, hv, ht, hto⟩ := hW'
    obtain ⟨p1, p2, p3⟩ := net_parts hN
    refine ⟨by rw [fuelC]; simp [hj]; omega, ?_⟩
    rw [roundTK_head (j := j) (n := 0) hj (by decide), show roundTK C (mkTab sp24 lp24 sw24) 24 (loopOf C.P 24 10) 0 l24_10 [.i 0, to, best, left, v, t, i, m, r] = _ from t24_10_0 to best left v t i m r]
    obtain ⟨k, hk⟩ : ∃ k : Nat, i.I = k := ⟨i.I.toNat, by omega⟩
    obtain ⟨l, hll⟩ : ∃ l : Nat, left.I = ((l + 1 : Nat) : Int) := ⟨left.I.toNat - 1, by omega⟩
    have hW1 : okWay m.I ((l + 1 : Nat) : Int) v.I t.I to.I r.L := by rw [hll] at hW; exact hW
    have hm : (m.I.toNat : Int) = m.I := by omega
    rw [hll] at hl ht
    simp only [hk, hll, Int.toNat_natCast, Nat.reduceAdd, Nat.add_sub_cancel, ix_def, lx_def] at h hi1 ⊢
    refine rd_if (fun hlt => ?_) fun hge => ?_
    · have hkl : k < r.L.length := by omega
      have hR := p3 k hkl
      obtain ⟨q1, q2, q3, q4, q5⟩ := road_parts hR
      obtain ⟨o1, o2⟩ := road_okC hR
      obtain ⟨w1, w2, w3⟩ := tm_wrap hN hkl (t := t.I) (by omega)
      have hmiss : (ix (r.L.getD k []) 0 = v.I → qR m.I r.L to.I best.I l (toR r.L k) (tmR r.L k t.I) = false) → RdOK G24_10 (fun ds => if (ds.getD 0 default).I = 0 then (((ds.getD 8 default).L.length : Int) - (ds.getD 6 default).I).toNat else (((ds.getD 9 default).L.length : Int) - (ds.getD 7 default).I).toNat) [j, to, best, left, v, t, i, m, r] rr (T.leaf (Rd.again [.i 0, .i to.I, .i best.I, .i ((l + 1 : Nat) : Int), .i v.I, .i t.I, .i ((k + 1 : Nat) : Int), .i m.I, .l r.L])).run := fun hm => by
        obtain ⟨m1, m2⟩ := pick_miss (q := qR m.I r.L to.I best.I) (l := l) (v := v.I) (t := t.I) hkl hm
        rw [m1, m2] at h
        refine rd_again ((need_yes ⟨rfl, hW1, by simp only [I_i]; omega, by simp only [I_i]; omega, by simp only [I_i, L_l]; omega⟩).trans h) ?_
        simp only [List.getD_cons_zero, List.getD_cons_succ, I_i, L_l, hj, hk, if_true]
        omega
      have hw1 : IntKind.i64.wrap (((l + 1 : Nat) : Int) - 1) = (l : Int) := by rw [wrap_pred (by omega)]; omega
      have hyl := (yR_ok hN (v := toR r.L k) (t := tmR r.L k t.I) q2 (by omega) l).1
      rw [wrap_succ (by omega), w1, hw1]
      refine rd_dec (by omega) (rd_ite (fun c1 => hmiss fun e => absurd e (by simpa using c1)) fun c1 => ?_)
      have c1 : ix (r.L.getD k []) 0 = v.I := by simpa using c1
      refine rd_yes ⟨o1, by unfold okS; omega, o2⟩ (rd_yes ⟨hN, q2, by omega, by omega, by omega⟩ (rd_dec (by omega) (rd_dec ?_ (rd_ite (fun c2 => ?_) fun c2 => hmiss fun _ => c2))))
      · show to.I.toNat < (reachF r.L l (beginF m.I (toR r.L k) (tmR r.L k t.I))).length
        omega
      obtain ⟨m1, m2⟩ := pick_hit (q := qR m.I r.L to.I best.I) (l := l) (v := v.I) (t := t.I) hkl c1 c2
      rw [m1, m2] at h
      exact rd_need rfl (rd_false rfl (rd_need rfl (rd_out h)))
    · rw [show r.L.length - k = 0 by omega] at h
      exact rd_out h
  · rename_i j to best left z v t i m r o
    obtain ⟨hp, h⟩ := need_some h
    rw [yes_iff] at hp
    obtain ⟨hj, hW, hl0, hi, hz, hz1⟩ := hp
    have hby : Try.prog.types[40].bytes = 16 := by kernel_rfl
    have hW' := hW
    obtain ⟨hN, hl, hv, ht, hto⟩ := hW'
    obtain ⟨p1, p2, p3⟩ := net_parts hN
    refine ⟨by rw [fuelC]; simp [hj]; omega, ?_⟩
    rw [roundTK_head (j := j) (n := 1) hj (by decide), show roundTK C (mkTab sp24 lp24 sw24) 24 (loopOf C.P 24 10) 0 l24_10 [.i 1, to, best, left, z, v, t, i, m, r, o] = _ from t24_10_1 to best left z v t i m r o]
    obtain ⟨k, hk⟩ : ∃ k : Nat, i.I = k := ⟨i.I.toNat, by omega⟩
    obtain ⟨l, hll⟩ : ∃ l : Nat, left.I = ((l + 1 : Nat) : Int) := ⟨left.I.toNat - 1, by omega⟩
    have hW1 : okWay m.I ((l + 1 : Nat) : Int) v.I t.I to.I r.L := by rw [hll] at hW; exact hW
    have hm : (m.I.toNat : Int) = m.I := by omega
    rw [hll] at hl ht
    simp only [hk, hll, hz, Int.toNat_natCast, Nat.reduceAdd, Nat.add_sub_cancel, ix_def, lx_def] at h hi ⊢
    refine rd_if (fun hlt => ?_) fun hge => ?_
    · have hkl : k < r.L.length := by omega
      have hR := p3 k hkl
      obtain ⟨q1, q2, q3, q4, q5⟩ := road_parts hR
      obtain ⟨o1, o2⟩ := road_okC hR
      obtain ⟨w1, w2, w3⟩ := tm_wrap hN hkl (t := t.I) (by omega)
      have hmiss : (ix (r.L.getD k []) 0 = v.I → qR m.I r.L to.I best.I l (toR r.L k) (tmR r.L k t.I) = false) → RdOK G24_10 (fun ds => if (ds.getD 0 default).I = 0 then (((ds.getD 8 default).L.length : Int) - (ds.getD 6 default).I).toNat else (((ds.getD 9 default).L.length : Int) - (ds.getD 7 default).I).toNat) [j, to, best, left, z, v, t, i, m, r, o] rr (T.leaf (Rd.again [.i 1, .i to.I, .i best.I, .i ((l + 1 : Nat) : Int), .i o.L.length, .i v.I, .i t.I, .i ((k + 1 : Nat) : Int), .i m.I, .l r.L, .l o.L])).run := fun hm => by
        obtain ⟨m1, m2⟩ := pick_miss (q := qR m.I r.L to.I best.I) (l := l) (v := v.I) (t := t.I) hkl hm
        rw [m1, m2] at h
        refine rd_again ((need_yes ⟨rfl, hW1, by simp only [I_i]; omega, by simp only [I_i, L_l]; omega, rfl, by simp only [I_i]; omega⟩).trans h) ?_
        simp only [List.getD_cons_zero, List.getD_cons_succ, I_i, L_l, hj, hk]
        rw [if_neg (by omega), if_neg (by omega)]
        omega
      have hw1 : IntKind.i64.wrap (((l + 1 : Nat) : Int) - 1) = (l : Int) := by rw [wrap_pred (by omega)]; omega
      have hyl := (yR_ok hN (v := toR r.L k) (t := tmR r.L k t.I) q2 (by omega) l).1
      rw [wrap_succ (by omega), w1, hw1]
      refine rd_dec (by omega) (rd_ite (fun c1 => hmiss fun e => absurd e (by simpa using c1)) fun c1 => ?_)
      have c1 : ix (r.L.getD k []) 0 = v.I := by simpa using c1
      refine rd_yes ⟨o1, by unfold okS; omega, o2⟩ (rd_yes ⟨hN, q2, by omega, by omega, by omega⟩ (rd_dec (by omega) (rd_dec ?_ (rd_ite (fun c2 => ?_) fun c2 => hmiss fun _ => c2))))
      · show to.I.toNat < (reachF r.L l (beginF m.I (toR r.L k) (tmR r.L k t.I))).length
        omega
      obtain ⟨m1, m2⟩ := pick_hit (q := qR m.I r.L to.I best.I) (l := l) (v := v.I) (t := t.I) hkl c1 c2
      rw [m1, m2] at h
      simp only [List.take_length]
      simp only [List.length_cons, List.length_nil, Nat.zero_add]
      exact rd_need rfl (rd_false rfl (rd_dec (by rw [hby]; omega) (rd_out h)))
    · rw [show r.L.length - k = 0 by omega] at h
      exact rd_out h
  · cases h
theorem ok24_3 (n : Nat) : LoopSim C (n + 3) 24 (loopOf C.P 24 3) (mkL l24_3 G24_3) := by
  refine loop_ofK hC (sp := sp24) (lp := lp24) (sw := sw24) ⟨ok22 n, ok49 (n + 1), ok25 (n + 2), trivial⟩ trivial 0 [] (by kernel_rfl) rfl (fun k hk => by cases hk) (by kernel_rfl) (fun ds => (1000 - (ds.getD 4 default).I).toNat) fun ds rr h => ?_
  unfold G24_3 at h
  split at h
  · rename_i v t to best left m r
    obtain ⟨hp, h⟩ := need_some h
    rw [yes_iff] at hp
    obtain ⟨hN, hl, hv, ht, hto, hc⟩ := hp
    refine ⟨by rw [fuelC]; simp; omega, ?_⟩
    rw [show roundTK C (mkTab sp24 lp24 sw24) 24 (loopOf C.P 24 3) 0 l24_3 [v, t, to, best, left, m, r] = _ from t24_3 v t to best left m r]
    obtain ⟨k, hk⟩ : ∃ k : Nat, left.I = k := ⟨left.I.toNat, by omega⟩
    simp only [hk, Int.toNat_natCast, rg_def] at h hc hl ⊢
    obtain ⟨g1, g2⟩ := seek_go (p := fun l => qR m.I r.L to.I best.I l v.I t.I) hc
    have hyl := (yR_ok hN (v := v.I) (t := t.I) hv (by omega) k).1
    unfold hopsR at h
    refine rd_yes ⟨hN, hv, by omega, by omega, by omega⟩ (rd_dec (by omega) (rd_dec (by omega) (rd_ite (fun c => ?_) fun c => ?_)))
    · obtain ⟨a1, a2, a3⟩ := g2 (by rw [bne_iff_ne] at c; unfold qR; exact beq_false_of_ne c)
      rw [a3] at h
      rw [wrap_succ (by omega)]
      refine rd_again ((need_yes ⟨hN, by simp only [I_i]; omega, hv, ht, hto, by simp only [I_i, Int.toNat_natCast]; exact a2⟩).trans ?_) (show (1000 - ((k + 1 : Nat) : Int)).toNat < (1000 - left.I).toNat by omega)
      simp only [I_i, L_l, Int.toNat_natCast]
      unfold hopsR
      exact h
    · have a1 := g1 (by unfold qR; simpa using c)
      rw [a1] at h
      exact rd_out h
  · cases h
theorem ok24_7 (n : Nat) : LoopSim C (n + 3) 24 (loopOf C.P 24 7) (mkL l24_7 G24_7) := by
  refine loop_ofK hC (sp := sp24) (lp := lp24) (sw := sw24) ⟨ok22 n, ok49 (n + 1), ok25 (n + 2), trivial⟩ trivial 0 [10] (by kernel_rfl) (by kernel_rfl) (fun k hk L hL => by simp at hk; subst hk; cases hL; exact ok24_10 n) (by kernel_rfl) (fun ds => (ds.getD 3 default).I.toNat) fun ds rr h => ?_
  unfold G24_7 wayO at h
  split at h
  · rename_i j to best left v t m r
    obtain ⟨hp, h⟩ := need_some h
    rw [yes_iff] at hp
    obtain ⟨hj, hW⟩ := hp
    have hl := hW.2.1
    refine ⟨by rw [fuelC]; simp; omega, ?_⟩
    rw [roundTK_head (j := j) (n := 0) hj (by decide), show roundTK C (mkTab sp24 lp24 sw24) 24 (loopOf C.P 24 7) 0 l24_7 [.i 0, to, best, left, v, t, m, r] = _ from t24_7_0 to best left v t m r]
    refine rd_if (fun hlt => ?_) fun hge => ?_
    · obtain ⟨k, hk⟩ : ∃ k : Nat, left.I = ((k + 1 : Nat) : Int) := ⟨left.I.toNat - 1, by omega⟩
      have hw : IntKind.i64.wrap (left.I - 1) = (k : Int) := by rw [hk, wrap_pred (by omega)]; omega
      have hW1 : okWay m.I ((k : Int) + 1) v.I t.I to.I r.L := by rw [hk] at hW; exact hW
      rw [hw]
      rw [hk] at h hW
      simp only [hk, Int.toNat_natCast, Int.toNat_zero, Nat.sub_zero, Nat.add_sub_cancel] at h ⊢
      refine rd_yes ⟨trivial, hW, by omega, by omega, by omega⟩ (rd_ite (fun c => ?_) fun c => ?_)
      · rw [way_step c] at h
        refine rd_again ((need_yes ⟨rfl, okWay_next hW1 (show (0 : Int) ≤ (k : Int) by omega) (pick_some c).1, rfl, by simp only [I_i]; omega, by simp only [I_i]; omega⟩).trans h) (show ((k : Nat) : Int).toNat < left.I.toNat by omega)
      · rw [way_none c] at h
        exact rd_again ((need_yes ⟨rfl, okWay_less hW1 (show (0 : Int) ≤ (k : Int) by omega)⟩).trans h) (show ((k : Nat) : Int).toNat < left.I.toNat by omega)
    · rw [show left.I.toNat = 0 by omega] at h
      exact rd_out h
  · rename_i j to best left z v t m r o
    obtain ⟨hp, h⟩ := need_some h
    rw [yes_iff] at hp
    obtain ⟨hj, hW, hz, hz1, hz2⟩ := hp
    have hl := hW.2.1
    refine ⟨by rw [fuelC]; simp; omega, ?_⟩
    rw [roundTK_head (j := j) (n := 1) hj (by decide), show roundTK C (mkTab sp24 lp24 sw24) 24 (loopOf C.P 24 7) 0 l24_7 [.i 1, to, best, left, z, v, t, m, r, o] = _ from t24_7_1 to best left z v t m r o]
    refine rd_if (fun hlt => ?_) fun hge => ?_
    · obtain ⟨k, hk⟩ : ∃ k : Nat, left.I = ((k + 1 : Nat) : Int) := ⟨left.I.toNat - 1, by omega⟩
      have hw : IntKind.i64.wrap (left.I - 1) = (k : Int) := by rw [hk, wrap_pred (by omega)]; omega
      have hW1 : okWay m.I ((k : Int) + 1) v.I t.I to.I r.L := by rw [hk] at hW; exact hW
      rw [hw]
      rw [hk] at h hW
      simp only [hk, hz, Int.toNat_natCast, Int.toNat_zero, Nat.sub_zero, Nat.add_sub_cancel] at h ⊢
      refine rd_yes ⟨rfl, hW, by omega, ⟨by omega, by omega⟩, trivial, by omega⟩ (rd_ite (fun c => ?_) fun c => ?_)
      · rw [way_step c] at h
        refine rd_again ((need_yes ⟨rfl, okWay_next hW1 (show (0 : Int) ≤ (k : Int) by omega) (pick_some c).1, by simp only [I_i, L_l, List.length_append, List.length_cons, List.length_nil], by simp only [I_i]; omega, by simp only [I_i]; omega⟩).trans ?_) (show ((k : Nat) : Int).toNat < left.I.toNat by omega)
        simp only [I_i, L_l, Int.toNat_natCast, List.append_assoc, List.cons_append, List.nil_append]
        exact h
      · rw [way_none c] at h
        exact rd_again ((need_yes ⟨rfl, okWay_less hW1 (show (0 : Int) ≤ (k : Int) by omega), rfl, by simp only [I_i]; omega, by simp only [I_i]; omega⟩).trans h) (show ((k : Nat) : Int).toNat < left.I.toNat by omega)
    · rw [show left.I.toNat = 0 by omega] at h
      simp only [wayF, List.append_nil] at h
      rw [hz]
      exact rd_out h
  · cases h
theorem hopsR_le {n : Int} {r : List (List D)} {v t best : Int} (to : Int) (h : comesR n r v t to best 0) : hopsR n r v t to best 0 ≤ 1000 := by
  obtain ⟨l, h1, h2, h3⟩ := h
  have := (seek_spec (p := fun l => qR n r to best l v t) (1000 - 0) 0 ⟨l, h1, by omega, h3⟩).2.2.1
  unfold hopsR
  omega
theorem ok24 (n : Nat) : FnOK C (n + 4) 24 (mkF s24 G24) := by
  refine fn_ofS hC (sp := sp24) (lp := lp24) (sw := sw24) ⟨ok22 n, ok49 (n + 1), ok25 (n + 2), trivial⟩ trivial (by kernel_rfl) [3, 7] (by kernel_rfl) (by kernel_rfl) (fun k hk L hL => by
    simp at hk; rcases hk with rfl | rfl <;> cases hL
    · exact ok24_3 n
    · exact ok24_7 n) fun ds r h => ?_
  unfold G24 at h
  split at h
  · rename_i m r' v t to
    obtain ⟨hp, h⟩ := need_some h
    rw [yes_iff] at hp
    obtain ⟨hN, hv, ht, hto, hA⟩ := hp
    refine (congrArg T.run (t24 m r' v t to)).trans ?_
    rw [← h]
    obtain ⟨p1, p2, p3⟩ := net_parts hN
    have hm : (m.I.toNat : Int) = m.I := by omega
    have hyl := (yR_ok hN (v := v.I) (t := t.I) hv (by omega) m.I.toNat).1
    have hAB : docA m.I r'.L v.I t.I to.I = bestF m.I r'.L v.I t.I to.I := ((arr_same hN hv ht).2.2 to.I.toNat (by omega)).symm
    obtain ⟨b1, b2, b3, b4, b5⟩ := ways_same hN hv ht hto (by omega)
    rw [← b1] at b3
    have b6 := hopsR_le to.I b3
    simp only [Int.toNat_zero, Int.toNat_natCast, rg_def, hm]
    refine go_yes ⟨hN, hv, by omega, by omega⟩ (go_dec (by omega) (go_dec (by omega) (go_yes ⟨hN, by omega, hv, ht, hto, b3⟩ (go_yes ⟨trivial, hN, ⟨by omega, ?_⟩, hv, ⟨by omega, ?_⟩, hto⟩ rfl))))
    · show (hopsR m.I r'.L v.I t.I to.I (docA m.I r'.L v.I t.I to.I) 0 : Int) ≤ 1000
      omega
    · show t.I + 10000 * (hopsR m.I r'.L v.I t.I to.I (docA m.I r'.L v.I t.I to.I) 0 : Int) ≤ 10100000
      omega
  · cases h
end Go.Proofs.Ytgmefblkmidglaa
