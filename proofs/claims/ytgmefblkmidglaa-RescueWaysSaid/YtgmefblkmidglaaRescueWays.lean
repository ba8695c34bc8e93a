/-
  RescueWays: the law holds for every input.
-/
import Derived.Test.YtgmefblkmidglaaResPI
import Derived.Test.YtgmefblkmidglaaResTreeG
import Derived.Test.YtgmefblkmidglaaRescueWaysOver
namespace Go.Proofs.Ytgmefblkmidglaa
open Go.Lite
set_option maxRecDepth 100000
theorem way_len {r : List (List D)} {q : Nat → Int → Int → Bool} : ∀ (l : Nat) (v t : Int), (wayF r q l v t).length ≤ l
  | 0, _, _ => Nat.le_refl _
  | l + 1, v, t => by
    simp only [wayF]
    split
    · have := way_len (r := r) (q := q) l v t
      omega
    · rename_i i _
      have := way_len (r := r) (q := q) l (ix (r.getD i []) 1) (entW (r.getD i []) t + ix (r.getD i []) 2)
      simp only [List.length_cons]
      omega
theorem ok4_13 (n : Nat) : LoopSim C (n + 12) 4 (loopOf C.P 4 13) (mkL l4_13 G4_13) := by
  refine loop_ofK hC (sp := sp4) (lp := lp4) (sw := sw4) ⟨ok15 (n + 11), ok23 (n + 5), ok19 (n + 9), ok20 (n + 11), ok22 (n + 9), ok24 (n + 8), trivial⟩ trivial 0 [] (by kernel_rfl) rfl (fun k hk => by cases hk) (by kernel_rfl) (fun ds => if (ds.getD 0 default).I = 0 then 0 else (((ds.getD 4 default).L.length : Int) - (ds.getD 3 default).I).toNat) fun ds rr h => ?_
  unfold G4_13 at h
  split at h
  · rename_i j i
    obtain ⟨hp, h⟩ := need_some h
    rw [yes_iff] at hp
    obtain ⟨hj, hi⟩ := hp
    refine ⟨by rw [fuelC]; simp [hj], ?_⟩
    rw [roundTK_head (j := j) (n := 0) hj (by decide), show roundTK C (mkTab sp4 lp4 sw4) 4 (loopOf C.P 4 13) 0 l4_13 [.i 0, i] = _ from t4_13_0 i]
    exact rd_neg (by omega) (rd_out h)
  · rename_i j m m' i w x
    obtain ⟨hp, h⟩ := need_some h
    rw [yes_iff] at hp
    obtain ⟨hj, hm, hm', hwx, hw, hi0, hi1⟩ := hp
    refine ⟨by rw [fuelC]; simp [hj]; omega, ?_⟩
    rw [roundTK_head (j := j) (n := 3) hj (by decide), show roundTK C (mkTab sp4 lp4 sw4) 4 (loopOf C.P 4 13) 0 l4_13 [.i 3, m, m', i, w, x] = _ from t4_13_3 m m' i w x]
    obtain ⟨k, hk⟩ : ∃ k : Nat, i.I = k := ⟨i.I.toNat, by omega⟩
    simp only [hk, hm, hm', Int.toNat_natCast, Nat.reduceAdd, ix_def, Bool.and_true] at h hi0 hi1 ⊢
    refine rd_if (fun hlt => ?_) fun hge => rd_out (all_end h (by omega))
    obtain ⟨s1, s2⟩ := all_step h (by omega : k < w.L.length)
    refine rd_dec (by omega) (rd_dec (by omega) (rd_dec (by omega) (rd_dec (by omega) (rd_not (fun c => rd_out (s1 c)) fun c => ?_))))
    rw [wrap_succ (by omega)]
    refine rd_again ((need_yes ⟨rfl, rfl, rfl, hwx, hw, by simp only [I_i]; omega, by simp only [I_i, L_l]; omega⟩).trans (s2 c)) ?_
    show (if (3 : Int) = 0 then 0 else ((w.L.length : Int) - ((k + 1 : Nat) : Int)).toNat) < if j.I = 0 then 0 else ((w.L.length : Int) - i.I).toNat
    rw [if_neg (by omega), if_neg (by omega)]
    omega
  · cases h
theorem law4 (a b c d e : D) : (fnT C (mkTab sp4 lp4 sw4) 4 s4 [a, b, c, d, e]).run = some [D.b true] := by
  refine (congrArg T.run (t4 a b c d e)).trans (go_not (fun _ => rfl) fun _ => ?_)
  rcases Bool.eq_false_or_eq_true (netB a.I b.L) with hN | hN
  · rcases Bool.eq_false_or_eq_true (nodeB a.I c.I d.I) with hO | hO
    · rcases Bool.eq_false_or_eq_true (nodeB a.I e.I 0) with hT | hT
      · obtain ⟨p1, p2, p3⟩ := net_parts hN
        obtain ⟨hv, ht⟩ := node_iff.1 hO
        have hto := node0_iff.1 hT
        have hyl := (yR_ok hN (v := c.I) (t := d.I) hv (by omega) a.I.toNat).1
        have hAB : docA a.I b.L c.I d.I e.I = bestF a.I b.L c.I d.I e.I := ((arr_same hN hv ht).2.2 e.I.toNat (by omega)).symm
        have hA : rg (reachF b.L a.I.toNat (beginF a.I c.I d.I)) e.I.toNat = docA a.I b.L c.I d.I e.I := rfl
        simp only [rg_def, hA, hAB]
        refine go_true (by rw [hN, hO, hT]; rfl) (go_if (fun c1 => ?_) fun c1 => ?_)
        · exact go_notT hN (go_notT hO (go_notT hT (go_yes ⟨hN, hv, by omega⟩ (go_dec (by omega) (go_dec (by omega) (go_pos c1 rfl))))))
        · obtain ⟨b1, b2, b3, b4, b5⟩ := ways_same hN hv ht hto (by omega)
          have hlen := way_len (r := b.L) (q := qE a.I b.L e.I (bestF a.I b.L c.I d.I e.I)) (hopsE a.I b.L c.I d.I e.I (bestF a.I b.L c.I d.I e.I) 0) c.I d.I
          have hlen : (progW a.I b.L c.I d.I e.I).length ≤ hopsE a.I b.L c.I d.I e.I (bestF a.I b.L c.I d.I e.I) 0 := hlen
          rw [b4]
          refine go_ite (fun c2 => ?_) fun c2 => ?_
          · refine go_notT hN (go_notT hO (go_notT hT (go_yes ⟨hN, hv, by omega⟩ (go_dec (by omega) (go_dec (by omega) (go_neg c1 (go_yes ⟨hN, hv, ht, hto, by omega⟩ (go_true c2 (go_false rfl (go_false (by simp) (go_false rfl (go_yes ⟨by trivial, trivial⟩ rfl))))))))))))
          · refine go_notT hN (go_notT hO (go_notT hT (go_yes ⟨hN, hv, by omega⟩ (go_dec (by omega) (go_dec (by omega) (go_neg c1 (go_yes ⟨hN, hv, ht, hto, by omega⟩ (go_false c2 (go_false rfl (go_false (by simp) (go_false (by simp) ?_)))))))))))
            refine go_yes ⟨rfl, by omega, by omega, rfl, by omega, by omega, by omega⟩ (go_true ?_ rfl)
            rw [allFrom_iff]
            intro j _ _
            unfold sameH
            simp
      · exact go_false (by rw [hT, Bool.and_false]) (go_notT hN (go_notT hO (go_notF hT rfl)))
    · exact go_false (by rw [hN, hO]; rfl) (go_notT hN (go_notF hO rfl))
  · exact go_false (by rw [hN]; rfl) (go_notF hN rfl)
theorem rescueWays_law : rescueWaysLaw := fun xs hx =>
  law_true_wfW hC (sp := sp4) (lp := lp4) (sw := sw4) (n := 12) ⟨ok15 11, ok23 5, ok19 9, ok20 11, ok22 9, ok24 8, trivial⟩ trivial (by kernel_rfl) [13] (by kernel_rfl) (by kernel_rfl) (fun k hk L hL => by
      simp at hk
      subst hk
      cases hL
      exact ok4_13 0)
    (ts := [24, 3, 3, 3]) (ks := s4.args) (by kernel_rfl) (of_decide_eq_true (by kernel_rfl)) (m := 5) (by kernel_rfl) (fun ds hl _ => by
      match ds, hl with
      | [a, b, c, d, e], _ => exact law4 a b c d e) 12 xs hx
theorem rescue_ways : Rows.RescueWaysSaid := rescueWays_over rescueWays_law
end Go.Proofs.Ytgmefblkmidglaa
