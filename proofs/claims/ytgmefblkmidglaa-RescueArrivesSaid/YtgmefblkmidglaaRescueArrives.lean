/-
  RescueArrives: the law holds for every input.
-/
import Derived.Test.YtgmefblkmidglaaResPE
import Derived.Test.YtgmefblkmidglaaResArr
import Derived.Test.YtgmefblkmidglaaRescueArrivesOver
namespace Go.Proofs.Ytgmefblkmidglaa
open Go.Lite
set_option maxRecDepth 100000
theorem node_iff {n v t : Int} : nodeB n v t = true ↔ (0 ≤ v ∧ v < n) ∧ 0 ≤ t ∧ t ≤ 100000 := by
  unfold nodeB
  rw [decide_eq_true_iff]
theorem ok17 (n : Nat) : FnOK C (n + 7) 17 (mkF s17 G17) := by
  refine fn_ofS hC (sp := sp17) (lp := lp17) (sw := sw17) ⟨ok18 (n + 4), ok45 (n + 5), ok46 n, trivial⟩ trivial (by kernel_rfl) [] (by kernel_rfl) rfl (fun k hk => by cases hk) fun ds r h => ?_
  unfold G17 at h
  split at h
  · rename_i m r' v t
    refine (congrArg T.run (t17 m r' v t)).trans ?_
    rw [← h]
    cases hN : netB m.I r'.L with
    | false => exact go_true rfl rfl
    | true =>
      obtain ⟨p1, p2, p3⟩ := net_parts hN
      rw [Bool.true_and, wrap_id (by omega) (by omega)]
      refine go_false rfl ?_
      simp only [within_dec]
      refine go_not (fun c1 => ?_) fun c1 => go_not (fun c2 => ?_) fun c2 => ?_
      · have c1 := of_decide_eq_false c1
        have : nodeB m.I v.I t.I = false := decide_eq_false (by omega)
        rw [this]
        rfl
      · have c2 := of_decide_eq_false c2
        have : nodeB m.I v.I t.I = false := decide_eq_false (by omega)
        rw [this]
        rfl
      · have c1 := of_decide_eq_true c1
        have c2 := of_decide_eq_true c2
        have hO : nodeB m.I v.I t.I = true := decide_eq_true (by omega)
        have hh := (search_ends hN (v := v.I) (t := t.I) (by omega) (by omega) (by omega)).1
        rw [hO, show ((m.I.toNat : Nat) : Int) = m.I by omega]
        exact go_yes ⟨by omega, by omega, by omega, by omega, hh⟩ rfl
  · cases h
theorem law3 (a b c d : D) : (fnT C (mkTab sp3 lp3 sw3) 3 s3 [a, b, c, d]).run = some [D.b true] := by
  refine (congrArg T.run (t3 a b c d)).trans (go_not (fun _ => rfl) fun _ => ?_)
  rcases Bool.eq_false_or_eq_true (netB a.I b.L) with hN | hN
  · rcases Bool.eq_false_or_eq_true (nodeB a.I c.I d.I) with hO | hO
    · obtain ⟨p1, p2, p3⟩ := net_parts hN
      obtain ⟨hv, ht⟩ := node_iff.1 hO
      obtain ⟨k1, k2, k3⟩ := arr_same hN hv ht
      have hb := big_eq
      refine go_true (by rw [hN, hO]; rfl) (go_false (by rw [hN]; rfl) (go_notT hN (go_notT hN (go_notT hO (go_true rfl (go_yes ⟨hN, hv, by omega⟩ (go_dec (by omega) (go_dec (by omega) ?_))))))))
      rw [List.take_of_length_le (by omega), List.take_of_length_le (by omega)]
      refine go_yes (by omega) (go_true ?_ rfl)
      unfold sameR
      rw [decide_eq_true (by omega), Bool.true_and, allFrom_iff]
      intro j _ hj
      rw [beq_iff_eq]
      exact k3 j (by omega)
    · exact go_false (by rw [hN, hO]; rfl) (go_false (by rw [hN]; rfl) (go_notT hN (go_notT hN (go_notF hO (go_true rfl (go_true rfl rfl))))))
  · exact go_false (by rw [hN]; rfl) (go_false (by rw [hN]; rfl) (go_notF hN (go_false (by rw [hN]; rfl) (go_notF hN (go_true rfl (go_true rfl rfl))))))
theorem rescueArrives_law : rescueArrivesLaw := fun xs hx =>
  law_true_wfW hC (sp := sp3) (lp := lp3) (sw := sw3) (n := 12) ⟨ok15 11, ok17 5, ok18 10, ok19 9, ok20 11, ok22 9, ok21 11, trivial⟩ trivial (by kernel_rfl) [] (by kernel_rfl) rfl (fun k hk => by cases hk)
    (ts := [24, 3, 3]) (ks := s3.args) (by kernel_rfl) (of_decide_eq_true (by kernel_rfl)) (m := 4) (by kernel_rfl) (fun ds hl _ => by
      match ds, hl with
      | [a, b, c, d], _ => exact law3 a b c d) 12 xs hx
theorem rescue_arrives : Rows.RescueArrivesSaid := rescueArrives_over rescueArrives_law
end Go.Proofs.Ytgmefblkmidglaa
