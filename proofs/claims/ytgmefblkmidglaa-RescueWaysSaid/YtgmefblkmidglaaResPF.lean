/-
  The program's arrivals compute what their word says.
-/
import Derived.Test.YtgmefblkmidglaaResPE
import Derived.Test.YtgmefblkmidglaaResArr
namespace Go.Proofs.Ytgmefblkmidglaa
open Go.Lite
set_option maxRecDepth 100000
theorem node_iff {n v t : Int} : nodeB n v t = true ↔ (0 ≤ v ∧ v < n) ∧ 0 ≤ t ∧ t ≤ 100000 := by
  unfold nodeB
  rw [decide_eq_true_iff]
theorem ok17 (n : Nat) : FnOK C (n + 7) 17 (mkF s17 G17) := by
  refine fn_ofS hC (sp := sp17) (lp := lp17) (sw := sw17) ⟨ok18 (n + 4), ok45 (n + 5), ok46 n, trivial⟩ trivial (by kernel_rfl) [] (by kernel_rfl) rfl (fun k hk => by cases hk) fun ds r h => ?_
  unfold G17 at h
  split at h
  · rename_i m r' v t
    refine (congrArg T.run (t17 m r' v t)).trans ?_
    rw [← h]
    cases hN : netB m.I r'.L with
    | false => exact go_true rfl rfl
    | true =>
      obtain ⟨p1, p2, p3⟩ := net_parts hN
      rw [Bool.true_and, wrap_id (by omega) (by omega)]
      refine go_false rfl ?_
      simp only [within_dec]
      refine go_not (fun c1 => ?_) fun c1 => go_not (fun c2 => ?_) fun c2 => ?_
      · have c1 := of_decide_eq_false c1
        have : nodeB m.I v.I t.I = false := decide_eq_false (by omega)
        rw [this]
        rfl
      · have c2 := of_decide_eq_false c2
        have : nodeB m.I v.I t.I = false := decide_eq_false (by omega)
        rw [this]
        rfl
      · have c1 := of_decide_eq_true c1
        have c2 := of_decide_eq_true c2
        have hO : nodeB m.I v.I t.I = true := decide_eq_true (by omega)
        have hh := (search_ends hN (v := v.I) (t := t.I) (by omega) (by omega) (by omega)).1
        rw [hO, show ((m.I.toNat : Nat) : Int) = m.I by omega]
        exact go_yes ⟨by omega, by omega, by omega, by omega, hh⟩ rfl
  · cases h
theorem arr_ok {n : Int} {r : List (List D)} {v t : Int} (hN : netB n r = true) (hv : 0 ≤ v ∧ v < n) (ht : 0 ≤ t ∧ t ≤ 100000) :
    okAt n 1000 (arrF n r v t) ∧ ∃ d, Least (edR r) n.toNat v t d ∧ ∀ u, u < n.toNat → cv (rg (arrF n r v t) u) = d u := by
  obtain ⟨h1, -, -⟩ := net_parts hN
  obtain ⟨-, hL⟩ := search_ends hN hv (by omega : 0 ≤ t ∧ t ≤ 1099511627776) ht.2
  obtain ⟨k1, k2⟩ := reach_least hN hv hL n.toNat (beginF n v t) 0 (Int.le_refl _) (by omega) (begin_ok (by omega) hv (by omega)) (begin_sound hv ht.1) (by
    unfold lateN
    refine Nat.le_trans (sumN_le (g' := fun _ => 1) fun u hu => by split <;> omega) ?_
    rw [sumN_const]
    omega)
  obtain ⟨s1, s2, s3⟩ := arr_same hN hv ht
  refine ⟨⟨by omega, fun u => ?_⟩, _, hL, fun u hu => by rw [s3 u hu]; exact k2 u hu⟩
  by_cases hu : u < n.toNat
  · rw [s3 u hu]; exact k1.2 u
  · rw [rg_ge (by omega)]; omega
end Go.Proofs.Ytgmefblkmidglaa
