/-
  The function that pushes times computes what its word says.
-/
import Derived.Test.YtipbcpobnciccaaTimPH
import Derived.Test.YtipbcpobnciccaaTimTreeH0
namespace Go.Proofs.Ytipbcpobnciccaa
open Go.Lite
set_option maxRecDepth 100000
theorem ok67 (n : Nat) : FnOK C (n + 1) 67 (mkF s67 Gcl1) := by
  refine fn_ofS hC (sp := sp67) (lp := lp67) (sw := sw67) trivial trivial (by kernel_rfl) [] (by kernel_rfl) rfl (fun k hk => by cases hk) fun ds rr h => ?_
  unfold Gcl1 at h
  split at h
  · rename_i l
    obtain ⟨hp, h⟩ := need_some h
    rw [yes_iff] at hp
    obtain ⟨h1, h2⟩ := hp
    refine (congrArg T.run (t67 l)).trans ?_
    have hne : l.L.isEmpty = false := by cases hl : l.L with
      | nil => exact absurd hl h1
      | cons c cs => rfl
    have b3 : Try.prog.types[3].bytes = 8 := by kernel_rfl
    rw [b3]
    refine go_need (by rw [hne]; rfl) (go_false hne (go_dec (by omega) h))
  · cases h
theorem run_true {α : Type} {a b : T α} : (T.ite true a b).run = a.run := rfl
theorem run_false {α : Type} {a b : T α} : (T.ite false a b).run = b.run := rfl
theorem times_of {n : Int} {t : List (List D)} (h : timesB n t = true) : (t.length : Int) = n ∧ rg t 0 = 0 ∧ ∀ j, 0 ≤ rg t j ∧ rg t j ≤ 1000000000 := by
  unfold timesB at h
  simp only [Bool.and_eq_true, allFrom_iff, decide_eq_true_eq, beq_iff_eq] at h
  refine ⟨h.2.1, h.2.2, fun j => ?_⟩
  by_cases hj : j < t.length
  · exact Lite.within_iff.1 (h.1 j (Nat.zero_le _) (by omega))
  · rw [rg_ge (by omega)]; omega
theorem ok34 (n : Nat) : FnOK C (n + 6) 34 (mkF s34 G34) := by
  refine fn_ofS hC (sp := sp34) (lp := lp34) (sw := sw34) ⟨ok47 n, ok1061 (n + 1), ok67 (n + 4), ok49 (n + 3), trivial⟩ ⟨ok68 (n + 4), trivial⟩ (by kernel_rfl) [] (by kernel_rfl) rfl (fun k hk => by cases hk) fun ds rr h => ?_
  unfold G34 at h
  split at h
  · rename_i n l t
    obtain ⟨hp, h⟩ := need_some h
    rw [yes_iff] at hp
    obtain ⟨h1, h2⟩ := hp
    refine (congrArg T.run (t34 n l t)).trans ?_
    rw [← h]
    have hb := big_eq
    refine go_yes h1 (go_not (fun hn => by rw [hn, Bool.false_and]; rfl) fun hn => ?_)
    have hp : netP n.I l.L := hn
    obtain ⟨k1, k2, k3, k4⟩ := net_of hp
    rw [hn, Bool.true_and]
    by_cases e1 : (t.L.length : Int) = n.I
    case neg =>
      have e2 : timesB n.I t.L = false := by
        unfold timesB
        rw [decide_eq_false e1, Bool.false_and, Bool.and_false]
      rw [e2]
      exact go_true (bne_iff_ne.2 e1) rfl
    refine go_false (by rw [e1]; exact bne_self_eq_false _) (go_dec (by omega) ?_)
    simp only [rg_def, Int.toNat_zero]
    by_cases e2 : rg t.L 0 = 0
    case neg =>
      have e3 : timesB n.I t.L = false := by
        unfold timesB
        rw [show (rg t.L 0 == 0) = false from beq_eq_false_iff_ne.2 e2, Bool.and_false, Bool.and_false]
      rw [e3]
      exact go_true (bne_iff_ne.2 e2) rfl
    refine go_false (by rw [e2]; rfl) (go_yes h2 (go_not (fun c => ?_) fun c => ?_))
    · have e3 : timesB n.I t.L = false := by
        unfold timesB
        rw [c, Bool.false_and]
      rw [e3]
      rfl
    have e3 : timesB n.I t.L = true := by
      unfold timesB
      rw [c, decide_eq_true e1, e2]
      rfl
    rw [e3, run_true]
    obtain ⟨-, -, hr⟩ := times_of e3
    have hg := good_all hp
    have hla := len_allL n.I l.L
    simp only [Int.toNat_natCast, List.take_length]
    have hlen : (pushR n.I (allL n.I l.L) t.L).1.length = t.L.length := (len_roundsR _ _ _).1
    refine go_yes ⟨fun e => by rw [e] at e1; simp at e1; omega, by omega⟩ (go_yes hp (go_dec (Nat.le_refl _) (go_yes ⟨hg, e1, e1, fun j => by have := hr j; omega⟩ ?_)))
    by_cases e4 : (pushR n.I (allL n.I l.L) t.L).2.2 < 0
    case neg =>
      rw [decide_eq_false e4, Bool.false_and]
      exact go_pos (by omega) rfl
    rw [decide_eq_true e4, Bool.true_and]
    refine go_neg (by omega) (go_dec (by omega) (go_dec (by omega) ?_))
    rw [e1]
    by_cases e5 : rg (pushR n.I (allL n.I l.L) t.L).1 0 = 0
    · rw [e5]
      exact go_false rfl rfl
    · rw [show (rg (pushR n.I (allL n.I l.L) t.L).1 0 == 0) = false from beq_eq_false_iff_ne.2 e5]
      exact go_true (bne_iff_ne.2 e5) rfl
  · cases h
end Go.Proofs.Ytipbcpobnciccaa
