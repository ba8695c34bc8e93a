/-
  The law of earliest timetables holds for every input.
-/
import Derived.Test.YtipbcpobnciccaaTimF
import Derived.Test.YtipbcpobnciccaaTimPE
import Derived.Test.YtipbcpobnciccaaTimetableEarliestOver
namespace Go.Proofs.Ytipbcpobnciccaa
open Go.Lite
set_option maxRecDepth 100000
theorem room_le {t : List (List D)} {p q : Int} (hq : 0 ≤ p) (h : room t (q + p)) : room t q := by
  obtain ⟨M, h1, h2⟩ := h
  exact ⟨M, h1, by omega⟩
theorem room_rounds {n : Int} {l : List (List D)} (hl : goodL n l) : ∀ (k : Nat) {s : RSt}, (s.1.length : Int) = n → ∀ {q : Int}, room s.1 (q + l.length * k) → room (roundsR l k s).1 q
  | 0, s, _, q, h => by
    have e : q + (l.length : Int) * ((0 : Nat) : Int) = q := by simp
    rw [e] at h
    exact h
  | k + 1, s, hs, q, h => by
    have e : q + (l.length : Int) * ((k + 1 : Nat) : Int) = q + (l.length : Int) * (k : Int) + (l.length : Int) := by
      rw [show ((k + 1 : Nat) : Int) = (k : Int) + 1 from rfl, Int.mul_add, Int.mul_one, Int.add_assoc]
    rw [e] at h
    have h1 := room_pass hl l.length 0 (by omega) (s := (s.1, s.2.1, -1)) hs h
    simp only [roundsR]
    split
    · exact room_le (Int.mul_nonneg (by omega) (by omega)) h1
    · exact room_rounds hl k (by rw [(len_passR l l.length 0 (s.1, s.2.1, -1)).1]; exact hs) h1
theorem room_push {n : Int} {l : List (List D)} (hl : goodL n l) (j : Nat) : rg (pushR n l (zeros n)).1 j < 9223372036854775808 := by
  obtain ⟨g1, g2, g3, -⟩ := id hl
  have hz := len_zeros n
  have h : room (pushR n l (zeros n)).1 0 := room_rounds hl _ (by simp only; omega) (by
    refine ⟨0, fun j => by simp only; rw [rg_zeros]; omega, ?_⟩
    have : (l.length : Int) * ((n.toNat + 1 : Nat) : Int) ≤ 5500 * 501 := Int.mul_le_mul (by omega) (by omega) (by omega) (by omega)
    omega)
  have := room_rg h (by omega) j
  omega
theorem sameR_refl (a : List (List D)) : sameR a a = true := by
  unfold sameR
  rw [Bool.and_eq_true, allFrom_iff]
  exact ⟨decide_eq_true rfl, fun j _ _ => beq_self_eq_true _⟩
set_option maxRecDepth 100000 in
theorem law6 (a b : D) : (fnT C tab6 6 s6 [a, b]).run = some [D.b true] := by
  have hbig := big_eq
  refine (congrArg T.run (t6 a b)).trans ?_
  refine go_not (fun _ => rfl) fun hf => ?_
  have hb := few_lt hf
  refine go_yes hb (go_ite (fun hn => go_if (fun hr => ?_) fun hr => ?_) fun hn => ?_)
  · have hp : netP a.I b.L := hn
    obtain ⟨e1, e2⟩ := ref_push hp
    have hl := good_all hp
    obtain ⟨k1, k2, k3, k4⟩ := net_of hp
    have hlen : (pushR a.I (allL a.I b.L) (zeros a.I)).1.length = a.I.toNat := (sim_push hl (len_zeros _)).l1
    have ht : List.take a.I.toNat (pushR a.I (allL a.I b.L) (zeros a.I)).1 = (pushR a.I (allL a.I b.L) (zeros a.I)).1 := List.take_of_length_le (by omega)
    refine go_yes hb (go_notT hn (go_yes hp (go_notT (by rw [e2]; exact decide_eq_true hr) (go_true rfl (go_true rfl ?_)))))
    simp only [e1, ht]
    refine go_dec (by omega) (go_dec (by omega) (go_yes (by omega) (go_true (sameR_refl _) (go_dec (by omega) (go_yes ⟨hb, by omega, room_push hl⟩ (go_true ?_ rfl))))))
    rw [hn, Bool.true_and]
    exact keeps_push hp hr
  · have hp : netP a.I b.L := hn
    obtain ⟨e1, e2⟩ := ref_push hp
    have hpr := proof_proves hp hr
    refine go_yes hb (go_notT hn (go_yes hp (go_notF (by rw [e2]; exact decide_eq_false hr) (go_true rfl (go_true rfl ?_)))))
    simp only [Int.toNat_natCast, List.take_length]
    exact go_dec (Nat.le_refl _) (go_yes hp (go_true hpr (go_dec (Nat.le_refl _) (go_yes hb (go_true (by rw [hn, hpr]; rfl) rfl)))))
  · exact go_yes hb (go_notF hn (go_true rfl (go_true rfl rfl)))
set_option maxRecDepth 100000 in
theorem timetableEarliest_law : timetableEarliestLaw := fun xs hx =>
  law_true_wf hC (sp := sp6) (lp := lp6) (n := 12) ⟨ok15 11, ok16, ok28 6, ok18 10, ok19 8, ok29 9, ok30 6, ok21 11, ok31 6, trivial⟩ (by kernel_rfl) [] (by kernel_rfl) rfl (fun k hk => by cases hk)
    (ts := [3, 22]) (ks := s6.args) (by kernel_rfl) (of_decide_eq_true (by kernel_rfl)) (m := 2) (by kernel_rfl) (fun ds hl _ => by
      match ds, hl with
      | [a, b], _ => exact law6 a b) 12 xs hx
theorem timetable_earliest : Rows.TimetableEarliestSaid := timetableEarliest_over timetableEarliest_law
end Go.Proofs.Ytipbcpobnciccaa
