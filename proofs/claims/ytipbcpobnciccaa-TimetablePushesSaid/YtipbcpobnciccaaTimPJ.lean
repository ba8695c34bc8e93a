/-
  The law of pushing holds for every input.
-/
import Derived.Test.YtipbcpobnciccaaTimK
import Derived.Test.YtipbcpobnciccaaTimPG
import Derived.Test.YtipbcpobnciccaaTimPI
import Derived.Test.YtipbcpobnciccaaTimTreeI
import Derived.Test.YtipbcpobnciccaaTimetablePushesOver
namespace Go.Proofs.Ytipbcpobnciccaa
open Go.Lite
set_option maxRecDepth 100000
theorem law10 (a b c : D) : (fnT C tab10 10 s10 [a, b, c]).run = some [D.b true] := by
  have hbig := big_eq
  refine (congrArg T.run (t10 a b c)).trans ?_
  refine go_not (fun _ => rfl) fun hf => ?_
  have hb := few_lt hf
  refine go_if (fun _ => rfl) fun c60 => go_yes ⟨hb, by omega⟩ ?_
  by_cases hn : netOk a.I b.L = true
  case neg =>
    have hn' : netOk a.I b.L = false := by simpa using hn
    exact go_false (by rw [hn', Bool.false_and]) (go_yes hb (go_notF hn' (go_true rfl (go_true rfl rfl))))
  have hp : netP a.I b.L := hn
  obtain ⟨k1, k2, k3, k4⟩ := net_of hp
  by_cases ht : timesB a.I c.L = true
  case neg =>
    have ht' : timesB a.I c.L = false := by simpa using ht
    exact go_false (by rw [ht', Bool.and_false]) (go_yes hb (go_notT hn (go_yes ⟨by omega, k1⟩ (go_notF ht' (go_true rfl (go_true rfl rfl))))))
  refine go_true (by rw [hn, ht]; rfl) ?_
  obtain ⟨e1, e2, hr⟩ := times_of ht
  have hl := good_all hp
  have hla := len_allL a.I b.L
  have htl : c.L.length = a.I.toNat := by omega
  have hlen : (pushR a.I (allL a.I b.L) c.L).1.length = a.I.toNat := (sim_push hl htl).l1
  obtain ⟨r1, r2⟩ := ref_pushT hp c.L
  obtain ⟨z1, z2⟩ := ref_push hp
  have hbn : bndR c.L 1099511627776 := fun j => by have := hr j; omega
  by_cases ho : (pushR a.I (allL a.I b.L) c.L).2.2 < 0 ∧ rg (pushR a.I (allL a.I b.L) c.L).1 0 = 0
  · obtain ⟨o1, o2⟩ := ho
    have hk := kept_push hl htl o1
    have hle := push_le hl htl
    have hz := (push_least hp hk (fun j => by have := hle j; have := hr j; omega)).1
    refine go_true (by rw [decide_eq_true o1, o2]; rfl) (go_yes hb (go_notT hn (go_yes ⟨by omega, k1⟩ (go_notT ht (go_yes hp (go_notT (by rw [z2]; exact decide_eq_true hz) (go_yes ⟨hp, e1, hbn⟩ (go_notT ?_ (go_true rfl ?_)))))))))
    · unfold refOk
      rw [r1, o2, decide_eq_true (r2.2 o1)]
      rfl
    · rw [r1]
      refine go_dec (by omega) (go_dec (by omega) ?_)
      have htk : List.take a.I.toNat (pushR a.I (allL a.I b.L) c.L).1 = (pushR a.I (allL a.I b.L) c.L).1 := List.take_of_length_le (by omega)
      rw [htk]
      exact go_yes (by omega) (go_true (sameR_refl _) rfl)
  · have hf2 : (decide ((pushR a.I (allL a.I b.L) c.L).2.2 < 0) && rg (pushR a.I (allL a.I b.L) c.L).1 0 == 0) = false := by
      rw [← Bool.not_eq_true, Bool.and_eq_true, decide_eq_true_eq, beq_iff_eq]
      exact ho
    have hrf : refOk a.I b.L c.L = false := by
      unfold refOk
      rw [r1, ← Bool.not_eq_true, Bool.and_eq_true, decide_eq_true_eq, beq_iff_eq, r2]
      exact ho
    refine go_false hf2 (go_yes hb (go_notT hn (go_yes ⟨by omega, k1⟩ (go_notT ht (go_yes hp (go_not (fun _ => go_true rfl (go_true rfl rfl)) fun _ => go_yes ⟨hp, e1, hbn⟩ (go_notF hrf (go_true rfl (go_true rfl rfl)))))))))
set_option maxRecDepth 100000 in
theorem timetablePushes_law : timetablePushesLaw := fun xs hx =>
  law_true_wf hC (sp := sp10) (lp := lp10) (n := 12) ⟨ok15 11, ok16, ok34 6, ok18 10, ok35 11, ok19 8, ok36 9, ok21 11, trivial⟩ (by kernel_rfl) [] (by kernel_rfl) rfl (fun k hk => by cases hk)
    (ts := [3, 22, 25]) (ks := s10.args) (by kernel_rfl) (of_decide_eq_true (by kernel_rfl)) (m := 3) (by kernel_rfl) (fun ds hl _ => by
      match ds, hl with
      | [a, b, c], _ => exact law10 a b c) 12 xs hx
theorem timetable_pushes : Rows.TimetablePushesSaid := timetablePushes_over timetablePushes_law
end Go.Proofs.Ytipbcpobnciccaa
