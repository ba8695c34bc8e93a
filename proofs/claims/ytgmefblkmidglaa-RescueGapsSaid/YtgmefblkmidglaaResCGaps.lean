/-
  The statement of RescueGaps follows once the law is reckoned to be true for arguments of the right shapes.
  RescueGaps: the law holds for every input.
-/
import Derived.Test.YtgmefblkmidglaaOver
import Derived.Test.YtgmefblkmidglaaResGF
namespace Go.Proofs.Ytgmefblkmidglaa
open Go.Lite Go.ChangeShapes Go.WideShapes Go.ChangeAt Go.RowKit

def rescueGapsLaw : Prop := ∀ xs : List AV, ArgsShape Try.prog 12 [24, 47, 48, 3] xs → ∃ n h', callA C n Unit none 7 xs [] () = some (.bool true, h', ())
theorem rescueGaps_plain : ∀ t ∈ [24, 47, 48, 3], plainTy Try.prog 12 t = true := by
  intro t ht
  have h : [24, 47, 48, 3].all (plainTy Try.prog 12) = true := by kernel_rfl
  exact List.all_eq_true.1 h t ht
set_option maxRecDepth 100000 in
theorem rescueGaps_lifted (law : rescueGapsLaw) (os : Os) (started : os.Started) (H : Type) (enc : TypeId × Value → H) :
    ReturnsInHanded {} Try.checked os 7 .any (Rows.rescueGapsSpec.pre6 enc Try.prog Try.f7 Rows.rescueGapsRow.domain false) (Rows.rescueGapsSpec.post enc Try.prog Try.f7 false true false false) := by
  refine returnsInHanded_of_change (C := Try.checked) own started (by kernel_rfl) Try.func7
    (ChangeSpec.witness6 (enc := enc) (C := Try.checked) false ⟨#[], #[.agg #[.int .i64 0, .slice none 0 0], .slice none 0 0, .slice none 0 0, .int .i64 0], []⟩ 8 (by kernel_rfl) (by kernel_rfl) (by kernel_rfl) (by kernel_rfl)) ?_
  intro W base args ds gs before hval0 hW hcnd _
  have hval : ∀ (j : Nat) t v, Try.f7.params[j]? = some t → args[j]? = some v → Value.okWide Try.prog W .any base t v := hval0
  have hW' := hW
  obtain ⟨p, q, hA0, hV, rfl, hfz, hnd⟩ := hW
  have hA : DataW.TrodAll enc Try.prog W 0 (fun _ => true) true Try.f7.params.toList args.toList ds p := hA0
  have hAk := hA
  rw [Try.params7] at hA hval
  obtain ⟨xs, hs, hr⟩ := args_shape (J := fun _ => False) (d := 12) (fun t ht => rescueGaps_plain t (by simpa using ht)) (fun j t v h1 h2 => hval j t v (by simpa using h1) (by simpa using h2)) hA
  obtain ⟨n, h', hc⟩ := law xs hs
  obtain ⟨v0, vs0, d0, ds0, p0, q0, hargs, rfl, rfl, h0, r0⟩ := trodAll_cons hA
  obtain ⟨v1, vs1, d1, ds1, p1, q1, rfl, rfl, rfl, h1, r1⟩ := trodAll_cons r0
  obtain ⟨v2, vs2, d2, ds2, p2, q2, rfl, rfl, rfl, h2, r2⟩ := trodAll_cons r1
  obtain ⟨v3, vs3, d3, ds3, p3, q3, rfl, rfl, rfl, h3, r3⟩ := trodAll_cons r2
  obtain ⟨rfl, rfl, rfl⟩ := trodAll_nil r3
  obtain rfl : args = #[v0, v1, v2, v3] := by cases args; simp_all
  obtain ⟨rfl, rfl⟩ := trodVars_none hV
  clear hA0 hval0
  simp only [List.append_nil] at hW'
  refine (law_calls (callsOk n) hc hr).mono fun e W' ⟨he, h1, h2, hk⟩ => ?_
  subst he
  have hlt : ∀ x ∈ p0 ++ p1 ++ p2 ++ p3, x.block < W.heap.size := fun x hx => hW'.lt x (by simpa [List.append_assoc] using hx)
  exact ⟨_, rfl, post_of_kept (pa := p0 ++ p1 ++ p2 ++ p3) (pv := []) hW' (fun _ _ _ => trodAll_mk1 (shut_bool Try.underlying4 _))
    (fun sp hsp => trodAll_carry (DataW.TrodAll.respare kids full (by rw [Try.params7]; decide) (by simpa [List.append_assoc, Rows.rescueGapsSpec] using hAk) (fun x hx => hsp x (by simpa [List.append_assoc] using hx))) (fun x hx => sameAt_of (hk _ (hlt x hx))))
    (fun _ _ => rfl) (by simp [List.append_assoc]) h1 h2 hk (ok_one (by kernel_rfl) rfl (okWide_bool_mk Try.underlying4 _))⟩
theorem rescueGaps_over (law : rescueGapsLaw) : Rows.RescueGapsSaid :=
  OpenClaim.holds_of_wide 7 Try.f7 rfl rfl rfl rfl rfl rfl rfl ⟨rfl, rfl, rfl, rfl, rfl⟩ rfl rfl rfl rfl rfl (by kernel_rfl) Try.func7 (by kernel_rfl)
    (of_decide_eq_true (by kernel_rfl)) (by unfold Func.isWrapper; first | (rw [if_pos (by decide +kernel)]; kernel_rfl) | (rw [if_neg (by decide +kernel)]; exact ⟨rfl, rfl⟩))
    (fun os started H enc _ => rescueGaps_lifted law os started H enc)
end Go.Proofs.Ytgmefblkmidglaa

namespace Go.Proofs.Ytgmefblkmidglaa
open Go.Lite
set_option maxRecDepth 100000
set_option linter.unusedVariables false
theorem ok7_10 (n : Nat) : LoopSim C (n + 12) 7 (loopOf C.P 7 10) (mkL l7_10 G7_10) := by
  refine loop_ofK hC (sp := sp7) (lp := lp7) (sw := sw7) ⟨ok15 (n + 11), ok26 (n + 11), ok27 (n + 3), ok19 (n + 9), ok28 (n + 10), ok29 (n + 10), ok30 (n + 7), trivial⟩ trivial 0 [] (by kernel_rfl) rfl (fun k hk => by cases hk) (by kernel_rfl) (fun ds => if (ds.getD 0 default).I = 0 then 0 else (((ds.getD 4 default).L.length : Int) - (ds.getD 3 default).I).toNat) fun ds rr h => ?_
  unfold G7_10 at h
  split at h
  · rename_i j i
    obtain ⟨hp, h⟩ := need_some h
    rw [yes_iff] at hp
    obtain ⟨hj, hi⟩ := hp
    refine ⟨by rw [fuelC]; simp [hj], ?_⟩
    rw [roundTK_head (j := j) (n := 0) hj (by decide), show roundTK C (mkTab sp7 lp7 sw7) 7 (loopOf C.P 7 10) 0 l7_10 [.i 0, i] = _ from t7_10_0 i]
    exact rd_neg (by omega) (rd_out h)
  · rename_i j m m' i w x
    obtain ⟨hp, h⟩ := need_some h
    rw [yes_iff] at hp
    obtain ⟨hj, hm, hm', hwx, hw, hi0, hi1⟩ := hp
    refine ⟨by rw [fuelC]; simp [hj]; omega, ?_⟩
    rw [roundTK_head (j := j) (n := 3) hj (by decide), show roundTK C (mkTab sp7 lp7 sw7) 7 (loopOf C.P 7 10) 0 l7_10 [.i 3, m, m', i, w, x] = _ from t7_10_3 m m' i w x]
    obtain ⟨k, hk⟩ : ∃ k : Nat, i.I = k := ⟨i.I.toNat, by omega⟩
    simp only [hk, hm, hm', Int.toNat_natCast, Nat.reduceAdd, ix_def, Bool.and_true] at h hi0 hi1 ⊢
    refine rd_if (fun hlt => ?_) fun hge => rd_out (all_end h (by omega))
    obtain ⟨s1, s2⟩ := all_step h (by omega : k < w.L.length)
    refine rd_dec (by omega) (rd_dec (by omega) (rd_dec (by omega) (rd_dec (by omega) (rd_not (fun c => rd_out (s1 c)) fun c => ?_))))
    rw [wrap_succ (by omega)]
    refine rd_again ((need_yes ⟨rfl, rfl, rfl, hwx, hw, by simp only [I_i]; omega, by simp only [I_i, L_l]; omega⟩).trans (s2 c)) ?_
    show (if (3 : Int) = 0 then 0 else ((w.L.length : Int) - ((k + 1 : Nat) : Int)).toNat) < if j.I = 0 then 0 else ((w.L.length : Int) - i.I).toNat
    rw [if_neg (by omega), if_neg (by omega)]
    omega
  · cases h
theorem law7 (a b c d e : D) : (fnT C (mkTab sp7 lp7 sw7) 7 s7 [a, b, c, d, e]).run = some [D.b true] := by
  have hb := big_eq
  refine (congrArg T.run (t7 a b c d e)).trans (go_not (fun _ => rfl) fun _ => go_not (fun _ => rfl) fun hf => ?_)
  have hf : (((c.L.length : Int) ≤ 6 ∨ 60 < (c.L.length : Int) ∧ (c.L.length : Int) < 200) ∧ ((d.L.length : Int) ≤ 5 ∨ 100 < (d.L.length : Int) ∧ (d.L.length : Int) < 200) ∧ (e.I ≤ 40 ∨ 100000 < e.I)) := of_decide_eq_true hf
  refine go_ite (fun hC' => ?_) fun hC' => ?_
  · have hG := cover_parts (by omega) hC'
    have hG' := hG
    obtain ⟨hN, hv, hz, hvl, hzl, hh0, hh1⟩ := hG'
    obtain ⟨p1, p2, p3⟩ := net_parts hN
    have hsame : gapsA a.I b.L c.L d.L e.I = refZ a.I b.L c.L d.L e.I 0 d.L.length [] := gaps_same hG d.L.length 0 [] (by omega)
    have hlen := (refZ_len a.I b.L c.L d.L e.I d.L.length 0 []).2
    have hmul : d.L.length * e.I.toNat ≤ 100 * 100000 := Nat.mul_le_mul hzl (by omega)
    simp only [List.length_nil, Nat.zero_add] at hlen
    have hzz : (zons a.I d.L && decide (d.L.length ≤ 100)) = true := by rw [hz, Bool.true_and]; exact decide_eq_true hzl
    have hc60 : ¬ (c.L.length : Int) > 60 := by
      unfold coverB at hC'
      rw [Bool.and_eq_true, Bool.and_eq_true, Bool.and_eq_true, decide_eq_true_iff] at hC'
      omega
    rw [hsame]
    refine go_ite (fun c1 => ?_) fun c1 => ?_
    · refine go_notT hN (go_neg hc60 (go_yes ⟨p1, by omega⟩ (go_notT hv (go_yes ⟨p1, by omega⟩ (go_notT hzz (go_neg (by omega) (go_neg (by omega) (go_yes hG (go_true c1 (go_false rfl (go_false rfl (go_yes ⟨rfl, rfl⟩ rfl))))))))))))
    · refine go_notT hN (go_neg hc60 (go_yes ⟨p1, by omega⟩ (go_notT hv (go_yes ⟨p1, by omega⟩ (go_notT hzz (go_neg (by omega) (go_neg (by omega) (go_yes hG (go_false c1 (go_false rfl (go_false (by simp) ?_)))))))))))
      refine go_yes ⟨rfl, by omega, by omega, rfl, by omega, by omega, by omega⟩ (go_true ?_ rfl)
      rw [allFrom_iff]
      intro j _ _
      unfold sameG
      simp
  · refine go_not (fun hN => rfl) fun hN => ?_
    obtain ⟨p1, p2, p3⟩ := net_parts hN
    refine go_if (fun _ => rfl) fun c1 => go_yes ⟨p1, by omega⟩ (go_not (fun _ => rfl) fun c2 => go_yes ⟨p1, by omega⟩ (go_not (fun _ => rfl) fun c3 => go_if (fun _ => rfl) fun c4 => go_if (fun _ => rfl) fun c5 => ?_))
    rw [Bool.and_eq_true, decide_eq_true_iff] at c3
    unfold coverB at hC'
    rw [hN, c2, c3.1, decide_eq_true (by omega)] at hC'
    cases hC'
theorem rescueGaps_law : rescueGapsLaw := fun xs hx =>
  law_true_wfW hC (sp := sp7) (lp := lp7) (sw := sw7) (n := 12) ⟨ok15 11, ok26 11, ok27 3, ok19 9, ok28 10, ok29 10, ok30 7, trivial⟩ trivial (by kernel_rfl) [10] (by kernel_rfl) (by kernel_rfl) (fun k hk L hL => by
      simp at hk
      subst hk
      cases hL
      exact ok7_10 0)
    (ts := [24, 47, 48, 3]) (ks := s7.args) (by kernel_rfl) (of_decide_eq_true (by kernel_rfl)) (m := 5) (by kernel_rfl) (fun ds hl _ => by
      match ds, hl with
      | [a, b, c, d, e], _ => exact law7 a b c d e) 12 xs hx
theorem rescue_gaps : Rows.RescueGapsSaid := rescueGaps_over rescueGaps_law
end Go.Proofs.Ytgmefblkmidglaa
