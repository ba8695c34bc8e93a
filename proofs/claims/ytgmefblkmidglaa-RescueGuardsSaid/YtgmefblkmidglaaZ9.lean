/-
  The statement of RescueGuards holds for every input; what it rests on stands in the parts before.
-/
import Derived.Test.YtgmefblkmidglaaZ8
import Derived.Test.YtgmefblkmidglaaRows
namespace Go.Proofs.Ytgmefblkmidglaa
open Go.Lite Go.ChangeShapes Go.WideShapes Go.ChangeAt Go.RowKit
theorem kids : Kids Try.prog (· < Try.prog.types.size) := kids_rows (by kernel_rfl) (by kernel_rfl)
theorem full : ∀ t e, t < Try.prog.types.size → Try.prog.underlying t = some (.slice e) → 0 < Try.prog.cellsOf e := slices_full_of Try.prog (by kernel_rfl)
end Go.Proofs.Ytgmefblkmidglaa
namespace Go.Proofs.Ytgmefblkmidglaa
open Go.Lite Go.ChangeShapes Go.WideShapes Go.ChangeAt Go.RowKit
def rescueGuardsLaw : Prop := ∀ xs : List AV, ArgsShape Try.prog 12 [70, 71] xs → ∃ n h', callA C n Unit none 11 xs [] () = some (.bool true, h', ())
theorem rescueGuards_plain : ∀ t ∈ [70, 71], plainTy Try.prog 12 t = true := by
  intro t ht
  have h : [70, 71].all (plainTy Try.prog 12) = true := by kernel_rfl
  exact List.all_eq_true.1 h t ht
set_option maxRecDepth 100000 in
theorem rescueGuards_lifted (law : rescueGuardsLaw) (os : Os) (started : os.Started) (H : Type) (enc : TypeId × Value → H) :
    ReturnsInHanded {} Try.checked os 11 .any (Rows.rescueGuardsSpec.pre6 enc Try.prog Try.f11 Rows.rescueGuardsRow.domain false) (Rows.rescueGuardsSpec.post enc Try.prog Try.f11 false true false false) := by
  refine returnsInHanded_of_change (C := Try.checked) own started (by kernel_rfl) Try.func11
    (ChangeSpec.witness6 (enc := enc) (C := Try.checked) false ⟨#[], #[.agg #[.int .i64 0, .int .i64 0, .int .i64 0, .int .i64 0, .int .i64 0, .int .i64 0], .slice none 0 0], []⟩ 8 (by kernel_rfl) (by kernel_rfl) (by kernel_rfl) (by kernel_rfl)) ?_
  intro W base args ds gs before hval0 hW hcnd _
  have hval : ∀ (j : Nat) t v, Try.f11.params[j]? = some t → args[j]? = some v → Value.okWide Try.prog W .any base t v := hval0
  have hW' := hW
  obtain ⟨p, q, hA0, hV, rfl, hfz, hnd⟩ := hW
  have hA : DataW.TrodAll enc Try.prog W 0 (fun _ => true) true Try.f11.params.toList args.toList ds p := hA0
  have hAk := hA
  rw [Try.params11] at hA hval
  obtain ⟨xs, hs, hr⟩ := args_shape (J := fun _ => False) (d := 12) (fun t ht => rescueGuards_plain t (by simpa using ht)) (fun j t v h1 h2 => hval j t v (by simpa using h1) (by simpa using h2)) hA
  obtain ⟨n, h', hc⟩ := law xs hs
  obtain ⟨v0, vs0, d0, ds0, p0, q0, hargs, rfl, rfl, h0, r0⟩ := trodAll_cons hA
  obtain ⟨v1, vs1, d1, ds1, p1, q1, rfl, rfl, rfl, h1, r1⟩ := trodAll_cons r0
  obtain ⟨rfl, rfl, rfl⟩ := trodAll_nil r1
  obtain rfl : args = #[v0, v1] := by cases args; simp_all
  obtain ⟨rfl, rfl⟩ := trodVars_none hV
  clear hA0 hval0
  simp only [List.append_nil] at hW'
  refine (law_calls (callsOk n) hc hr).mono fun e W' ⟨he, h1, h2, hk⟩ => ?_
  subst he
  have hlt : ∀ x ∈ p0 ++ p1, x.block < W.heap.size := fun x hx => hW'.lt x (by simpa [List.append_assoc] using hx)
  exact ⟨_, rfl, post_of_kept (pa := p0 ++ p1) (pv := []) hW' (fun _ _ _ => trodAll_mk1 (shut_bool Try.underlying4 _))
    (fun sp hsp => trodAll_carry (DataW.TrodAll.respare kids full (by rw [Try.params11]; decide) (by simpa [List.append_assoc, Rows.rescueGuardsSpec] using hAk) (fun x hx => hsp x (by simpa [List.append_assoc] using hx))) (fun x hx => sameAt_of (hk _ (hlt x hx))))
    (fun _ _ => rfl) (by simp) h1 h2 hk (ok_one (by kernel_rfl) rfl (okWide_bool_mk Try.underlying4 _))⟩
theorem rescueGuards_over (law : rescueGuardsLaw) : Rows.RescueGuardsSaid :=
  OpenClaim.holds_of_wide 11 Try.f11 rfl rfl rfl rfl rfl rfl rfl ⟨rfl, rfl, rfl, rfl, rfl⟩ rfl rfl rfl rfl rfl (by kernel_rfl) Try.func11 (by kernel_rfl)
    (of_decide_eq_true (by kernel_rfl)) (by unfold Func.isWrapper; first | (rw [if_pos (by decide +kernel)]; kernel_rfl) | (rw [if_neg (by decide +kernel)]; exact ⟨rfl, rfl⟩))
    (fun os started H enc _ => rescueGuards_lifted law os started H enc)
end Go.Proofs.Ytgmefblkmidglaa
namespace Go.Proofs.Ytgmefblkmidglaa
open Go.Lite
set_option maxRecDepth 100000
set_option linter.unusedVariables false
theorem all11 : AllOK C 30 sp11 := ⟨(ok34 28), (ok35 28), (ok36 29), trivial⟩
theorem allW11 : AllOKW C 30 sw11 := ⟨many_ok ⟨ok1037 21, ok2037 21, trivial⟩, trivial⟩
theorem ok11_10 : LoopSim C 30 11 (loopOf C.P 11 10) (mkL l11_10 G11_10) := by
  refine loop_ofK hC (sp := sp11) (lp := lp11) (sw := sw11) all11 allW11 0 [] (by kernel_rfl) rfl (fun k hk => by cases hk) (by kernel_rfl) (fun ds => (((ds.getD 1 default).L.length : Int) - (ds.getD 2 default).I).toNat) fun ds rr h => ?_
  unfold G11_10 at h
  split at h
  · rename_i j l i p0 p1 p2 p3 p4 p5 ov os oh cv cs ch nr np nc q0 q1 q2 q3 q4 q5 nd rd po ca da
    obtain ⟨hp, h⟩ := need_some h
    rw [yes_iff] at hp
    obtain ⟨hj, hl, ⟨hi0, hi1⟩, H⟩ := hp
    have hb := big_eq
    have H' := H
    obtain ⟨hG, hos, hcs, hq, hnd, hda, hcan, hun, hsame, hevl⟩ := H'
    obtain ⟨hPl, ⟨hr, hpo, hc⟩, ⟨l1, l2, l3⟩, hlo1, hlo2, hoc⟩ := hG
    have hr : nr.I = (rd.L.length : Int) := hr
    have hpo : np.I = (po.L.length : Int) := hpo
    have hc : nc.I = (ca.L.length : Int) := hc
    have l3 : (ca.L.length : Int) = p5.I := l3
    refine ⟨by rw [fuelC]; simp only [List.getD_cons_succ, List.getD_cons_zero]; omega, ?_⟩
    rw [roundTK_headG (j := j) (n := 0) hj (by decide), show (roundTK C (mkTab sp11 lp11 sw11) 11 (loopOf C.P 11 10) 0 l11_10 (.i 0 :: l :: i :: [p0, p1, p2, p3, p4, p5, ov, os, oh, cv, cs, ch, nr, np, nc, q0, q1, q2, q3, q4, q5, nd, rd, po, ca, da])).run = _ from t11_10_0 l i p0 p1 p2 p3 p4 p5 ov os oh cv cs ch nr np nc q0 q1 q2 q3 q4 q5 nd rd po ca da]
    obtain ⟨k, hk⟩ : ∃ k : Nat, i.I = k := ⟨i.I.toNat, by omega⟩
    simp only [hk, Int.toNat_natCast, hr, hpo, hc, hnd] at H h hi0 hi1 ⊢
    refine rd_if (fun hlt => ?_) fun hge => rd_out h
    have hk2 : k < l.L.length := by omega
    rw [wrap_succ (by omega)]
    have mu : ((l.L.length : Int) - ((k + 1 : Nat) : Int)).toNat < ((l.L.length : Int) - i.I).toNat := by omega
    refine rd_dec (by omega) (rd_yes H (rd_ite (fun c1 => ?_) fun c1 => rd_ite (fun c2 => ?_) fun c2 => ?_))
    · rw [Bool.and_eq_true] at c1
      refine rd_again ((need_yes ⟨rfl, hl, ⟨by simp only [I_i]; omega, by simp only [I_i, L_l]; omega⟩, rfl, by simp only [I_i, L_l, List.length_singleton]; omega, inv_hear H c1.2 (by decide)⟩).trans h) mu
    · rw [Bool.and_eq_true, Bool.and_eq_true] at c2
      obtain ⟨-, cv1, ce⟩ := c2
      have hv := validB_yes cv1
      obtain ⟨-, e⟩ := start_same hcan hun hv.1.1 (show _ < ((ca.L.length : Nat) : Int) by omega) ce
      refine rd_again ((need_yes ⟨rfl, hl, ⟨by simp only [I_i]; omega, by simp only [I_i, L_l]; omega⟩, inv_start H cv1 e⟩).trans h) mu
    · refine rd_again ((need_yes ⟨rfl, hl, ⟨by simp only [I_i]; omega, by simp only [I_i, L_l]; omega⟩, H⟩).trans h) mu
  · rename_i j l i p0 p1 p2 p3 p4 p5 ov os oh cv cs ch nr np nc q0 q1 q2 q3 q4 q5 ne nd rd po ca ev da
    obtain ⟨hp, h⟩ := need_some h
    rw [yes_iff] at hp
    obtain ⟨hj, hl, ⟨hi0, hi1⟩, hne, hev, H⟩ := hp
    have hb := big_eq
    have H' := H
    obtain ⟨hG, hos, hcs, hq, hnd, hda, hcan, hun, hsame, hevl⟩ := H'
    obtain ⟨hPl, ⟨hr, hpo, hc⟩, ⟨l1, l2, l3⟩, hlo1, hlo2, hoc⟩ := hG
    have hr : nr.I = (rd.L.length : Int) := hr
    have hpo : np.I = (po.L.length : Int) := hpo
    have hc : nc.I = (ca.L.length : Int) := hc
    have l3 : (ca.L.length : Int) = p5.I := l3
    refine ⟨by rw [fuelC]; simp only [List.getD_cons_succ, List.getD_cons_zero]; omega, ?_⟩
    rw [roundTK_headG (j := j) (n := 1) hj (by decide), show (roundTK C (mkTab sp11 lp11 sw11) 11 (loopOf C.P 11 10) 0 l11_10 (.i 1 :: l :: i :: [p0, p1, p2, p3, p4, p5, ov, os, oh, cv, cs, ch, nr, np, nc, q0, q1, q2, q3, q4, q5, ne, nd, rd, po, ca, ev, da])).run = _ from t11_10_1 l i p0 p1 p2 p3 p4 p5 ov os oh cv cs ch nr np nc q0 q1 q2 q3 q4 q5 ne nd rd po ca ev da]
    obtain ⟨k, hk⟩ : ∃ k : Nat, i.I = k := ⟨i.I.toNat, by omega⟩
    simp only [hk, Int.toNat_natCast, hne, hr, hpo, hc, hnd] at H h hi0 hi1 hev ⊢
    refine rd_if (fun hlt => ?_) fun hge => rd_out h
    have hk2 : k < l.L.length := by omega
    rw [wrap_succ (by omega)]
    have mu : ((l.L.length : Int) - ((k + 1 : Nat) : Int)).toNat < ((l.L.length : Int) - i.I).toNat := by omega
    refine rd_dec (by omega) (rd_yes ⟨by first | trivial | rfl, H⟩ (rd_ite (fun c1 => ?_) fun c1 => rd_ite (fun c2 => ?_) fun c2 => ?_))
    · rw [Bool.and_eq_true] at c1
      refine rd_again ((need_yes ⟨rfl, hl, ⟨by simp only [I_i]; omega, by simp only [I_i, L_l]; omega⟩, by simp only [I_i, L_l, List.length_append, List.length_singleton], by simp only [I_i, L_l, List.length_append, List.length_singleton]; omega, inv_hear H c1.2 (by omega)⟩).trans h) mu
    · rw [Bool.and_eq_true, Bool.and_eq_true] at c2
      obtain ⟨-, cv1, ce⟩ := c2
      have hv := validB_yes cv1
      obtain ⟨-, e⟩ := start_same hcan hun hv.1.1 (show _ < ((ca.L.length : Nat) : Int) by omega) ce
      refine rd_again ((need_yes ⟨rfl, hl, ⟨by simp only [I_i]; omega, by simp only [I_i, L_l]; omega⟩, rfl, by simp only [I_i, L_l]; omega, inv_start H cv1 e⟩).trans h) mu
    · refine rd_again ((need_yes ⟨rfl, hl, ⟨by simp only [I_i]; omega, by simp only [I_i, L_l]; omega⟩, rfl, by simp only [I_i, L_l]; omega, H⟩).trans h) mu
  · cases h
theorem law11 (a b c d e f g : D) : (fnT C (mkTab sp11 lp11 sw11) 11 s11 [a, b, c, d, e, f, g]).run = some [D.b true] := by
  refine (t11 a b c d e f g).trans ?_
  refine go_if (fun _ => rfl) fun h1 => go_ite (fun hp => go_not (fun h => absurd (hp.symm.trans h) (by decide)) fun _ => ?_) fun hp => go_not (fun _ => rfl) fun h => absurd (hp.symm.trans h) (by decide)
  have hp' := of_decide_eq_true hp
  refine go_yes (by omega) (go_yes ⟨by first | trivial | rfl, by omega, ⟨by omega, by omega⟩, ?_⟩ rfl)
  have H := inv_new hp
  have e1 : ((a.I.toNat : Nat) : Int) = a.I := by omega
  have e2 : ((f.I.toNat : Nat) : Int) = f.I := by omega
  rw [e1, e2]
  exact H
theorem rescueGuards_law : rescueGuardsLaw := fun xs hx =>
  law_true_wfW hC (sp := sp11) (lp := lp11) (sw := sw11) (n := 30) all11 allW11 (by kernel_rfl) [10] (by kernel_rfl) (by kernel_rfl) (fun k hk L hL => by simp at hk; subst hk; cases hL; exact ok11_10)
    (ts := [70, 71]) (ks := s11.args) (by kernel_rfl) (of_decide_eq_true (by kernel_rfl)) (m := 7) (by kernel_rfl) (fun ds hl _ => by
      match ds, hl with
      | [a, b, c, d, e, f, g], _ => exact law11 a b c d e f g) 12 xs hx
theorem rescue_guards : Rows.RescueGuardsSaid := rescueGuards_over rescueGuards_law
end Go.Proofs.Ytgmefblkmidglaa
