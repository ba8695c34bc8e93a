/-
  The statement of RescueOrder holds for every input; what it rests on stands in the parts before.
-/
import Derived.Test.YtgmefblkmidglaaZo7
import Derived.Test.YtgmefblkmidglaaRows
namespace Go.Proofs.Ytgmefblkmidglaa
open Go.Lite Go.ChangeShapes Go.WideShapes Go.ChangeAt Go.RowKit
theorem kids : Kids Try.prog (· < Try.prog.types.size) := kids_rows (by kernel_rfl) (by kernel_rfl)
theorem full : ∀ t e, t < Try.prog.types.size → Try.prog.underlying t = some (.slice e) → 0 < Try.prog.cellsOf e := slices_full_of Try.prog (by kernel_rfl)
end Go.Proofs.Ytgmefblkmidglaa
namespace Go.Proofs.Ytgmefblkmidglaa
open Go.Lite Go.ChangeShapes Go.WideShapes Go.ChangeAt Go.RowKit
def rescueOrderLaw : Prop := ∀ xs : List AV, ArgsShape Try.prog 12 [70, 71, 85, 3, 3] xs → ∃ n h', callA C n Unit none 12 xs [] () = some (.bool true, h', ())
theorem rescueOrder_plain : ∀ t ∈ [70, 71, 85, 3, 3], plainTy Try.prog 12 t = true := by
  intro t ht
  have h : [70, 71, 85, 3, 3].all (plainTy Try.prog 12) = true := by kernel_rfl
  exact List.all_eq_true.1 h t ht
set_option maxRecDepth 100000 in
theorem rescueOrder_lifted (law : rescueOrderLaw) (os : Os) (started : os.Started) (H : Type) (enc : TypeId × Value → H) :
    ReturnsInHanded {} Try.checked os 12 .any (Rows.rescueOrderSpec.pre6 enc Try.prog Try.f12 Rows.rescueOrderRow.domain false) (Rows.rescueOrderSpec.post enc Try.prog Try.f12 false true false false) := by
  refine returnsInHanded_of_change (C := Try.checked) own started (by kernel_rfl) Try.func12
    (ChangeSpec.witness6 (enc := enc) (C := Try.checked) false ⟨#[], #[.agg #[.int .i64 0, .int .i64 0, .int .i64 0, .int .i64 0, .int .i64 0, .int .i64 0], .slice none 0 0, .slice none 0 0, .int .i64 0, .int .i64 0], []⟩ 8 (by kernel_rfl) (by kernel_rfl) (by kernel_rfl) (by kernel_rfl)) ?_
  intro W base args ds gs before hval0 hW hcnd _
  have hval : ∀ (j : Nat) t v, Try.f12.params[j]? = some t → args[j]? = some v → Value.okWide Try.prog W .any base t v := hval0
  have hW' := hW
  obtain ⟨p, q, hA0, hV, rfl, hfz, hnd⟩ := hW
  have hA : DataW.TrodAll enc Try.prog W 0 (fun _ => true) true Try.f12.params.toList args.toList ds p := hA0
  have hAk := hA
  rw [Try.params12] at hA hval
  obtain ⟨xs, hs, hr⟩ := args_shape (J := fun _ => False) (d := 12) (fun t ht => rescueOrder_plain t (by simpa using ht)) (fun j t v h1 h2 => hval j t v (by simpa using h1) (by simpa using h2)) hA
  obtain ⟨n, h', hc⟩ := law xs hs
  obtain ⟨v0, vs0, d0, ds0, p0, q0, hargs, rfl, rfl, h0, r0⟩ := trodAll_cons hA
  obtain ⟨v1, vs1, d1, ds1, p1, q1, rfl, rfl, rfl, h1, r1⟩ := trodAll_cons r0
  obtain ⟨v2, vs2, d2, ds2, p2, q2, rfl, rfl, rfl, h2, r2⟩ := trodAll_cons r1
  obtain ⟨v3, vs3, d3, ds3, p3, q3, rfl, rfl, rfl, h3, r3⟩ := trodAll_cons r2
  obtain ⟨v4, vs4, d4, ds4, p4, q4, rfl, rfl, rfl, h4, r4⟩ := trodAll_cons r3
  obtain ⟨rfl, rfl, rfl⟩ := trodAll_nil r4
  obtain rfl : args = #[v0, v1, v2, v3, v4] := by cases args; simp_all
  obtain ⟨rfl, rfl⟩ := trodVars_none hV
  clear hA0 hval0
  simp only [List.append_nil] at hW'
  refine (law_calls (callsOk n) hc hr).mono fun e W' ⟨he, h1, h2, hk⟩ => ?_
  subst he
  have hlt : ∀ x ∈ p0 ++ p1 ++ p2 ++ p3 ++ p4, x.block < W.heap.size := fun x hx => hW'.lt x (by simpa [List.append_assoc] using hx)
  exact ⟨_, rfl, post_of_kept (pa := p0 ++ p1 ++ p2 ++ p3 ++ p4) (pv := []) hW' (fun _ _ _ => trodAll_mk1 (shut_bool Try.underlying4 _))
    (fun sp hsp => trodAll_carry (DataW.TrodAll.respare kids full (by rw [Try.params12]; decide) (by simpa [List.append_assoc, Rows.rescueOrderSpec] using hAk) (fun x hx => hsp x (by simpa [List.append_assoc] using hx))) (fun x hx => sameAt_of (hk _ (hlt x hx))))
    (fun _ _ => rfl) (by simp [List.append_assoc]) h1 h2 hk (ok_one (by kernel_rfl) rfl (okWide_bool_mk Try.underlying4 _))⟩
theorem rescueOrder_over (law : rescueOrderLaw) : Rows.RescueOrderSaid :=
  OpenClaim.holds_of_wide 12 Try.f12 rfl rfl rfl rfl rfl rfl rfl ⟨rfl, rfl, rfl, rfl, rfl⟩ rfl rfl rfl rfl rfl (by kernel_rfl) Try.func12 (by kernel_rfl)
    (of_decide_eq_true (by kernel_rfl)) (by unfold Func.isWrapper; first | (rw [if_pos (by decide +kernel)]; kernel_rfl) | (rw [if_neg (by decide +kernel)]; exact ⟨rfl, rfl⟩))
    (fun os started H enc _ => rescueOrder_lifted law os started H enc)
end Go.Proofs.Ytgmefblkmidglaa
namespace Go.Proofs.Ytgmefblkmidglaa
open Go.Lite
set_option maxRecDepth 100000
set_option linter.unusedVariables false
set_option linter.unusedSimpArgs false
theorem gs_start {p0 p1 p2 p3 p4 p5 car t : Int} (ov : Bool) (os : Int) (oh cv : Bool) (cs : Int) (ch : Bool) (rd po ca : List (List D)) : gsOf (.b ov) (.i os) (.b oh) (.b cv) (.i cs) (.b ch) (.l rd) (.l po) (.l (startE p0 p1 p2 p3 p4 p5 car t (gsOf (.b ov) (.i os) (.b oh) (.b cv) (.i cs) (.b ch) (.l rd) (.l po) (.l ca))).ca) = startE p0 p1 p2 p3 p4 p5 car t (gsOf (.b ov) (.i os) (.b oh) (.b cv) (.i cs) (.b ch) (.l rd) (.l po) (.l ca)) := by
  unfold startE
  split <;> rfl
theorem all12 : AllOK C 30 sp12 := ⟨(ok34 28), (ok41 28), (ok42 28), trivial⟩
theorem allW12 : AllOKW C 30 sw12 := ⟨ok38x 27, ok39x 22, ok40x 23, trivial⟩
theorem ok12_8 : LoopSim C 30 12 (loopOf C.P 12 8) (mkL l12_8 G12_8) := by
  refine loop_ofK hC (sp := sp12) (lp := lp12) (sw := sw12) all12 allW12 0 [] (by kernel_rfl) rfl (fun k hk => by cases hk) (by kernel_rfl) (fun ds => (((ds.getD 0 default).L.length : Int) - (ds.getD 4 default).I).toNat) fun ds rr h => ?_
  unfold G12_8 at h
  split at h
  · rename_i l e car t i w0 w1 w2 w3 w4 w5 p0 p1 p2 p3 p4 p5 ov os oh cv cs ch nr np nc q0 q1 q2 q3 q4 q5 xv xs xh yv ys yh mr mp mc rd po ca rb pb cb
    obtain ⟨hp, h⟩ := need_some h
    rw [yes_iff] at hp
    obtain ⟨hl, ⟨hi0, hi1⟩, hP, he⟩ := hp
    obtain ⟨HA, HB, ⟨g0, g1, g2, g3, g4, g5⟩⟩ := hP
    have HA' := HA.okg
    have HB' := HB.okg
    obtain ⟨hPl, ⟨hr, hpo, hc⟩, ⟨l1, l2, l3⟩, -, -, -⟩ := HA'
    obtain ⟨-, ⟨kr, kpo, kc⟩, ⟨m1, m2, m3⟩, -, -, -⟩ := HB'
    have hr : nr.I = (rd.L.length : Int) := hr
    have hpo : np.I = (po.L.length : Int) := hpo
    have hc : nc.I = (ca.L.length : Int) := hc
    have l3 : (ca.L.length : Int) = p5.I := l3
    have kr : mr.I = (rb.L.length : Int) := kr
    have kpo : mp.I = (pb.L.length : Int) := kpo
    have kc : mc.I = (cb.L.length : Int) := kc
    have m3 : (cb.L.length : Int) = q5.I := m3
    have he' := he
    simp only [gsOf, GS.mk.injEq] at he'
    obtain ⟨x1, x2, x3, x4, x5, x6, x7, x8, x9⟩ := he'
    have hb := big_eq
    refine ⟨by rw [fuelC]; simp only [List.getD_cons_succ, List.getD_cons_zero]; omega, ?_⟩
    rw [show (roundTK C (mkTab sp12 lp12 sw12) 12 (loopOf C.P 12 8) 0 l12_8 (l :: e :: car :: t :: i :: w0 :: w1 :: w2 :: w3 :: w4 :: w5 :: p0 :: p1 :: p2 :: p3 :: p4 :: p5 :: ov :: os :: [oh, cv, cs, ch, nr, np, nc, q0, q1, q2, q3, q4, q5, xv, xs, xh, yv, ys, yh, mr, mp, mc, rd, po, ca, rb, pb, cb])).run = _ from t12_8 l e car t i w0 w1 w2 w3 w4 w5 p0 p1 p2 p3 p4 p5 ov os oh cv cs ch nr np nc q0 q1 q2 q3 q4 q5 xv xs xh yv ys yh mr mp mc rd po ca rb pb cb]
    obtain ⟨k, hk⟩ : ∃ k : Nat, i.I = k := ⟨i.I.toNat, by omega⟩
    simp only [hk, x1, x2, x3, x4, x5, x6, x7, x8, x9, g0, g1, g2, g3, g4, g5, hr, hpo, hc, kr, kpo, kc, Int.toNat_natCast] at HA HB he h hi0 hi1 ⊢
    rw [he] at HB
    have hx : gsOf (.b ov.B) (.i os.I) (.b oh.B) (.b cv.B) (.i cs.I) (.b ch.B) (.l rd.L) (.l po.L) (.l ca.L) = (gsOf ov os oh cv cs ch rd po ca) := rfl
    refine rd_if (fun hlt => ?_) fun hge => rd_out ?_
    · have hk2 : k < l.L.length := by omega
      rw [wrap_succ (by omega)]
      have mu : ((l.L.length : Int) - ((k + 1 : Nat) : Int)).toNat < ((l.L.length : Int) - i.I).toNat := by omega
      rw [drop_step hk2, List.foldl_cons] at h
      refine rd_dec (by omega) (rd_ite (fun c1 => rd_yes HA (rd_yes (he ▸ HB) (rd_ite (fun c3 => ?_) fun c3 => ?_))) fun c1 => rd_ite (fun c3 => rd_yes HA (rd_yes (he ▸ HB) ?_)) fun c3 => ?_)
      · exfalso
        have h1 := eq_of_beq c1
        have h3 := eq_of_beq c3
        omega
      · rw [show doW p0.I p1.I p2.I p3.I p4.I p5.I (gsOf ov os oh cv cs ch rd po ca) (l.L.getD k []) = _ from if_pos (eq_of_beq c1)] at h
        refine rd_again ((need_yes ⟨hl, ⟨by simp only [I_i]; omega, by simp only [I_i, L_l]; omega⟩, ⟨by exact ok_hear HA .., by exact ok_hear HB .., ⟨rfl, rfl, rfl, rfl, rfl, rfl⟩⟩, by rfl⟩).trans ?_) mu
        rw [← h]; rfl
      · rw [show doW p0.I p1.I p2.I p3.I p4.I p5.I (gsOf ov os oh cv cs ch rd po ca) (l.L.getD k []) = _ from (if_neg (ne_of_beq_false c1)).trans (if_pos (eq_of_beq c3))] at h
        refine rd_again ((need_yes ⟨hl, ⟨by simp only [I_i]; omega, by simp only [I_i, L_l]; omega⟩, ⟨by rw [gs_start]; exact ok_start HA .., by rw [gs_start]; exact ok_start HB .., ⟨rfl, rfl, rfl, rfl, rfl, rfl⟩⟩, by rfl⟩).trans ?_) mu
        rw [← h, gs_start]; rfl
      · rw [show doW p0.I p1.I p2.I p3.I p4.I p5.I (gsOf ov os oh cv cs ch rd po ca) (l.L.getD k []) = _ from (if_neg (ne_of_beq_false c1)).trans (if_neg (ne_of_beq_false c3))] at h
        refine rd_again ((need_yes ⟨hl, ⟨by simp only [I_i]; omega, by simp only [I_i, L_l]; omega⟩, ⟨by exact HA, by exact HB, ⟨rfl, rfl, rfl, rfl, rfl, rfl⟩⟩, by rfl⟩).trans ?_) mu
        rw [← h]; rfl
    · rw [List.drop_eq_nil_of_le (by omega), List.foldl_nil] at h
      rw [← h]
      rfl
  · cases h
theorem ok12_18 : LoopSim C 30 12 (loopOf C.P 12 18) (mkL l12_18 G12_18) := by
  refine loop_ofK hC (sp := sp12) (lp := lp12) (sw := sw12) all12 allW12 0 [] (by kernel_rfl) rfl (fun k hk => by cases hk) (by kernel_rfl) (fun ds => (((ds.getD 0 default).L.length : Int) - (ds.getD 3 default).I).toNat) fun ds rr h => ?_
  unfold G12_18 at h
  split at h
  · rename_i e car t i w0 w1 w2 w3 w4 w5 p0 p1 p2 p3 p4 p5 ov os oh cv cs ch nr np nc q0 q1 q2 q3 q4 q5 xv xs xh yv ys yh mr mp mc rd po ca rb pb cb
    obtain ⟨hp, h⟩ := need_some h
    rw [yes_iff] at hp
    obtain ⟨hl, ⟨hi0, hi1⟩, hP, he⟩ := hp
    obtain ⟨HA, HB, ⟨g0, g1, g2, g3, g4, g5⟩⟩ := hP
    have HA' := HA.okg
    have HB' := HB.okg
    obtain ⟨hPl, ⟨hr, hpo, hc⟩, ⟨l1, l2, l3⟩, -, -, -⟩ := HA'
    obtain ⟨-, ⟨kr, kpo, kc⟩, ⟨m1, m2, m3⟩, -, -, -⟩ := HB'
    have hr : nr.I = (rd.L.length : Int) := hr
    have hpo : np.I = (po.L.length : Int) := hpo
    have hc : nc.I = (ca.L.length : Int) := hc
    have l3 : (ca.L.length : Int) = p5.I := l3
    have kr : mr.I = (rb.L.length : Int) := kr
    have kpo : mp.I = (pb.L.length : Int) := kpo
    have kc : mc.I = (cb.L.length : Int) := kc
    have m3 : (cb.L.length : Int) = q5.I := m3
    have hb := big_eq
    refine ⟨by rw [fuelC]; simp only [List.getD_cons_succ, List.getD_cons_zero]; omega, ?_⟩
    rw [show (roundTK C (mkTab sp12 lp12 sw12) 12 (loopOf C.P 12 18) 0 l12_18 (e :: car :: t :: i :: w0 :: w1 :: w2 :: w3 :: w4 :: w5 :: p0 :: p1 :: p2 :: p3 :: p4 :: p5 :: ov :: os :: [oh, cv, cs, ch, nr, np, nc, q0, q1, q2, q3, q4, q5, xv, xs, xh, yv, ys, yh, mr, mp, mc, rd, po, ca, rb, pb, cb])).run = _ from t12_18 e car t i w0 w1 w2 w3 w4 w5 p0 p1 p2 p3 p4 p5 ov os oh cv cs ch nr np nc q0 q1 q2 q3 q4 q5 xv xs xh yv ys yh mr mp mc rd po ca rb pb cb]
    obtain ⟨k, hk⟩ : ∃ k : Nat, i.I = k := ⟨i.I.toNat, by omega⟩
    simp only [hk, g0, g1, g2, g3, g4, g5, hr, hpo, hc, kr, kpo, kc, Int.toNat_natCast] at HA HB he h hi0 hi1 ⊢
    refine rd_if (fun hlt => ?_) fun hge => rd_out ?_
    · have hk2 : k < e.L.length := by omega
      have w1 : IntKind.i64.wrap (IntKind.i64.wrap ((e.L.length : Int) - 1) - (k : Int)) = ((e.L.length - 1 - k : Nat) : Int) := by
        rw [wrap_id (x := (e.L.length : Int) - 1) (by omega) (by omega), wrap_id (by omega) (by omega)]
        omega
      rw [wrap_succ (by omega), w1, Int.toNat_natCast]
      have mu : ((e.L.length : Int) - ((k + 1 : Nat) : Int)).toNat < ((e.L.length : Int) - i.I).toNat := by omega
      have hk3 : k < e.L.reverse.length := by rw [List.length_reverse]; exact hk2
      rw [drop_step hk2, List.foldl_cons, drop_step hk3, List.foldl_cons, rev_get hk2] at he
      rw [drop_step hk2, List.foldl_cons] at h
      refine rd_dec (by omega) (rd_yes HA (rd_dec (by omega) (rd_yes HB ?_)))
      refine rd_again ((need_yes ⟨hl, ⟨by simp only [I_i]; omega, by simp only [I_i, L_l]; omega⟩, ⟨by exact ok_hear HA .., by exact ok_hear HB .., ⟨rfl, rfl, rfl, rfl, rfl, rfl⟩⟩, by exact he⟩).trans ?_) mu
      rw [← h]; rfl
    · rw [List.drop_eq_nil_of_le (by rw [List.length_reverse]; omega), List.drop_eq_nil_of_le (by omega), List.foldl_nil, List.foldl_nil] at he
      rw [List.drop_eq_nil_of_le (by omega), List.foldl_nil] at h
      have he' := he
      simp only [gsOf, GS.mk.injEq] at he'
      obtain ⟨x1, x2, x3, x4, x5, x6, x7, x8, x9⟩ := he'
      simp only [x1, x2, x3, x4, x5, x6, x7, x8, x9] at h ⊢
      rw [← h]
      rfl
  · cases h
theorem ok12_27 : LoopSim C 30 12 (loopOf C.P 12 27) (mkL l12_27 G12_27) := by
  refine loop_ofK hC (sp := sp12) (lp := lp12) (sw := sw12) all12 allW12 0 [] (by kernel_rfl) rfl (fun k hk => by cases hk) (by kernel_rfl) (fun ds => (20 - (ds.getD 0 default).I).toNat) fun ds rr h => ?_
  unfold G12_27 at h
  split at h
  · rename_i i w0 w1 w2 w3 w4 w5 p0 p1 p2 p3 p4 p5 ov os oh cv cs ch nr np nc q0 q1 q2 q3 q4 q5 xv xs xh yv ys yh mr mp mc rd po ca rb pb cb
    obtain ⟨hp, h⟩ := need_some h
    rw [yes_iff] at hp
    obtain ⟨⟨hi0, hi1⟩, hw5, hP, he⟩ := hp
    obtain ⟨HA, HB, ⟨g0, g1, g2, g3, g4, g5⟩⟩ := hP
    have HA' := HA.okg
    have HB' := HB.okg
    obtain ⟨hPl, ⟨hr, hpo, hc⟩, ⟨l1, l2, l3⟩, -, -, -⟩ := HA'
    obtain ⟨-, ⟨kr, kpo, kc⟩, ⟨m1, m2, m3⟩, -, -, -⟩ := HB'
    have hr : nr.I = (rd.L.length : Int) := hr
    have hpo : np.I = (po.L.length : Int) := hpo
    have hc : nc.I = (ca.L.length : Int) := hc
    have l3 : (ca.L.length : Int) = p5.I := l3
    have kr : mr.I = (rb.L.length : Int) := kr
    have kpo : mp.I = (pb.L.length : Int) := kpo
    have kc : mc.I = (cb.L.length : Int) := kc
    have m3 : (cb.L.length : Int) = q5.I := m3
    have he' := he
    simp only [gsOf, GS.mk.injEq] at he'
    obtain ⟨x1, x2, x3, x4, x5, x6, x7, x8, x9⟩ := he'
    have hb := big_eq
    have hPl' := hPl
    unfold okPl at hPl'
    refine ⟨by rw [fuelC]; simp only [List.getD_cons_zero]; omega, ?_⟩
    rw [show (roundTK C (mkTab sp12 lp12 sw12) 12 (loopOf C.P 12 27) 0 l12_27 (i :: w0 :: w1 :: w2 :: w3 :: w4 :: w5 :: p0 :: p1 :: p2 :: p3 :: p4 :: p5 :: ov :: os :: [oh, cv, cs, ch, nr, np, nc, q0, q1, q2, q3, q4, q5, xv, xs, xh, yv, ys, yh, mr, mp, mc, rd, po, ca, rb, pb, cb])).run = _ from t12_27 i w0 w1 w2 w3 w4 w5 p0 p1 p2 p3 p4 p5 ov os oh cv cs ch nr np nc q0 q1 q2 q3 q4 q5 xv xs xh yv ys yh mr mp mc rd po ca rb pb cb]
    obtain ⟨k, hk⟩ : ∃ k : Nat, i.I = k := ⟨i.I.toNat, by omega⟩
    simp only [hk, hw5, x1, x2, x3, x4, x5, x6, x7, x8, x9, g0, g1, g2, g3, g4, g5, hr, hpo, hc, kr, kpo, kc, Int.toNat_natCast, List.take_length, beq_self_eq_true, Bool.and_self, Bool.not_true] at HA HB he h hi0 hi1 ⊢
    refine rd_if (fun hlt => rd_if (fun h20 => ?_) fun _ => rd_out h) fun _ => rd_out h
    have nn := Nat.le_refl rd.L.length
    have n2 := Nat.le_refl po.L.length
    have n3 := Nat.le_refl ca.L.length
    rw [wrap_succ (by omega)]
    have mu : (20 - ((k + 1 : Nat) : Int)).toNat < (20 - i.I).toNat := by omega
    refine rd_dec nn (rd_dec n2 (rd_dec n3 (rd_yes ⟨by omega, by omega, l3⟩ (rd_pos (by omega) (rd_dec nn (rd_dec n2 (rd_dec n3 (rd_yes ⟨by omega, by omega, l3⟩ (rd_pos (by omega) (rd_false rfl ?_))))))))))
    refine rd_again ((need_yes ⟨⟨by simp only [I_i]; omega, by simp only [I_i]; omega⟩, rfl, ⟨by exact HA, by rw [he] at HB; exact HB, ⟨rfl, rfl, rfl, rfl, rfl, rfl⟩⟩, by rfl⟩).trans h) mu
  · cases h
theorem law12 (a b c d e f g h i j : D) : (fnT C (mkTab sp12 lp12 sw12) 12 s12 [a, b, c, d, e, f, g, h, i, j]).run = some [D.b true] := by
  refine (t12 a b c d e f g h i j).trans ?_
  have hb := big_eq
  refine go_if (fun _ => rfl) fun h1 => go_if (fun _ => rfl) fun h2 => go_ite (fun hp => go_true hp ?_) fun hp => go_false hp rfl
  have hp' := of_decide_eq_true hp
  have e1 : ((a.I.toNat : Nat) : Int) = a.I := by omega
  have e2 : ((f.I.toNat : Nat) : Int) = f.I := by omega
  have O1 := ok_new hp
  have O2 := ok_folD g.L O1
  have R := fold_rev h.L O2
  have O3 := ok_fold h.L O2
  have z0 : (0 : Int).toNat = 0 := rfl
  simp only [Int.toNat_natCast, e1, e2, z0, List.drop_zero, List.take_length]
  change OkS _ _ _ _ _ _ _ _ _ (List.foldl _ (List.foldl _ (gsOf (D.b false) (D.i 0) (D.b false) (D.b false) (D.i 0) (D.b false) (D.l (List.replicate a.I.toNat lo0)) (D.l (List.replicate a.I.toNat lo0)) (D.l (List.replicate f.I.toNat ca1))) _) _) at O3
  change OkS _ _ _ _ _ _ _ _ _ (List.foldl _ (gsOf (D.b false) (D.i 0) (D.b false) (D.b false) (D.i 0) (D.b false) (D.l (List.replicate a.I.toNat lo0)) (D.l (List.replicate a.I.toNat lo0)) (D.l (List.replicate f.I.toNat ca1))) _) at O2
  change List.foldl _ (List.foldl _ (gsOf (D.b false) (D.i 0) (D.b false) (D.b false) (D.i 0) (D.b false) (D.l (List.replicate a.I.toNat lo0)) (D.l (List.replicate a.I.toNat lo0)) (D.l (List.replicate f.I.toNat ca1))) _) _ = List.foldl _ (List.foldl _ (gsOf (D.b false) (D.i 0) (D.b false) (D.b false) (D.i 0) (D.b false) (D.l (List.replicate a.I.toNat lo0)) (D.l (List.replicate a.I.toNat lo0)) (D.l (List.replicate f.I.toNat ca1))) _) _ at R
  have q0 : a.I = a.I ∧ b.I = b.I ∧ c.I = c.I ∧ d.I = d.I ∧ e.I = e.I ∧ f.I = f.I := ⟨rfl, rfl, rfl, rfl, rfl, rfl⟩
  refine go_yes ⟨by omega, ⟨by omega, by omega⟩, ⟨O1, O1, q0⟩, by first | trivial | rfl⟩ ?_
  generalize List.foldl (doW a.I b.I c.I d.I e.I f.I) (gsOf (D.b false) (D.i 0) (D.b false) (D.b false) (D.i 0) (D.b false) (D.l (List.replicate a.I.toNat lo0)) (D.l (List.replicate a.I.toNat lo0)) (D.l (List.replicate f.I.toNat ca1))) g.L = X1 at O2 O3 R ⊢
  refine go_yes ⟨by omega, ⟨by omega, by omega⟩, ⟨O2, O2, q0⟩, R⟩ ?_
  generalize List.foldl (hearW a.I f.I) X1 h.L = X2 at O3 ⊢
  refine go_yes O3 ?_
  have hrl := rulesF_len (ruleB a.I b.I c.I d.I e.I X2.ov X2.cv X2.rd X2.po X2.ca i.I j.I) 8 0 []
  simp only [List.length_nil] at hrl
  generalize rulesF (ruleB a.I b.I c.I d.I e.I X2.ov X2.cv X2.rd X2.po X2.ca i.I j.I) 0 8 [] = Q at hrl ⊢
  have OP : PairW a.I b.I c.I d.I e.I f.I a.I a.I f.I X2 a.I b.I c.I d.I e.I f.I a.I a.I f.I X2 := ⟨O3, O3, q0⟩
  refine go_ite (fun c1 => go_yes O3 (go_true c1 ?_)) fun c1 => go_yes O3 (go_false c1 ?_)
  · refine go_dec (Nat.le_refl _) (go_dec (Nat.le_refl _) (go_yes ⟨by omega, by omega⟩ (go_notT (sameI_self _) (go_yes ⟨⟨by omega, by omega⟩, by first | trivial | rfl, OP, by first | trivial | rfl⟩ rfl))))
  · refine go_false (by simp) (go_yes ⟨by simp only [List.length_nil]; omega, by simp only [List.length_nil]; omega⟩ (go_yes ⟨⟨by omega, by omega⟩, by first | trivial | rfl, OP, by first | trivial | rfl⟩ rfl))
theorem rescueOrder_law : rescueOrderLaw := fun xs hx =>
  law_true_wfW hC (sp := sp12) (lp := lp12) (sw := sw12) (n := 30) all12 allW12 (by kernel_rfl) [8, 18, 27] (by kernel_rfl) (by kernel_rfl) (fun k hk L hL => by
      simp at hk
      rcases hk with rfl | rfl | rfl
      · cases hL; exact ok12_8
      · cases hL; exact ok12_18
      · cases hL; exact ok12_27)
    (ts := [70, 71, 85, 3, 3]) (ks := s12.args) (by kernel_rfl) (of_decide_eq_true (by kernel_rfl)) (m := 10) (by kernel_rfl) (fun ds hl _ => by
      match ds, hl with
      | [a, b, c, d, e, f, g, h, i, j], _ => exact law12 a b c d e f g h i j) 12 xs hx
theorem rescue_order : Rows.RescueOrderSaid := rescueOrder_over rescueOrder_law
end Go.Proofs.Ytgmefblkmidglaa
