/-
  The statement of RescueSafe holds for every input; what it rests on stands in the parts before.
-/
import Derived.Test.YtgmefblkmidglaaZs7
import Derived.Test.YtgmefblkmidglaaRows
namespace Go.Proofs.Ytgmefblkmidglaa
open Go.Lite Go.ChangeShapes Go.WideShapes Go.ChangeAt Go.RowKit
theorem kids : Kids Try.prog (· < Try.prog.types.size) := kids_rows (by kernel_rfl) (by kernel_rfl)
theorem full : ∀ t e, t < Try.prog.types.size → Try.prog.underlying t = some (.slice e) → 0 < Try.prog.cellsOf e := slices_full_of Try.prog (by kernel_rfl)
end Go.Proofs.Ytgmefblkmidglaa
namespace Go.Proofs.Ytgmefblkmidglaa
open Go.Lite Go.ChangeShapes Go.WideShapes Go.ChangeAt Go.RowKit
def rescueSafeLaw : Prop := ∀ xs : List AV, ArgsShape Try.prog 12 [70, 71, 3, 3] xs → ∃ n h', callA C n Unit none 13 xs [] () = some (.bool true, h', ())
theorem rescueSafe_plain : ∀ t ∈ [70, 71, 3, 3], plainTy Try.prog 12 t = true := by
  intro t ht
  have h : [70, 71, 3, 3].all (plainTy Try.prog 12) = true := by kernel_rfl
  exact List.all_eq_true.1 h t ht
set_option maxRecDepth 100000 in
theorem rescueSafe_lifted (law : rescueSafeLaw) (os : Os) (started : os.Started) (H : Type) (enc : TypeId × Value → H) :
    ReturnsInHanded {} Try.checked os 13 .any (Rows.rescueSafeSpec.pre6 enc Try.prog Try.f13 Rows.rescueSafeRow.domain false) (Rows.rescueSafeSpec.post enc Try.prog Try.f13 false true false false) := by
  refine returnsInHanded_of_change (C := Try.checked) own started (by kernel_rfl) Try.func13
    (ChangeSpec.witness6 (enc := enc) (C := Try.checked) false ⟨#[], #[.agg #[.int .i64 0, .int .i64 0, .int .i64 0, .int .i64 0, .int .i64 0, .int .i64 0], .slice none 0 0, .int .i64 0, .int .i64 0], []⟩ 8 (by kernel_rfl) (by kernel_rfl) (by kernel_rfl) (by kernel_rfl)) ?_
  intro W base args ds gs before hval0 hW hcnd _
  have hval : ∀ (j : Nat) t v, Try.f13.params[j]? = some t → args[j]? = some v → Value.okWide Try.prog W .any base t v := hval0
  have hW' := hW
  obtain ⟨p, q, hA0, hV, rfl, hfz, hnd⟩ := hW
  have hA : DataW.TrodAll enc Try.prog W 0 (fun _ => true) true Try.f13.params.toList args.toList ds p := hA0
  have hAk := hA
  rw [Try.params13] at hA hval
  obtain ⟨xs, hs, hr⟩ := args_shape (J := fun _ => False) (d := 12) (fun t ht => rescueSafe_plain t (by simpa using ht)) (fun j t v h1 h2 => hval j t v (by simpa using h1) (by simpa using h2)) hA
  obtain ⟨n, h', hc⟩ := law xs hs
  obtain ⟨v0, vs0, d0, ds0, p0, q0, hargs, rfl, rfl, h0, r0⟩ := trodAll_cons hA
  obtain ⟨v1, vs1, d1, ds1, p1, q1, rfl, rfl, rfl, h1, r1⟩ := trodAll_cons r0
  obtain ⟨v2, vs2, d2, ds2, p2, q2, rfl, rfl, rfl, h2, r2⟩ := trodAll_cons r1
  obtain ⟨v3, vs3, d3, ds3, p3, q3, rfl, rfl, rfl, h3, r3⟩ := trodAll_cons r2
  obtain ⟨rfl, rfl, rfl⟩ := trodAll_nil r3
  obtain rfl : args = #[v0, v1, v2, v3] := by cases args; simp_all
  obtain ⟨rfl, rfl⟩ := trodVars_none hV
  clear hA0 hval0
  simp only [List.append_nil] at hW'
  refine (law_calls (callsOk n) hc hr).mono fun e W' ⟨he, h1, h2, hk⟩ => ?_
  subst he
  have hlt : ∀ x ∈ p0 ++ p1 ++ p2 ++ p3, x.block < W.heap.size := fun x hx => hW'.lt x (by simpa [List.append_assoc] using hx)
  exact ⟨_, rfl, post_of_kept (pa := p0 ++ p1 ++ p2 ++ p3) (pv := []) hW' (fun _ _ _ => trodAll_mk1 (shut_bool Try.underlying4 _))
    (fun sp hsp => trodAll_carry (DataW.TrodAll.respare kids full (by rw [Try.params13]; decide) (by simpa [List.append_assoc, Rows.rescueSafeSpec] using hAk) (fun x hx => hsp x (by simpa [List.append_assoc] using hx))) (fun x hx => sameAt_of (hk _ (hlt x hx))))
    (fun _ _ => rfl) (by simp [List.append_assoc]) h1 h2 hk (ok_one (by kernel_rfl) rfl (okWide_bool_mk Try.underlying4 _))⟩
theorem rescueSafe_over (law : rescueSafeLaw) : Rows.RescueSafeSaid :=
  OpenClaim.holds_of_wide 13 Try.f13 rfl rfl rfl rfl rfl rfl rfl ⟨rfl, rfl, rfl, rfl, rfl⟩ rfl rfl rfl rfl rfl (by kernel_rfl) Try.func13 (by kernel_rfl)
    (of_decide_eq_true (by kernel_rfl)) (by unfold Func.isWrapper; first | (rw [if_pos (by decide +kernel)]; kernel_rfl) | (rw [if_neg (by decide +kernel)]; exact ⟨rfl, rfl⟩))
    (fun os started H enc _ => rescueSafe_lifted law os started H enc)
end Go.Proofs.Ytgmefblkmidglaa
namespace Go.Proofs.Ytgmefblkmidglaa
open Go.Lite
set_option maxRecDepth 100000
set_option linter.unusedVariables false
set_option linter.unusedSimpArgs false
theorem gs_st {p0 p1 p2 p3 p4 p5 car t : Int} (g : GS) : gsOf (.b g.ov) (.i g.os) (.b g.oh) (.b g.cv) (.i g.cs) (.b g.ch) (.l g.rd) (.l g.po) (.l (startE p0 p1 p2 p3 p4 p5 car t g).ca) = startE p0 p1 p2 p3 p4 p5 car t g := by
  unfold startE
  split <;> rfl
theorem gs_e (g : GS) : gsOf (.b g.ov) (.i g.os) (.b g.oh) (.b g.cv) (.i g.cs) (.b g.ch) (.l g.rd) (.l g.po) (.l g.ca) = g := rfl
theorem gs_st2 {p0 p1 p2 p3 p4 p5 car t : Int} (ov : Bool) (os : Int) (oh cv : Bool) (cs : Int) (ch : Bool) (rd po ca : List (List D)) : gsOf (.b ov) (.i os) (.b oh) (.b cv) (.i cs) (.b ch) (.l rd) (.l po) (.l (startE p0 p1 p2 p3 p4 p5 car t (gsOf (.b ov) (.i os) (.b oh) (.b cv) (.i cs) (.b ch) (.l rd) (.l po) (.l ca))).ca) = startE p0 p1 p2 p3 p4 p5 car t (gsOf (.b ov) (.i os) (.b oh) (.b cv) (.i cs) (.b ch) (.l rd) (.l po) (.l ca)) := by
  unfold startE
  split <;> rfl
theorem code_0 {a b : Bool} (h : ((if a = true then (if b = true then (0 : Int) else 7) else 2) != 0) = true) (ha : a = true) (hb : b = true) : False := by
  rw [ha, hb] at h
  cases h
theorem code_y {b : Bool} (h : ((if b = true then (0 : Int) else 2) == 0) = true) : b = true := by cases b <;> first | rfl | cases h
theorem code_n {b : Bool} (h : ((if b = true then (0 : Int) else 2) == 0) = false) : b = false := by cases b <;> first | rfl | cases h
theorem code_y' {b : Bool} (h : ((if b = true then (0 : Int) else 2) != 0) = false) : b = true := by cases b <;> first | rfl | cases h
theorem code_n' {b : Bool} (h : ((if b = true then (0 : Int) else 2) != 0) = true) : b = false := by cases b <;> first | rfl | cases h
theorem len_no {l : List (List D)} (h : l.isEmpty = false) : ((l.length : Nat) : Int) > 0 := by
  cases l with
  | nil => cases h
  | cons a b => simp only [List.length_cons]; omega
theorem and_yes {a b : Bool} (h : (a && !b) = true) : a = true ∧ b = false := by cases a <;> cases b <;> first | exact ⟨rfl, rfl⟩ | cases h
theorem and_no {a b : Bool} (h : (a && !b) = false) (ha : a = true) : b = true := by
  rw [ha] at h
  cases b with
  | true => rfl
  | false => cases h
theorem all13 : AllOK C 30 sp13 := ⟨(ok34 28), (ok35 28), (ok43 27), trivial⟩
theorem allW13 : AllOKW C 30 sw13 := ⟨ok38x 27, ok40x 23, ok39x 22, trivial⟩
theorem ok13_8 : LoopSim C 30 13 (loopOf C.P 13 8) (mkL l13_8 G13_8) := by
  refine loop_ofK hC (sp := sp13) (lp := lp13) (sw := sw13) all13 allW13 0 [] (by kernel_rfl) rfl (fun k hk => by cases hk) (by kernel_rfl) (fun ds => (((ds.getD 1 default).L.length : Int) - (if (ds.getD 0 default).I = 0 then (ds.getD 4 default).I else (ds.getD 5 default).I)).toNat) fun ds rr h => ?_
  unfold G13_8 at h
  split at h
  · rename_i j l post early i w0 w1 w2 w3 w4 w5 p0 p1 p2 p3 p4 p5 ov os oh cv cs ch nr np nc rd po ca
    obtain ⟨hp, h⟩ := need_some h
    rw [yes_iff] at hp
    obtain ⟨hj, hl, ⟨hi0, hi1⟩, ⟨g0, g1, g2, g3, g4, g5⟩, H⟩ := hp
    have hb := big_eq
    have H' := H.ok.okg
    obtain ⟨hPl, ⟨hr, hpo, hc⟩, ⟨l1, l2, l3⟩, -, -, -⟩ := H'
    have hr : nr.I = (rd.L.length : Int) := hr
    have hpo : np.I = (po.L.length : Int) := hpo
    have hc : nc.I = (ca.L.length : Int) := hc
    have l3 : (ca.L.length : Int) = p5.I := l3
    have hPl' := hPl
    unfold okPl at hPl'
    refine ⟨by rw [fuelC]; simp only [List.getD_cons_succ, List.getD_cons_zero]; rw [hj]; simp only [reduceIte, Int.reduceEq]; omega, ?_⟩
    rw [roundTK_headG (j := j) (n := 0) hj (by decide), show (roundTK C (mkTab sp13 lp13 sw13) 13 (loopOf C.P 13 8) 0 l13_8 (.i 0 :: l :: post :: early :: i :: w0 :: w1 :: w2 :: w3 :: [w4, w5, p0, p1, p2, p3, p4, p5, ov, os, oh, cv, cs, ch, nr, np, nc, rd, po, ca])).run = _ from t13_8_0 l post early i w0 w1 w2 w3 w4 w5 p0 p1 p2 p3 p4 p5 ov os oh cv cs ch nr np nc rd po ca]
    obtain ⟨k, hk⟩ : ∃ k : Nat, i.I = k := ⟨i.I.toNat, by omega⟩
    
    simp only [hk, g0, g1, g2, g3, g4, g5, hr, hpo, hc, Int.toNat_natCast, List.take_length] at H h hi0 hi1 ⊢
    refine rd_if (fun hlt => ?_) fun hge => rd_out h
    have hk2 : k < l.L.length := by omega
    rw [wrap_succ (by omega)]
    have mu : ((l.L.length : Int) - ((k + 1 : Nat) : Int)).toNat < ((l.L.length : Int) - (k : Int)).toNat := by omega
    have mm : ∀ x : Int, x = i.I → ((l.L.length : Int) - ((k + 1 : Nat) : Int)).toNat < ((l.L.length : Int) - x).toNat := fun x hx => by rw [hx, hk]; exact mu
    have nR := Nat.le_refl rd.L.length
    have nP := Nat.le_refl po.L.length
    have nC := Nat.le_refl ca.L.length
    have hE0 : (rulesF (ruleB p0.I p1.I p2.I p3.I p4.I ov.B cv.B rd.L po.L ca.L ((l.L.getD k []).getD (0 + 1 + 1 + 1 + 1 + 1) default).I ((l.L.getD k []).getD (0 + 1 + 1 + 1 + 1 + 1 + 1) default).I) 0 8 []).isEmpty = true → ∀ q, q < 8 → ruleB p0.I p1.I p2.I p3.I p4.I ov.B cv.B rd.L po.L ca.L ((l.L.getD k []).getD (0 + 1 + 1 + 1 + 1 + 1) default).I ((l.L.getD k []).getD (0 + 1 + 1 + 1 + 1 + 1 + 1) default).I q = false := fun h q hq => rulesF_empty _ 8 0 h q (by omega) (by omega)
    generalize hV : validB p5.I ((l.L.getD k []).getD (0 + 1 + 1 + 1 + 1 + 1) default).I ((l.L.getD k []).getD (0 + 1 + 1 + 1 + 1 + 1 + 1) default).I = V at *
    generalize hE : (rulesF (ruleB p0.I p1.I p2.I p3.I p4.I ov.B cv.B rd.L po.L ca.L ((l.L.getD k []).getD (0 + 1 + 1 + 1 + 1 + 1) default).I ((l.L.getD k []).getD (0 + 1 + 1 + 1 + 1 + 1 + 1) default).I) 0 8 []).isEmpty = E at *
    have S1 := fun car t => safe_start H car t
    refine rd_dec (by omega) (rd_ite (fun c1 => rd_yes H.ok (rd_ite (fun c2 => rd_ite (fun c3 => ?_) fun c3 => False.elim (by have := eq_of_beq c1; have := eq_of_bneF c3; omega)) fun c2 => rd_ite (fun c3 => ?_) fun c3 => False.elim (by have := eq_of_beq c1; have := eq_of_bneF c3; omega))) fun c1 => rd_ite (fun c3 => ?_) fun c3 => rd_yes H.ok (rd_ite (fun cV => ?_) fun cV => rd_ite (fun cc => ?_) fun cc => ?_))
    · exact rd_again ((need_yes ⟨rfl, hl, ⟨by simp only [I_i]; omega, by simp only [I_i, L_l]; omega⟩, rfl, by simp only [I_i, L_l, List.length_singleton]; omega, ⟨rfl, rfl, rfl, rfl, rfl, rfl⟩, safe_hear H (code_y c2)⟩).trans h) (mm (if j.I = 0 then i.I else w0.I) (by rw [hj]; rfl))
    · have hno : hearE p0.I p5.I _ _ _ _ (gsOf ov os oh cv cs ch rd po ca) = (gsOf ov os oh cv cs ch rd po ca) := if_neg (by rw [code_n c2]; exact Bool.false_ne_true)
      exact rd_again ((need_yes ⟨rfl, hl, ⟨by simp only [I_i]; omega, by simp only [I_i, L_l]; omega⟩, ⟨rfl, rfl, rfl, rfl, rfl, rfl⟩, by rw [gs_e]; exact hno.symm ▸ H⟩).trans h) (mm (if j.I = 0 then i.I else w0.I) (by rw [hj]; rfl))
    · exact rd_again ((need_yes ⟨rfl, hl, ⟨by simp only [I_i]; omega, by simp only [I_i, L_l]; omega⟩, ⟨rfl, rfl, rfl, rfl, rfl, rfl⟩, H⟩).trans h) (mm (if j.I = 0 then i.I else w0.I) (by rw [hj]; rfl))
    · obtain ⟨v1, v2⟩ := and_yes cV
      refine rd_if (fun h0 => rd_yes H.ok (rd_ite (fun cx => ?_) fun cx => ?_)) fun h0 => False.elim (h0 (len_no (by rw [hE]; exact v2)))
      · rw [v1, v2] at cx; cases cx
      · exact rd_again ((need_yes ⟨rfl, hl, ⟨by simp only [I_i]; omega, by simp only [I_i, L_l]; omega⟩, ⟨rfl, rfl, rfl, rfl, rfl, rfl⟩, by rw [gs_st2]; exact S1 _ _⟩).trans h) (mm (if j.I = 0 then i.I else w0.I) (by rw [hj]; rfl))
    · have v1 := code_n' cc
      refine rd_yes H.ok (rd_ite (fun cx => ?_) fun cx => ?_)
      · rw [v1] at cx; cases cx
      · exact rd_again ((need_yes ⟨rfl, hl, ⟨by simp only [I_i]; omega, by simp only [I_i, L_l]; omega⟩, ⟨rfl, rfl, rfl, rfl, rfl, rfl⟩, by rw [gs_st2]; exact S1 _ _⟩).trans h) (mm (if j.I = 0 then i.I else w0.I) (by rw [hj]; rfl))
    · have v1 := code_y' cc
      have v2 := and_no cV v1
      have hrules := hE0 v2
      have hv := validB_yes (hV.trans v1)
      have hready := rules_ready H hrules
      exact False.elim (Bool.false_ne_true hready)
  · rename_i j l post early n i w0 w1 w2 w3 w4 w5 p0 p1 p2 p3 p4 p5 ov os oh cv cs ch nr np nc ev rd po ca
    obtain ⟨hp, h⟩ := need_some h
    rw [yes_iff] at hp
    obtain ⟨hj, hl, ⟨hi0, hi1⟩, hne, hev, ⟨g0, g1, g2, g3, g4, g5⟩, H⟩ := hp
    have hb := big_eq
    have H' := H.ok.okg
    obtain ⟨hPl, ⟨hr, hpo, hc⟩, ⟨l1, l2, l3⟩, -, -, -⟩ := H'
    have hr : nr.I = (rd.L.length : Int) := hr
    have hpo : np.I = (po.L.length : Int) := hpo
    have hc : nc.I = (ca.L.length : Int) := hc
    have l3 : (ca.L.length : Int) = p5.I := l3
    have hPl' := hPl
    unfold okPl at hPl'
    refine ⟨by rw [fuelC]; simp only [List.getD_cons_succ, List.getD_cons_zero]; rw [hj]; simp only [reduceIte, Int.reduceEq]; omega, ?_⟩
    rw [roundTK_headG (j := j) (n := 1) hj (by decide), show (roundTK C (mkTab sp13 lp13 sw13) 13 (loopOf C.P 13 8) 0 l13_8 (.i 1 :: l :: post :: early :: n :: i :: w0 :: w1 :: w2 :: w3 :: w4 :: [w5, p0, p1, p2, p3, p4, p5, ov, os, oh, cv, cs, ch, nr, np, nc, ev, rd, po, ca])).run = _ from t13_8_1 l post early n i w0 w1 w2 w3 w4 w5 p0 p1 p2 p3 p4 p5 ov os oh cv cs ch nr np nc ev rd po ca]
    obtain ⟨k, hk⟩ : ∃ k : Nat, i.I = k := ⟨i.I.toNat, by omega⟩
    have eb : Try.prog.types[81].bytes = 32 := by kernel_rfl
    simp only [hk, g0, g1, g2, g3, g4, g5, hne, eb, hr, hpo, hc, Int.toNat_natCast, List.take_length] at H h hi0 hi1 hev ⊢
    refine rd_if (fun hlt => ?_) fun hge => rd_out h
    have hk2 : k < l.L.length := by omega
    rw [wrap_succ (by omega)]
    have mu : ((l.L.length : Int) - ((k + 1 : Nat) : Int)).toNat < ((l.L.length : Int) - (k : Int)).toNat := by omega
    have mm : ∀ x : Int, x = i.I → ((l.L.length : Int) - ((k + 1 : Nat) : Int)).toNat < ((l.L.length : Int) - x).toNat := fun x hx => by rw [hx, hk]; exact mu
    have nR := Nat.le_refl rd.L.length
    have nP := Nat.le_refl po.L.length
    have nC := Nat.le_refl ca.L.length
    have hE0 : (rulesF (ruleB p0.I p1.I p2.I p3.I p4.I ov.B cv.B rd.L po.L ca.L ((l.L.getD k []).getD (0 + 1 + 1 + 1 + 1 + 1) default).I ((l.L.getD k []).getD (0 + 1 + 1 + 1 + 1 + 1 + 1) default).I) 0 8 []).isEmpty = true → ∀ q, q < 8 → ruleB p0.I p1.I p2.I p3.I p4.I ov.B cv.B rd.L po.L ca.L ((l.L.getD k []).getD (0 + 1 + 1 + 1 + 1 + 1) default).I ((l.L.getD k []).getD (0 + 1 + 1 + 1 + 1 + 1 + 1) default).I q = false := fun h q hq => rulesF_empty _ 8 0 h q (by omega) (by omega)
    generalize hV : validB p5.I ((l.L.getD k []).getD (0 + 1 + 1 + 1 + 1 + 1) default).I ((l.L.getD k []).getD (0 + 1 + 1 + 1 + 1 + 1 + 1) default).I = V at *
    generalize hE : (rulesF (ruleB p0.I p1.I p2.I p3.I p4.I ov.B cv.B rd.L po.L ca.L ((l.L.getD k []).getD (0 + 1 + 1 + 1 + 1 + 1) default).I ((l.L.getD k []).getD (0 + 1 + 1 + 1 + 1 + 1 + 1) default).I) 0 8 []).isEmpty = E at *
    have S1 := fun car t => safe_start H car t
    refine rd_dec (by omega) (rd_ite (fun c1 => rd_yes H.ok (rd_ite (fun c2 => rd_dec (by omega) (rd_ite (fun c3 => ?_) fun c3 => False.elim (by have := eq_of_beq c1; have := eq_of_bneF c3; omega))) fun c2 => rd_ite (fun c3 => ?_) fun c3 => False.elim (by have := eq_of_beq c1; have := eq_of_bneF c3; omega))) fun c1 => rd_ite (fun c3 => ?_) fun c3 => rd_yes H.ok (rd_ite (fun cV => ?_) fun cV => rd_ite (fun cc => ?_) fun cc => ?_))
    · exact rd_again ((need_yes ⟨rfl, hl, ⟨by simp only [I_i]; omega, by simp only [I_i, L_l]; omega⟩, by simp only [I_i, L_l, List.length_append, List.length_singleton], by simp only [I_i, L_l, List.length_append, List.length_singleton]; omega, ⟨rfl, rfl, rfl, rfl, rfl, rfl⟩, safe_hear H (code_y c2)⟩).trans h) (mm (if j.I = 0 then n.I else i.I) (by rw [hj]; rfl))
    · have hno : hearE p0.I p5.I _ _ _ _ (gsOf ov os oh cv cs ch rd po ca) = (gsOf ov os oh cv cs ch rd po ca) := if_neg (by rw [code_n c2]; exact Bool.false_ne_true)
      exact rd_again ((need_yes ⟨rfl, hl, ⟨by simp only [I_i]; omega, by simp only [I_i, L_l]; omega⟩, by first | rfl | trivial, by simp only [I_i, L_l]; omega, ⟨rfl, rfl, rfl, rfl, rfl, rfl⟩, by rw [gs_e]; exact hno.symm ▸ H⟩).trans h) (mm (if j.I = 0 then n.I else i.I) (by rw [hj]; rfl))
    · exact rd_again ((need_yes ⟨rfl, hl, ⟨by simp only [I_i]; omega, by simp only [I_i, L_l]; omega⟩, by first | rfl | trivial, by simp only [I_i, L_l]; omega, ⟨rfl, rfl, rfl, rfl, rfl, rfl⟩, H⟩).trans h) (mm (if j.I = 0 then n.I else i.I) (by rw [hj]; rfl))
    · obtain ⟨v1, v2⟩ := and_yes cV
      refine rd_if (fun h0 => rd_yes H.ok (rd_ite (fun cx => ?_) fun cx => ?_)) fun h0 => False.elim (h0 (len_no (by rw [hE]; exact v2)))
      · rw [v1, v2] at cx; cases cx
      · exact rd_again ((need_yes ⟨rfl, hl, ⟨by simp only [I_i]; omega, by simp only [I_i, L_l]; omega⟩, by first | rfl | trivial, by simp only [I_i, L_l]; omega, ⟨rfl, rfl, rfl, rfl, rfl, rfl⟩, by rw [gs_st2]; exact S1 _ _⟩).trans h) (mm (if j.I = 0 then n.I else i.I) (by rw [hj]; rfl))
    · have v1 := code_n' cc
      refine rd_yes H.ok (rd_ite (fun cx => ?_) fun cx => ?_)
      · rw [v1] at cx; cases cx
      · exact rd_again ((need_yes ⟨rfl, hl, ⟨by simp only [I_i]; omega, by simp only [I_i, L_l]; omega⟩, by first | rfl | trivial, by simp only [I_i, L_l]; omega, ⟨rfl, rfl, rfl, rfl, rfl, rfl⟩, by rw [gs_st2]; exact S1 _ _⟩).trans h) (mm (if j.I = 0 then n.I else i.I) (by rw [hj]; rfl))
    · have v1 := code_y' cc
      have v2 := and_no cV v1
      have hrules := hE0 v2
      have hv := validB_yes (hV.trans v1)
      have hready := rules_ready H hrules
      refine rd_dec nR (rd_dec nP (rd_dec nC (rd_dec (Nat.le_refl _) (rd_yes ⟨by omega, ⟨hv.2, hPl⟩, by first | trivial | rfl, l3⟩ (rd_not (fun cr => ?_) fun cr => rd_if (fun q1 => rd_if (fun q2 => rd_if (fun q3 => rd_if (fun q4 => ?_) fun q4 => ?_) fun q3 => ?_) fun q2 => ?_) fun q1 => ?_)))))
      · exact False.elim (by have := hready.symm.trans cr; cases this)
      · have ws : IntKind.i64.wrap (((l.L.getD k []).getD (0 + 1 + 1 + 1 + 1 + 1 + 1) default).I - early.I) = ((l.L.getD k []).getD (0 + 1 + 1 + 1 + 1 + 1 + 1) default).I - early.I := wrap_id (by omega) (by omega)
        have hevb : evB p0.I p5.I 3 (IntKind.i64.wrap (((l.L.getD k []).getD (0 + 1 + 1 + 1 + 1 + 1 + 1) default).I - early.I)) post.I 0 = true := by
          rw [ws]
          exact decide_eq_true (by omega)
        have H2 := safe_hear H hevb
        have E2 : (rulesF (ruleB p0.I p1.I p2.I p3.I p4.I (hearE p0.I p5.I 3 (IntKind.i64.wrap (((l.L.getD k []).getD (0 + 1 + 1 + 1 + 1 + 1 + 1) default).I - early.I)) post.I 0 (gsOf ov os oh cv cs ch rd po ca)).ov (hearE p0.I p5.I 3 (IntKind.i64.wrap (((l.L.getD k []).getD (0 + 1 + 1 + 1 + 1 + 1 + 1) default).I - early.I)) post.I 0 (gsOf ov os oh cv cs ch rd po ca)).cv (hearE p0.I p5.I 3 (IntKind.i64.wrap (((l.L.getD k []).getD (0 + 1 + 1 + 1 + 1 + 1 + 1) default).I - early.I)) post.I 0 (gsOf ov os oh cv cs ch rd po ca)).rd (hearE p0.I p5.I 3 (IntKind.i64.wrap (((l.L.getD k []).getD (0 + 1 + 1 + 1 + 1 + 1 + 1) default).I - early.I)) post.I 0 (gsOf ov os oh cv cs ch rd po ca)).po (hearE p0.I p5.I 3 (IntKind.i64.wrap (((l.L.getD k []).getD (0 + 1 + 1 + 1 + 1 + 1 + 1) default).I - early.I)) post.I 0 (gsOf ov os oh cv cs ch rd po ca)).ca ((l.L.getD k []).getD (0 + 1 + 1 + 1 + 1 + 1) default).I ((l.L.getD k []).getD (0 + 1 + 1 + 1 + 1 + 1 + 1) default).I) 0 8 []).isEmpty = true := by
          rw [rules_of 8 0 [] fun q _ hq => report_ok hrules q (by omega)]
          rfl
        refine rd_yes H.ok (rd_ite (fun ce => ?_) fun ce => rd_dec (by omega) (rd_yes H2.ok (rd_ite (fun cw => ?_) fun cw => rd_ite (fun cz => ?_) fun cz => rd_yes H2.ok (rd_ite (fun cx => ?_) fun cx => ?_))))
        · have := code_n' ce
          rw [hevb] at this; cases this
        · have := (and_yes cw).2
          exact False.elim (Bool.false_ne_true (this.symm.trans E2))
        · have := code_n' cz
          rw [v1] at this; cases this
        · exact False.elim (code_0 cx v1 E2)
        · exact rd_again ((need_yes ⟨rfl, hl, ⟨by simp only [I_i]; omega, by simp only [I_i, L_l]; omega⟩, by simp only [I_i, L_l, List.length_append, List.length_singleton], by simp only [I_i, L_l, List.length_append, List.length_singleton]; omega, ⟨rfl, rfl, rfl, rfl, rfl, rfl⟩, by rw [gs_st]; exact safe_start H2 _ _⟩).trans h) (mm (if j.I = 0 then n.I else i.I) (by rw [hj]; rfl))
      · refine rd_yes H.ok (rd_ite (fun cx => ?_) fun cx => ?_)
        · rw [v1, v2] at cx; cases cx
        · exact rd_again ((need_yes ⟨rfl, hl, ⟨by simp only [I_i]; omega, by simp only [I_i, L_l]; omega⟩, by first | rfl | trivial, by simp only [I_i, L_l]; omega, ⟨rfl, rfl, rfl, rfl, rfl, rfl⟩, by rw [gs_st2]; exact S1 _ _⟩).trans h) (mm (if j.I = 0 then n.I else i.I) (by rw [hj]; rfl))
      · refine rd_yes H.ok (rd_ite (fun cx => ?_) fun cx => ?_)
        · rw [v1, v2] at cx; cases cx
        · exact rd_again ((need_yes ⟨rfl, hl, ⟨by simp only [I_i]; omega, by simp only [I_i, L_l]; omega⟩, by first | rfl | trivial, by simp only [I_i, L_l]; omega, ⟨rfl, rfl, rfl, rfl, rfl, rfl⟩, by rw [gs_st2]; exact S1 _ _⟩).trans h) (mm (if j.I = 0 then n.I else i.I) (by rw [hj]; rfl))
      · refine rd_yes H.ok (rd_ite (fun cx => ?_) fun cx => ?_)
        · rw [v1, v2] at cx; cases cx
        · exact rd_again ((need_yes ⟨rfl, hl, ⟨by simp only [I_i]; omega, by simp only [I_i, L_l]; omega⟩, by first | rfl | trivial, by simp only [I_i, L_l]; omega, ⟨rfl, rfl, rfl, rfl, rfl, rfl⟩, by rw [gs_st2]; exact S1 _ _⟩).trans h) (mm (if j.I = 0 then n.I else i.I) (by rw [hj]; rfl))
      · refine rd_yes H.ok (rd_ite (fun cx => ?_) fun cx => ?_)
        · rw [v1, v2] at cx; cases cx
        · exact rd_again ((need_yes ⟨rfl, hl, ⟨by simp only [I_i]; omega, by simp only [I_i, L_l]; omega⟩, by first | rfl | trivial, by simp only [I_i, L_l]; omega, ⟨rfl, rfl, rfl, rfl, rfl, rfl⟩, by rw [gs_st2]; exact S1 _ _⟩).trans h) (mm (if j.I = 0 then n.I else i.I) (by rw [hj]; rfl))
  · cases h
theorem law13 (a b c d e f g h i : D) : (fnT C (mkTab sp13 lp13 sw13) 13 s13 [a, b, c, d, e, f, g, h, i]).run = some [D.b true] := by
  refine (t13 a b c d e f g h i).trans ?_
  refine go_if (fun _ => rfl) fun h1 => go_ite (fun hp => ?_) fun hp => go_not (fun _ => rfl) fun h => absurd (hp.symm.trans h) (by decide)
  have hp' := of_decide_eq_true hp
  have e1 : ((a.I.toNat : Nat) : Int) = a.I := by omega
  have e2 : ((f.I.toNat : Nat) : Int) = f.I := by omega
  rw [e1, e2]
  exact go_yes ⟨by first | trivial | rfl, by omega, ⟨by omega, by omega⟩, ⟨rfl, rfl, rfl, rfl, rfl, rfl⟩, safe_new hp⟩ rfl
theorem rescueSafe_law : rescueSafeLaw := fun xs hx =>
  law_true_wfW hC (sp := sp13) (lp := lp13) (sw := sw13) (n := 30) all13 allW13 (by kernel_rfl) [8] (by kernel_rfl) (by kernel_rfl) (fun k hk L hL => by simp at hk; subst hk; cases hL; exact ok13_8)
    (ts := [70, 71, 3, 3]) (ks := s13.args) (by kernel_rfl) (of_decide_eq_true (by kernel_rfl)) (m := 9) (by kernel_rfl) (fun ds hl _ => by
      match ds, hl with
      | [a, b, c, d, e, f, g, h, i], _ => exact law13 a b c d e f g h i) 12 xs hx
theorem rescue_safe : Rows.RescueSafeSaid := rescueSafe_over rescueSafe_law
end Go.Proofs.Ytgmefblkmidglaa
