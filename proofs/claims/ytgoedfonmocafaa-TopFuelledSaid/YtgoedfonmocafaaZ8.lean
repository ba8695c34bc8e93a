/-
  The statement of TopP3 holds for every input; what it rests on stands in the parts before.
-/
import Derived.Test.YtgoedfonmocafaaZ7
import Derived.Test.YtgoedfonmocafaaRows
namespace Go.Proofs.Ytgoedfonmocafaa
open Go.Lite Go.ChangeShapes Go.WideShapes Go.ChangeAt Go.RowKit
theorem kids : Kids Try.prog (· < Try.prog.types.size) := kids_rows (by kernel_rfl) (by kernel_rfl)
theorem full : ∀ t e, t < Try.prog.types.size → Try.prog.underlying t = some (.slice e) → 0 < Try.prog.cellsOf e := slices_full_of Try.prog (by kernel_rfl)
end Go.Proofs.Ytgoedfonmocafaa
namespace Go.Proofs.Ytgoedfonmocafaa
open Go.Lite Go.ChangeShapes Go.WideShapes Go.ChangeAt Go.RowKit
def topFuelledLaw : Prop := ∀ xs : List AV, ArgsShape Try.prog 12 [26, 30, 28, 28, 28, 3, 3] xs → ∃ n h', callA C n Unit none 3 xs [] () = some (.bool true, h', ())
theorem topFuelled_plain : ∀ t ∈ [26, 30, 28, 28, 28, 3, 3], plainTy Try.prog 12 t = true := by
  intro t ht
  have h : [26, 30, 28, 28, 28, 3, 3].all (plainTy Try.prog 12) = true := by kernel_rfl
  exact List.all_eq_true.1 h t ht
set_option maxRecDepth 100000 in
theorem topFuelled_lifted (law : topFuelledLaw) (os : Os) (started : os.Started) (H : Type) (enc : TypeId × Value → H) :
    ReturnsInHanded {} Try.checked os 3 .any (Rows.topFuelledSpec.pre6 enc Try.prog Try.f3 Rows.topFuelledRow.domain false) (Rows.topFuelledSpec.post enc Try.prog Try.f3 false true false false) := by
  refine returnsInHanded_of_change (C := Try.checked) own started (by kernel_rfl) Try.func3
    (ChangeSpec.witness6 (enc := enc) (C := Try.checked) false ⟨#[], #[.agg #[.slice none 0 0, .slice none 0 0, .slice none 0 0], .agg #[.int .i64 0, .int .i64 0, .slice none 0 0, .slice none 0 0], .slice none 0 0, .slice none 0 0, .slice none 0 0, .int .i64 0, .int .i64 0], []⟩ 8 (by kernel_rfl) (by kernel_rfl) (by kernel_rfl) (by kernel_rfl)) ?_
  intro W base args ds gs before hval0 hW hcnd _
  have hval : ∀ (j : Nat) t v, Try.f3.params[j]? = some t → args[j]? = some v → Value.okWide Try.prog W .any base t v := hval0
  have hW' := hW
  obtain ⟨p, q, hA0, hV, rfl, hfz, hnd⟩ := hW
  have hA : DataW.TrodAll enc Try.prog W 0 (fun _ => true) true Try.f3.params.toList args.toList ds p := hA0
  have hAk := hA
  rw [Try.params3] at hA hval
  obtain ⟨xs, hs, hr⟩ := args_shape (J := fun _ => False) (d := 12) (fun t ht => topFuelled_plain t (by simpa using ht)) (fun j t v h1 h2 => hval j t v (by simpa using h1) (by simpa using h2)) hA
  obtain ⟨n, h', hc⟩ := law xs hs
  obtain ⟨v0, vs0, d0, ds0, p0, q0, hargs, rfl, rfl, h0, r0⟩ := trodAll_cons hA
  obtain ⟨v1, vs1, d1, ds1, p1, q1, rfl, rfl, rfl, h1, r1⟩ := trodAll_cons r0
  obtain ⟨v2, vs2, d2, ds2, p2, q2, rfl, rfl, rfl, h2, r2⟩ := trodAll_cons r1
  obtain ⟨v3, vs3, d3, ds3, p3, q3, rfl, rfl, rfl, h3, r3⟩ := trodAll_cons r2
  obtain ⟨v4, vs4, d4, ds4, p4, q4, rfl, rfl, rfl, h4, r4⟩ := trodAll_cons r3
  obtain ⟨v5, vs5, d5, ds5, p5, q5, rfl, rfl, rfl, h5, r5⟩ := trodAll_cons r4
  obtain ⟨v6, vs6, d6, ds6, p6, q6, rfl, rfl, rfl, h6, r6⟩ := trodAll_cons r5
  obtain ⟨rfl, rfl, rfl⟩ := trodAll_nil r6
  obtain rfl : args = #[v0, v1, v2, v3, v4, v5, v6] := by cases args; simp_all
  obtain ⟨rfl, rfl⟩ := trodVars_none hV
  clear hA0 hval0
  simp only [List.append_nil] at hW'
  refine (law_calls (callsOk n) hc hr).mono fun e W' ⟨he, h1, h2, hk⟩ => ?_
  subst he
  have hlt : ∀ x ∈ p0 ++ p1 ++ p2 ++ p3 ++ p4 ++ p5 ++ p6, x.block < W.heap.size := fun x hx => hW'.lt x (by simpa [List.append_assoc] using hx)
  exact ⟨_, rfl, post_of_kept (pa := p0 ++ p1 ++ p2 ++ p3 ++ p4 ++ p5 ++ p6) (pv := []) hW' (fun _ _ _ => trodAll_mk1 (shut_bool Try.underlying4 _))
    (fun sp hsp => trodAll_carry (DataW.TrodAll.respare kids full (by rw [Try.params3]; decide) (by simpa [List.append_assoc, Rows.topFuelledSpec] using hAk) (fun x hx => hsp x (by simpa [List.append_assoc] using hx))) (fun x hx => sameAt_of (hk _ (hlt x hx))))
    (fun _ _ => rfl) (by simp [List.append_assoc]) h1 h2 hk (ok_one (by kernel_rfl) rfl (okWide_bool_mk Try.underlying4 _))⟩
theorem topFuelled_over (law : topFuelledLaw) : Rows.TopFuelledSaid :=
  OpenClaim.holds_of_wide 3 Try.f3 rfl rfl rfl rfl rfl rfl rfl ⟨rfl, rfl, rfl, rfl, rfl⟩ rfl rfl rfl rfl rfl (by kernel_rfl) Try.func3 (by kernel_rfl)
    (of_decide_eq_true (by kernel_rfl)) (by unfold Func.isWrapper; first | (rw [if_pos (by decide +kernel)]; kernel_rfl) | (rw [if_neg (by decide +kernel)]; exact ⟨rfl, rfl⟩))
    (fun os started H enc _ => topFuelled_lifted law os started H enc)
end Go.Proofs.Ytgoedfonmocafaa
namespace Go.Proofs.Ytgoedfonmocafaa
open Go.Lite
set_option maxRecDepth 100000
theorem all3 : AllOK C 12 sp3 := ⟨ok8 7, ok9 10, ok10, ok11 10, ok12w 5, ok13 10, ok14w 6, trivial⟩
theorem plL_get {p cuts : List (List D)} {j : Nat} (h : j ≤ cuts.length) : rgI (plL p cuts) j = rgI (plF cuts cuts.length) j := by
  unfold plL rgI
  rw [List.getD_eq_getElem?_getD, List.getElem?_append_left (by rw [plF_len]; omega), ← List.getD_eq_getElem?_getD]
theorem plL_last {p cuts : List (List D)} : rgI (plL p cuts) (cuts.length + 1) = lenR p := by
  unfold plL rgI
  rw [List.getD_eq_getElem?_getD, List.getElem?_append_right (by rw [plF_len]; omega), plF_len, Nat.sub_self]
  rfl
theorem plF_up {cuts : List (List D)} {n : Int} (h : allFrom (cutAt cuts n) 0 cuts.length = true) {j : Nat} (hj : j < cuts.length) : rgI (plF cuts cuts.length) j < rgI (plF cuts cuts.length) (j + 1) ∧ rgI (plF cuts cuts.length) (j + 1) < n := by
  have h1 := allFrom_iff.1 h j (Nat.zero_le _) (by omega)
  simp only [cutAt, Bool.and_eq_true, decide_eq_true_eq] at h1
  have e : rgI (plF cuts cuts.length) j = rgI (plF cuts j) j := by
    cases j with
    | zero => rfl
    | succ i => rw [plF_get (by omega), plF_get (by omega)]
  rw [plF_get hj, e]
  omega
theorem plF_nn {cuts : List (List D)} {n : Int} (h : allFrom (cutAt cuts n) 0 cuts.length = true) : ∀ j, j ≤ cuts.length → 0 ≤ rgI (plF cuts cuts.length) j
  | 0, _ => by rw [plF_zero]; omega
  | j + 1, hj => by
    have h1 := plF_nn h j (by omega)
    have h2 := plF_up h (j := j) (by omega)
    omega
theorem plL_ok {p cuts : List (List D)} (hn : 0 ≤ lenR p) (hc : cuts.length ≤ 7) (h : allFrom (cutAt cuts (lenR p)) 0 cuts.length = true) : plOk (lenR p) (plL p cuts) := by
  have hl : (plL p cuts).length = cuts.length + 2 := by unfold plL; rw [List.length_append, plF_len]; rfl
  refine ⟨by omega, fun k hk => ?_⟩
  rw [plL_get (j := k) (by omega)]
  have h0 := plF_nn h k (by omega)
  by_cases hlt : k < cuts.length
  · rw [plL_get (j := k + 1) (by omega)]
    have h1 := plF_up h hlt
    omega
  · have hk' : k = cuts.length := by omega
    subst hk'
    rw [plL_last]
    refine ⟨h0, ?_, by omega⟩
    cases hq : cuts.length with
    | zero => rw [plF_zero]; omega
    | succ i =>
      have h1 := plF_up h (j := i) (by omega)
      rw [hq] at h1
      omega
theorem am_ok {t r : Int} {l : List (List D)} (h : tankP t r r l) (hf : fuelOk t r r l = true) : amP l (outs l r r) := by
  refine ⟨by unfold outs; rw [len_tabI], fun k hk => ?_⟩
  have e : rgI (outs l r r) k = outAt l r r k := by
    unfold rgI outs
    rw [tabI_get hk]
    rfl
  simp only [fuelOk, Bool.and_eq_true] at hf
  have h1 := allFrom_iff.1 hf.1 k (Nat.zero_le _) (by omega)
  simp only [outOk, decide_eq_true_eq] at h1
  have h2 := out_nonneg h hk
  have h3 := (tank_of h).2.2.2.2 k hk
  rw [e]
  omega
theorem law3 (a b c d e f g h i j k l : D) : (fnT C tab3 3 s3 [a, b, c, d, e, f, g, h, i, j, k, l]).run = some [D.b true] := by
  refine (congrArg T.run (t3 a b c d e f g h i j k l)).trans ?_
  refine go_not (fun _ => rfl) fun h1 => go_not (fun _ => rfl) fun h2 => go_if (fun _ => rfl) fun h3 => ?_
  rw [Bool.and_eq_true, decide_eq_true_eq] at h1
  have hrd : roadP a.L b.L c.L := h1.1
  have hsp : spP d.I e.I f.L g.L := h2
  obtain ⟨hm, -, -, -, -⟩ := road_of hrd
  have hn := (lenFrom_bound (l := a.L) a.L.length 0 fun y _ hy => allFrom_iff.1 hm.2.2 y (Nat.zero_le _) (by omega)).1
  have hpc : paceP d.I e.I f.L g.L a.L b.L c.L := ⟨⟨hrd, hsp⟩, h1.2⟩
  have hcl : h.L.length ≤ 7 := by omega
  refine go_yes ⟨hm, h1.2, hcl, by omega, by omega, rfl, rfl⟩ (go_ite (fun h4 => ?_) fun _ => rfl)
  have hpl := plL_ok (p := a.L) hn hcl h4
  have e1 : (plF h.L h.L.length).take (h.L.length + 1) ++ List.take (List.length [[D.i (lenR a.L)]]) [[D.i (lenR a.L)]] = plL a.L h.L := by
    rw [List.take_of_length_le (by rw [plF_len]; omega)]
    rfl
  have hl : (plL a.L h.L).length = h.L.length + 2 := by unfold plL; rw [List.length_append, plF_len]; rfl
  simp only [Int.toNat_natCast, e1, bytes3]
  refine go_yes ⟨hm.2.1, hm.2.2⟩ (go_need rfl (go_false rfl ?_))
  refine go_dec (by rw [plF_len]; omega) (go_yes ⟨trivial, hpc, hpl, by rw [hl], trivial, by omega⟩ ?_)
  have e2 := legsF_len (lo := d.I) (hi := e.I) (r := f.L) (u := g.L) (p := a.L) (fi := j.L) (o := plL a.L h.L) (n := (plL a.L h.L).length - 1)
  have e3 := List.take_of_length_le (Nat.le_of_eq e2)
  simp only [e3]
  generalize hW : legsF d.I e.I f.L g.L a.L j.L (plL a.L h.L) ((plL a.L h.L).length - 1) = W at e2 ⊢
  refine go_dec (by omega) (go_not (fun _ => rfl) fun h5 => go_dec (by omega) (go_yes h5 (go_ite (fun h6 => ?_) fun _ => rfl)))
  have hto := tank_of h5
  have ham := am_ok h5 h6
  refine go_false rfl (go_false (by rw [e2]; simp) (go_yes ⟨⟨hpc, hpl⟩, ⟨trivial, by rw [e2], by rw [ham.1]⟩, ⟨j.L, by rw [e2, hW]⟩, by omega, ham, by omega, by omega, by omega, ?_⟩ rfl))
  simp only [fuelOk, Bool.and_eq_true] at h6
  exact ⟨_, _, ⟨Int.le_refl _, Int.le_refl _⟩, by omega, h6.2⟩
theorem topFuelled_law : topFuelledLaw := fun xs hx =>
  law_true_wfW hC (sp := sp3) (lp := lp3) (sw := sw3) (n := 12) all3 trivial (by kernel_rfl) [5, 13, 31] (by kernel_rfl) (by kernel_rfl) (fun k hk L hL => by
    simp at hk
    rcases hk with rfl | rfl | rfl <;> cases hL
    · exact ok3_5 all3
    · exact ok3_13 all3
    · exact ok3_31 all3)
    (ts := [26, 30, 28, 28, 28, 3, 3]) (ks := s3.args) (by kernel_rfl) (of_decide_eq_true (by kernel_rfl)) (m := 12) (by kernel_rfl) (fun ds hl _ => by
      match ds, hl with
      | [a, b, c, d, e, f, g, h, i, j, k, l], _ => exact law3 a b c d e f g h i j k l) 12 xs hx
theorem top_fuelled : Rows.TopFuelledSaid := topFuelled_over topFuelled_law
end Go.Proofs.Ytgoedfonmocafaa
