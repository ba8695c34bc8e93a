/-
  The statement of TimP11 holds for every input; what it rests on stands in the parts before.
-/
import Derived.Test.YtipbcpobnciccaaZF7
import Derived.Test.YtipbcpobnciccaaRows
namespace Go.Proofs.Ytipbcpobnciccaa
open Go.Lite Go.ChangeShapes Go.WideShapes Go.ChangeAt Go.RowKit
theorem kids : Kids Try.prog (· < Try.prog.types.size) := kids_rows (by kernel_rfl) (by kernel_rfl)
theorem full : ∀ t e, t < Try.prog.types.size → Try.prog.underlying t = some (.slice e) → 0 < Try.prog.cellsOf e := slices_full_of Try.prog (by kernel_rfl)
end Go.Proofs.Ytipbcpobnciccaa
namespace Go.Proofs.Ytipbcpobnciccaa
open Go.Lite Go.ChangeShapes Go.WideShapes Go.ChangeAt Go.RowKit
def timetableFirstLaw : Prop := ∀ xs : List AV, ArgsShape Try.prog 12 [38, 3] xs → ∃ n h', callA C n Unit none 5 xs [] () = some (.bool true, h', ())
theorem timetableFirst_plain : ∀ t ∈ [38, 3], plainTy Try.prog 12 t = true := by
  intro t ht
  have h : [38, 3].all (plainTy Try.prog 12) = true := by kernel_rfl
  exact List.all_eq_true.1 h t ht
set_option maxRecDepth 100000 in
theorem timetableFirst_lifted (law : timetableFirstLaw) (os : Os) (started : os.Started) (H : Type) (enc : TypeId × Value → H) :
    ReturnsInHanded {} Try.checked os 5 .any (Rows.timetableFirstSpec.pre6 enc Try.prog Try.f5 Rows.timetableFirstRow.domain false) (Rows.timetableFirstSpec.post enc Try.prog Try.f5 false true false false) := by
  refine returnsInHanded_of_change (C := Try.checked) own started (by kernel_rfl) Try.func5
    (ChangeSpec.witness6 (enc := enc) (C := Try.checked) false ⟨#[], #[.agg #[.int .i64 0, .int .i64 0, .slice none 0 0], .int .i64 0], []⟩ 8 (by kernel_rfl) (by kernel_rfl) (by kernel_rfl) (by kernel_rfl)) ?_
  intro W base args ds gs before hval0 hW hcnd _
  have hval : ∀ (j : Nat) t v, Try.f5.params[j]? = some t → args[j]? = some v → Value.okWide Try.prog W .any base t v := hval0
  have hW' := hW
  obtain ⟨p, q, hA0, hV, rfl, hfz, hnd⟩ := hW
  have hA : DataW.TrodAll enc Try.prog W 0 (fun _ => true) true Try.f5.params.toList args.toList ds p := hA0
  have hAk := hA
  rw [Try.params5] at hA hval
  obtain ⟨xs, hs, hr⟩ := args_shape (J := fun _ => False) (d := 12) (fun t ht => timetableFirst_plain t (by simpa using ht)) (fun j t v h1 h2 => hval j t v (by simpa using h1) (by simpa using h2)) hA
  obtain ⟨n, h', hc⟩ := law xs hs
  obtain ⟨v0, vs0, d0, ds0, p0, q0, hargs, rfl, rfl, h0, r0⟩ := trodAll_cons hA
  obtain ⟨v1, vs1, d1, ds1, p1, q1, rfl, rfl, rfl, h1, r1⟩ := trodAll_cons r0
  obtain ⟨rfl, rfl, rfl⟩ := trodAll_nil r1
  obtain rfl : args = #[v0, v1] := by cases args; simp_all
  obtain ⟨rfl, rfl⟩ := trodVars_none hV
  clear hA0 hval0
  simp only [List.append_nil] at hW'
  refine (law_calls (callsOk n) hc hr).mono fun e W' ⟨he, h1, h2, hk⟩ => ?_
  subst he
  have hlt : ∀ x ∈ p0 ++ p1, x.block < W.heap.size := fun x hx => hW'.lt x (by simpa [List.append_assoc] using hx)
  exact ⟨_, rfl, post_of_kept (pa := p0 ++ p1) (pv := []) hW' (fun _ _ _ => trodAll_mk1 (shut_bool Try.underlying4 _))
    (fun sp hsp => trodAll_carry (DataW.TrodAll.respare kids full (by rw [Try.params5]; decide) (by simpa [List.append_assoc, Rows.timetableFirstSpec] using hAk) (fun x hx => hsp x (by simpa [List.append_assoc] using hx))) (fun x hx => sameAt_of (hk _ (hlt x hx))))
    (fun _ _ => rfl) (by simp) h1 h2 hk (ok_one (by kernel_rfl) rfl (okWide_bool_mk Try.underlying4 _))⟩
theorem timetableFirst_over (law : timetableFirstLaw) : Rows.TimetableFirstSaid :=
  OpenClaim.holds_of_wide 5 Try.f5 rfl rfl rfl rfl rfl rfl rfl ⟨rfl, rfl, rfl, rfl, rfl⟩ rfl rfl rfl rfl rfl (by kernel_rfl) Try.func5 (by kernel_rfl)
    (of_decide_eq_true (by kernel_rfl)) (by unfold Func.isWrapper; first | (rw [if_pos (by decide +kernel)]; kernel_rfl) | (rw [if_neg (by decide +kernel)]; exact ⟨rfl, rfl⟩))
    (fun os started H enc _ => timetableFirst_lifted law os started H enc)
end Go.Proofs.Ytipbcpobnciccaa
namespace Go.Proofs.Ytipbcpobnciccaa
open Go.Lite
set_option maxRecDepth 100000
theorem prod_le {w : List (List D)} (h : ∀ j, hoursN w j ≤ 10) : ∀ k, prodF w k ≤ 10 ^ k
  | 0 => Nat.le_refl _
  | k + 1 => by
    have a := prod_le h k
    have b := h k
    simp only [prodF, Nat.pow_succ]
    exact Nat.mul_le_mul a (by omega)
theorem few_small {c f : Int} {w : List (List D)} (hs : smallP w = true) (hp : planB c f w = true) : fewC w := by
  unfold smallP at hs
  rw [Bool.and_eq_true, decide_eq_true_eq] at hs
  have h : ∀ j, hoursN w j ≤ 10 := fun j => by
    by_cases hj : j < w.length
    · have := (wayC_of (way_of hp hj).1).2.2.2.2.2.2
      unfold hoursN
      omega
    · unfold hoursN
      rw [List.getD_eq_getElem?_getD, List.getElem?_eq_none (by omega)]
      show ((([] : List (List D)).length : Nat) : Int) ≤ 10
      decide
  unfold fewC
  exact Nat.le_trans (prod_le h _) (Nat.le_trans (Nat.pow_le_pow_right (by decide) hs.1) (by decide))
theorem same_eq {a b : List (List D)} (ha : canon a) (hb : canon b) (h : sameR a b = true) : a = b := by
  unfold sameR at h
  rw [Bool.and_eq_true, decide_eq_true_eq, allFrom_iff] at h
  exact canon_ext ha hb h.1 fun j hj => eq_of_beq (h.2 j (Nat.zero_le _) (by omega))
section
variable {c f : Int} {w : List (List D)}
theorem found_ok (h : (foundC c f w).1 = 0) : carOK w (foundC c f w).2 ∧ duesOk c f w (foundC c f w).2 = true := by
  have hcs := make_ok (c := c) (f := f) (w := w) triesN (ch := firstC w) first_ok
  have e : makeF c f w triesN (firstC w) = foundC c f w := rfl
  rw [e] at hcs
  rcases hcs with h0 | h5 | h9
  · exact h0.2
  · omega
  · omega
theorem found_fnd (hp : planB c f w = true) {ch : List (List D)} (hc : carOK w ch) (hd : duesOk c f w ch = true) : fndT c f w (rowP c f w ch) (clR c f w ch) (opR c f w ch) ch 1 ((w.length + 1 : Nat) : Int) w.length w.length w.length :=
  ⟨hp, hc, hd, rfl, rfl, rfl, rfl, by omega, rfl, rfl, rfl⟩
theorem found_lent (hp : planB c f w = true) {ch : List (List D)} (hc : carOK w ch) (hd : duesOk c f w ch = true) : (rowP c f w ch).length = w.length + 2 ∧ (clR c f w ch).length = w.length ∧ (opR c f w ch).length = w.length ∧ ch.length = w.length ∧
    ((rowP c f w ch).drop 1).take (w.length + 1) = dueL c f w ch ∧ (clR c f w ch).take w.length = clR c f w ch ∧ (opR c f w ch).take w.length = opR c f w ch ∧ ch.take w.length = ch ∧ (dueL c f w ch).length = w.length + 1 := by
  obtain ⟨l1, l2, l3, l4, hdr, l5, -⟩ := fnd_of (found_fnd hp hc hd)
  refine ⟨l1, l2, l3, l4, ?_, List.take_of_length_le (by omega), List.take_of_length_le (by omega), List.take_of_length_le (by omega), l5⟩
  rw [hdr]
  exact List.take_of_length_le (by omega)
theorem plan_later (hp : planB c f w = true) {m : Int} (h0 : 0 ≤ m) (h1 : f + m ≤ 100000) : planB c (f + m) w = true := by
  unfold planB at hp ⊢
  rw [Bool.and_eq_true] at hp ⊢
  refine ⟨?_, hp.2⟩
  have := hp.1
  unfold planH at this ⊢
  rw [decide_eq_true_eq] at this ⊢
  omega
theorem due_later (hp : planB c f w = true) {m : Int} (h0 : 0 ≤ m) (hp2 : planB c (f + m) w = true) {ch : List (List D)} (hc : chOK w ch) (j : Nat) : rg (dueL c f w ch) j ≤ rg (dueL c (f + m) w ch) j := by
  obtain ⟨-, -, ⟨s1, s2, s3⟩, -, -⟩ := due_least (f := f + m) hp2 hc
  obtain ⟨-, -, -, -, d5⟩ := due_least (f := f) hp hc
  exact d5 _ ⟨by omega, s2, s3⟩ j
end
theorem law5 {a b c d : D} : (fnT C tab5 5 s5 [a, b, c, d]).run = some [D.b true] := by
  have hbig := big_eq
  refine (t5 a b c d).trans ?_
  refine go_not (fun _ => rfl) fun h1 => go_not (fun _ => rfl) fun hp => go_if (fun _ => rfl) fun h2 => go_if (fun _ => rfl) fun h3 => ?_
  have hpl := plan_of hp
  have hw : IntKind.i64.wrap (b.I + d.I) = b.I + d.I := wrap_id (by omega) (by omega)
  simp only [hw]
  refine go_if (fun _ => rfl) fun h4 => ?_
  have hf := few_small h1 hp
  have hp2 := plan_later hp (m := d.I) (by omega) (by omega)
  have z1 : Int.toNat 1 = 1 := rfl
  simp only [z1, Int.toNat_natCast]
  refine go_yes ⟨hp, hf⟩ ?_
  -- what happens where a table was found
  have fnd : ∀ {f : Int}, planB a.I f c.L = true → (foundC a.I f c.L).1 = 0 → ∀ {t e : T (List D)} {X : Option (List D)}, e.run = X →
      (T.need (decide (1 + (c.L.length + 1) ≤ (rowP a.I f c.L (foundC a.I f c.L).2).length)) (T.need (decide (c.L.length ≤ (clR a.I f c.L (foundC a.I f c.L).2).length)) (T.need (decide (c.L.length ≤ (opR a.I f c.L (foundC a.I f c.L).2).length)) (T.need (decide (c.L.length ≤ (foundC a.I f c.L).2.length))
        (T.need (yes (planB a.I f c.L = true ∧ (List.take (c.L.length + 1) (List.drop 1 (rowP a.I f c.L (foundC a.I f c.L).2))).length < big ∧ (List.take c.L.length (clR a.I f c.L (foundC a.I f c.L).2)).length < big ∧ (List.take c.L.length (opR a.I f c.L (foundC a.I f c.L).2)).length < big ∧ (List.take c.L.length (foundC a.I f c.L).2).length < big))
          (T.ite (!fitsR a.I f c.L (List.take (c.L.length + 1) (List.drop 1 (rowP a.I f c.L (foundC a.I f c.L).2))) (List.take c.L.length (clR a.I f c.L (foundC a.I f c.L).2)) (List.take c.L.length (opR a.I f c.L (foundC a.I f c.L).2)) (List.take c.L.length (foundC a.I f c.L).2)) t e)))))).run = X := by
    intro f hpf hfd t e X hX
    obtain ⟨hc, hd⟩ := found_ok hfd
    obtain ⟨l1, l2, l3, l4, e1, e2, e3, e4, l5⟩ := found_lent hpf hc hd
    have hfit := (fits_due hpf hc.1).trans hd
    simp only [e1, e2, e3, e4]
    exact go_dec (by omega) (go_dec (by omega) (go_dec (by omega) (go_dec (by omega) (go_yes ⟨hpf, by omega, by omega, by omega, by omega⟩ (go_notT hfit hX)))))
  refine go_if (fun h0 => go_yes ⟨hp2, hf⟩ (go_if (fun h0' => fnd hp h0 (fnd hp2 h0' ?_)) fun _ => go_if (fun _ => fnd hp h0 rfl) fun _ => fnd hp h0 rfl)) fun _ => ?_
  · obtain ⟨hc, hd⟩ := found_ok h0
    obtain ⟨hc', hd'⟩ := found_ok h0'
    obtain ⟨l1, l2, l3, l4, e1, e2, e3, e4, l5⟩ := found_lent hp hc hd
    obtain ⟨l1', l2', l3', l4', e1', e2', e3', e4', l5'⟩ := found_lent hp2 hc' hd'
    simp only [e4, e4']
    refine go_dec (by omega) (go_dec (by omega) (go_yes (by omega) (go_not (fun _ => rfl) fun hsm => go_yes ⟨by omega, by trivial, by omega, by trivial, by omega, l1, l1', fun j => ?_, by omega, by omega⟩ rfl)))
    have e := same_eq hc.2 hc'.2 hsm
    have g := (fnd_of (found_fnd hp hc hd)).2.2.2.2.2.2.1 j
    have g' := (fnd_of (found_fnd hp2 hc' hd')).2.2.2.2.2.2.1 j
    rw [g, g', ← e]
    exact due_later hp (by omega) hp2 hc.1 j
  · refine go_if (fun _ => go_yes ⟨hp2, hf⟩ (go_if (fun h0' => fnd hp2 h0' rfl) fun _ => go_if (fun _ => rfl) fun _ => rfl)) fun _ => go_yes ⟨hp2, hf⟩ (go_if (fun h0' => fnd hp2 h0' rfl) fun _ => go_if (fun _ => rfl) fun _ => rfl)
theorem timetableFirst_law : timetableFirstLaw := fun xs hx =>
  law_cases (f := 5) (ks := s5.args) (by kernel_rfl) (ts := [38, 3]) (by kernel_rfl) (of_decide_eq_true (by kernel_rfl)) (m := 4) (by kernel_rfl) (fun ds hl _ => by
      match ds, hl with
      | [a, b, c, d], _ =>
        exact case_of (sp := sp5) (lp := lp5) (sw := sw5) 12 ⟨ok25 11, ok26 10, ok16, ok1023 5, ok27 9, ok21 11, trivial⟩ trivial [12] (by kernel_rfl) (by kernel_rfl) (fun k hk L hL => by simp at hk; subst hk; cases hL; exact ok5_12) law5) 12 xs hx
theorem timetable_first : Rows.TimetableFirstSaid := timetableFirst_over timetableFirst_law
end Go.Proofs.Ytipbcpobnciccaa
namespace Go.Proofs.Ytipbcpobnciccaa
open Go.Lite
set_option linter.unusedVariables false
set_option maxRecDepth 100000
theorem t11 (a b c d e f g : D) : (fnT C tab11 11 s11 [a, b, c, d, e, f, g]).run =
  T.run (T.ite (!smallP c.L) (T.leaf [D.b true]) (T.ite (!planB a.I b.I c.L) (T.leaf [D.b true]) (T.ite (!briefT d.L e.L f.L g.L) (T.leaf [D.b true]) (T.need (yes (planB a.I b.I c.L = true ∧ fewC c.L)) (T.ite (decide ((foundC a.I b.I c.L).fst = (0 : Int))) (T.need (decide (Int.toNat (1 : Int) + Int.toNat (↑(c.L.length + 1) : Int) ≤ List.length (rowP a.I b.I c.L (foundC a.I b.I c.L).snd))) (T.need (decide (Int.toNat (c.L.length : Int) ≤ List.length (clR a.I b.I c.L (foundC a.I b.I c.L).snd))) (T.need (decide (Int.toNat (c.L.length : Int) ≤ List.length (opR a.I b.I c.L (foundC a.I b.I c.L).snd))) (T.need (decide (Int.toNat (c.L.length : Int) ≤ List.length (foundC a.I b.I c.L).snd)) (T.need (yes (planB a.I b.I c.L = true ∧ List.length (List.take (Int.toNat (↑(c.L.length + 1) : Int)) (List.drop (Int.toNat (1 : Int)) (rowP a.I b.I c.L (foundC a.I b.I c.L).snd))) < big ∧ List.length (List.take (Int.toNat (c.L.length : Int)) (clR a.I b.I c.L (foundC a.I b.I c.L).snd)) < big ∧ List.length (List.take (Int.toNat (c.L.length : Int)) (opR a.I b.I c.L (foundC a.I b.I c.L).snd)) < big ∧ List.length (List.take (Int.toNat (c.L.length : Int)) (foundC a.I b.I c.L).snd) < big)) (T.ite (!fitsR a.I b.I c.L (List.take (Int.toNat (↑(c.L.length + 1) : Int)) (List.drop (Int.toNat (1 : Int)) (rowP a.I b.I c.L (foundC a.I b.I c.L).snd))) (List.take (Int.toNat (c.L.length : Int)) (clR a.I b.I c.L (foundC a.I b.I c.L).snd)) (List.take (Int.toNat (c.L.length : Int)) (opR a.I b.I c.L (foundC a.I b.I c.L).snd)) (List.take (Int.toNat (c.L.length : Int)) (foundC a.I b.I c.L).snd)) (T.leaf [D.b false]) (T.need (yes (fndT a.I b.I c.L (rowP a.I b.I c.L (foundC a.I b.I c.L).snd) (clR a.I b.I c.L (foundC a.I b.I c.L).snd) (opR a.I b.I c.L (foundC a.I b.I c.L).snd) (foundC a.I b.I c.L).snd (↑(Int.toNat (1 : Int)) : Int) (↑(Int.toNat (↑(c.L.length + 1) : Int)) : Int) (↑(Int.toNat (c.L.length : Int)) : Int) (↑(Int.toNat (c.L.length : Int)) : Int) (↑(Int.toNat (c.L.length : Int)) : Int) ∧ (0 : Int) ≤ (0 : Int) ∧ (0 : Int) ≤ (c.L.length : Int))) (T.need (yes (planB a.I b.I c.L = true ∧ d.L.length < big ∧ e.L.length < big ∧ f.L.length < big ∧ g.L.length < big)) (T.ite (!fitsR a.I b.I c.L d.L e.L f.L g.L) (T.leaf [D.b true]) (T.need (decide (Int.toNat (↑(Int.toNat (c.L.length : Int)) : Int) ≤ List.length (foundC a.I b.I c.L).snd)) (T.need (yes (g.L.length < big)) (T.ite (!sameR g.L (List.take (Int.toNat (↑(Int.toNat (c.L.length : Int)) : Int)) (foundC a.I b.I c.L).snd)) (T.leaf [D.b true]) (T.need (yes (c.L.length ≤ 60 ∧ (↑(Int.toNat (↑(Int.toNat (1 : Int)) : Int)) : Int) = (1 : Int) ∧ (↑(Int.toNat (↑(Int.toNat (↑(c.L.length + 1) : Int)) : Int)) : Int) = (c.L.length : Int) + (1 : Int) ∧ List.length (rowP a.I b.I c.L (foundC a.I b.I c.L).snd) = c.L.length + 2 ∧ d.L.length = c.L.length + 1 ∧ (∀ (j : Nat), j < c.L.length + 1 → rg (rowP a.I b.I c.L (foundC a.I b.I c.L).snd) (j + 1) ≤ rg d.L j) ∧ (0 : Int) ≤ (0 : Int) ∧ (0 : Int) ≤ (c.L.length : Int) + (1 : Int))) (T.leaf [D.b true])))))))))))))) (T.ite (decide ((foundC a.I b.I c.L).fst = (5 : Int))) (T.need (yes (List.length ([] : List (List D)) ≤ 1000000000 ∧ List.length ([] : List (List D)) ≤ 1000000000 ∧ List.length ([] : List (List D)) ≤ 1000000000 ∧ List.length ([] : List (List D)) ≤ 1000000000)) (T.leaf [D.b true])) (T.need (yes (List.length ([] : List (List D)) ≤ 1000000000 ∧ List.length ([] : List (List D)) ≤ 1000000000 ∧ List.length ([] : List (List D)) ≤ 1000000000 ∧ List.length ([] : List (List D)) ≤ 1000000000)) (T.leaf [D.b true])))))))) := by kernel_rfl
end Go.Proofs.Ytipbcpobnciccaa
namespace Go.Proofs.Ytipbcpobnciccaa
open Go.Lite Go.ChangeShapes Go.WideShapes Go.ChangeAt Go.RowKit
def timetableVillagesLaw : Prop := ∀ xs : List AV, ArgsShape Try.prog 12 [38, 45] xs → ∃ n h', callA C n Unit none 11 xs [] () = some (.bool true, h', ())
theorem timetableVillages_plain : ∀ t ∈ [38, 45], plainTy Try.prog 12 t = true := by
  intro t ht
  have h : [38, 45].all (plainTy Try.prog 12) = true := by kernel_rfl
  exact List.all_eq_true.1 h t ht
set_option maxRecDepth 100000 in
theorem timetableVillages_lifted (law : timetableVillagesLaw) (os : Os) (started : os.Started) (H : Type) (enc : TypeId × Value → H) :
    ReturnsInHanded {} Try.checked os 11 .any (Rows.timetableVillagesSpec.pre6 enc Try.prog Try.f11 Rows.timetableVillagesRow.domain false) (Rows.timetableVillagesSpec.post enc Try.prog Try.f11 false true false false) := by
  refine returnsInHanded_of_change (C := Try.checked) own started (by kernel_rfl) Try.func11
    (ChangeSpec.witness6 (enc := enc) (C := Try.checked) false ⟨#[], #[.agg #[.int .i64 0, .int .i64 0, .slice none 0 0], .agg #[.slice none 0 0, .slice none 0 0, .slice none 0 0, .slice none 0 0]], []⟩ 8 (by kernel_rfl) (by kernel_rfl) (by kernel_rfl) (by kernel_rfl)) ?_
  intro W base args ds gs before hval0 hW hcnd _
  have hval : ∀ (j : Nat) t v, Try.f11.params[j]? = some t → args[j]? = some v → Value.okWide Try.prog W .any base t v := hval0
  have hW' := hW
  obtain ⟨p, q, hA0, hV, rfl, hfz, hnd⟩ := hW
  have hA : DataW.TrodAll enc Try.prog W 0 (fun _ => true) true Try.f11.params.toList args.toList ds p := hA0
  have hAk := hA
  rw [Try.params11] at hA hval
  obtain ⟨xs, hs, hr⟩ := args_shape (J := fun _ => False) (d := 12) (fun t ht => timetableVillages_plain t (by simpa using ht)) (fun j t v h1 h2 => hval j t v (by simpa using h1) (by simpa using h2)) hA
  obtain ⟨n, h', hc⟩ := law xs hs
  obtain ⟨v0, vs0, d0, ds0, p0, q0, hargs, rfl, rfl, h0, r0⟩ := trodAll_cons hA
  obtain ⟨v1, vs1, d1, ds1, p1, q1, rfl, rfl, rfl, h1, r1⟩ := trodAll_cons r0
  obtain ⟨rfl, rfl, rfl⟩ := trodAll_nil r1
  obtain rfl : args = #[v0, v1] := by cases args; simp_all
  obtain ⟨rfl, rfl⟩ := trodVars_none hV
  clear hA0 hval0
  simp only [List.append_nil] at hW'
  refine (law_calls (callsOk n) hc hr).mono fun e W' ⟨he, h1, h2, hk⟩ => ?_
  subst he
  have hlt : ∀ x ∈ p0 ++ p1, x.block < W.heap.size := fun x hx => hW'.lt x (by simpa [List.append_assoc] using hx)
  exact ⟨_, rfl, post_of_kept (pa := p0 ++ p1) (pv := []) hW' (fun _ _ _ => trodAll_mk1 (shut_bool Try.underlying4 _))
    (fun sp hsp => trodAll_carry (DataW.TrodAll.respare kids full (by rw [Try.params11]; decide) (by simpa [List.append_assoc, Rows.timetableVillagesSpec] using hAk) (fun x hx => hsp x (by simpa [List.append_assoc] using hx))) (fun x hx => sameAt_of (hk _ (hlt x hx))))
    (fun _ _ => rfl) (by simp) h1 h2 hk (ok_one (by kernel_rfl) rfl (okWide_bool_mk Try.underlying4 _))⟩
theorem timetableVillages_over (law : timetableVillagesLaw) : Rows.TimetableVillagesSaid :=
  OpenClaim.holds_of_wide 11 Try.f11 rfl rfl rfl rfl rfl rfl rfl ⟨rfl, rfl, rfl, rfl, rfl⟩ rfl rfl rfl rfl rfl (by kernel_rfl) Try.func11 (by kernel_rfl)
    (of_decide_eq_true (by kernel_rfl)) (by unfold Func.isWrapper; first | (rw [if_pos (by decide +kernel)]; kernel_rfl) | (rw [if_neg (by decide +kernel)]; exact ⟨rfl, rfl⟩))
    (fun os started H enc _ => timetableVillages_lifted law os started H enc)
end Go.Proofs.Ytipbcpobnciccaa
namespace Go.Proofs.Ytipbcpobnciccaa
open Go.Lite
set_option maxRecDepth 100000
section
variable {c f : Int} {w : List (List D)}
theorem fits_sol (_hp : planB c f w = true) {du cl op ch : List (List D)} (h : fitsR c f w du cl op ch = true) : du.length = w.length + 1 ∧ solD c f w ch (rg du) := by
  unfold fitsR at h
  rw [Bool.and_eq_true, Bool.and_eq_true, allFrom_iff, allFrom_iff] at h
  obtain ⟨h1, h2, h3⟩ := h
  obtain ⟨⟨a1, a2⟩, ⟨b1, b2⟩, ⟨o1, o2⟩, hl, hf⟩ := fitH_of h1
  have nn : ∀ j, 0 ≤ rg du j := fun j => by
    by_cases hj : j < du.length
    · exact (a2 j hj).1
    · rw [rg_ge (by omega)]; exact Int.le_refl _
  refine ⟨a1, hf, nn, fun j hj => ?_⟩
  have g1 := h2 (j + 1) (Nat.zero_le _) (by omega)
  have g1 : nextB c w du j = true := g1
  have g2 := h3 j (Nat.zero_le _) (by omega)
  unfold nextB at g1
  unfold restB at g2
  rw [Bool.and_eq_true, decide_eq_true_eq] at g2
  obtain ⟨g2, g3⟩ := g2
  have hcl := (b2 j (by omega)).1
  unfold leW moW fromF
  refine ⟨?_, ?_, ?_⟩
  · by_cases hg : j + 1 < w.length ∧ bx (w.getD (j + 1) []) 4 = true
    · rw [if_pos hg, decide_eq_true_eq] at g1
      rw [if_pos hg]
      omega
    · rw [if_neg hg, decide_eq_true_eq] at g1
      rw [if_neg hg]
      omega
  · by_cases hg : j + 1 < w.length ∧ bx (w.getD (j + 1) []) 4 = true
    · rw [if_pos hg, decide_eq_true_eq] at g1
      rw [if_pos hg]
      omega
    · rw [if_neg hg, decide_eq_true_eq] at g1
      rw [if_neg hg]
      omega
  · by_cases h0 : 0 ≤ rg ch j
    · rw [if_pos h0]
      unfold choB at g3
      by_cases hz : (lx (w.getD j []) 7).length = 0
      · rw [if_pos hz, decide_eq_true_eq] at g3
        omega
      · rw [if_neg hz, decide_eq_true_eq] at g3
        have e : (lx (w.getD j []) 7).getD (rg ch j).toNat [] = winF w ch j := rfl
        rw [e] at g3
        omega
    · rw [if_neg h0]
      omega
theorem sol_same {d : Nat → Int} {ch ch' : List (List D)} (h : ∀ j, j < w.length → rg ch j = rg ch' j) (hd : solD c f w ch d) : solD c f w ch' d := by
  refine ⟨hd.1, hd.2.1, fun j hj => ?_⟩
  have := hd.2.2 j hj
  have e : fromF w ch' j = fromF w ch j := by unfold fromF winF; rw [h j hj]
  rw [e]
  exact this
end
theorem law11 {a b c d e f g : D} : (fnT C tab11 11 s11 [a, b, c, d, e, f, g]).run = some [D.b true] := by
  have hbig := big_eq
  refine (t11 a b c d e f g).trans ?_
  refine go_not (fun _ => rfl) fun h1 => go_not (fun _ => rfl) fun hp => go_not (fun _ => rfl) fun hbr => ?_
  have hpl := plan_of hp
  have hf := few_small h1 hp
  have hbr2 := hbr
  unfold briefT at hbr2
  have hbr2 := of_decide_eq_true hbr2
  have z1 : Int.toNat 1 = 1 := rfl
  simp only [z1, Int.toNat_natCast]
  refine go_yes ⟨hp, hf⟩ (go_if (fun h0 => ?_) fun _ => go_if (fun _ => go_yes (by decide) rfl) fun _ => go_yes (by decide) rfl)
  obtain ⟨hc, hd⟩ := found_ok h0
  obtain ⟨l1, l2, l3, l4, e1, e2, e3, e4, l5⟩ := found_lent hp hc hd
  have hfit := (fits_due hp hc.1).trans hd
  have hfn := found_fnd hp hc hd
  simp only [e1, e2, e3, e4]
  refine go_dec (by omega) (go_dec (by omega) (go_dec (by omega) (go_dec (by omega) (go_yes ⟨hp, by omega, by omega, by omega, by omega⟩ (go_notT hfit (go_yes ⟨hfn, by omega, by omega⟩ (go_yes ⟨hp, by omega, by omega, by omega, by omega⟩ (go_not (fun _ => rfl) fun hfo =>
    go_dec (by omega) (go_yes (by omega) (go_not (fun _ => rfl) fun hsm => ?_)))))))))) 
  obtain ⟨o1, o2⟩ := fits_sol hp hfo
  have hse : ∀ j, j < c.L.length → rg g.L j = rg (foundC a.I b.I c.L).2 j := fun j hj => by
    unfold sameR at hsm
    rw [Bool.and_eq_true, decide_eq_true_eq, allFrom_iff] at hsm
    exact eq_of_beq (hsm.2 j (Nat.zero_le _) (by omega))
  obtain ⟨-, -, -, -, d5⟩ := due_least (f := b.I) hp hc.1
  have gg := (fnd_of hfn).2.2.2.2.2.2.1
  exact go_yes ⟨by omega, by trivial, by omega, l1, o1, fun j _ => by rw [gg j]; exact d5 _ (sol_same hse o2) j, by omega, by omega⟩ rfl
theorem timetableVillages_law : timetableVillagesLaw := fun xs hx =>
  law_cases (f := 11) (ks := s11.args) (by kernel_rfl) (ts := [38, 45]) (by kernel_rfl) (of_decide_eq_true (by kernel_rfl)) (m := 7) (by kernel_rfl) (fun ds hl _ => by
      match ds, hl with
      | [a, b, c, d, e, f, g], _ =>
        exact case_of (sp := sp11) (lp := lp11) (sw := sw11) 12 ⟨ok25 11, ok26 10, ok37 11, ok16, ok1023 5, ok24 11, ok27 9, ok38 4, ok21 11, trivial⟩ trivial [9, 27] (by kernel_rfl) (by kernel_rfl) (fun k hk L hL => by
          simp at hk
          rcases hk with rfl | rfl <;> cases hL
          · exact ok11_9
          · exact ok11_27) law11) 12 xs hx
theorem timetable_villages : Rows.TimetableVillagesSaid := timetableVillages_over timetableVillages_law
end Go.Proofs.Ytipbcpobnciccaa
