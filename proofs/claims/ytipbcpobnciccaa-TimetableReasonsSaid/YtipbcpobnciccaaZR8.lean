/-
  The statement of TimPRl holds for every input; what it rests on stands in the parts before.
-/
import Derived.Test.YtipbcpobnciccaaZR7
import Derived.Test.YtipbcpobnciccaaRows
namespace Go.Proofs.Ytipbcpobnciccaa
open Go.Lite Go.ChangeShapes Go.WideShapes Go.ChangeAt Go.RowKit
theorem kids : Kids Try.prog (· < Try.prog.types.size) := kids_rows (by kernel_rfl) (by kernel_rfl)
theorem full : ∀ t e, t < Try.prog.types.size → Try.prog.underlying t = some (.slice e) → 0 < Try.prog.cellsOf e := slices_full_of Try.prog (by kernel_rfl)
end Go.Proofs.Ytipbcpobnciccaa
namespace Go.Proofs.Ytipbcpobnciccaa
open Go.Lite Go.ChangeShapes Go.WideShapes Go.ChangeAt Go.RowKit
def timetableReasonsLaw : Prop := ∀ xs : List AV, ArgsShape Try.prog 12 [3, 22, 3] xs → ∃ n h', callA C n Unit none 3 xs [] () = some (.bool true, h', ())
theorem timetableReasons_plain : ∀ t ∈ [3, 22, 3], plainTy Try.prog 12 t = true := by
  intro t ht
  have h : [3, 22, 3].all (plainTy Try.prog 12) = true := by kernel_rfl
  exact List.all_eq_true.1 h t ht
set_option maxRecDepth 100000 in
theorem timetableReasons_lifted (law : timetableReasonsLaw) (os : Os) (started : os.Started) (H : Type) (enc : TypeId × Value → H) :
    ReturnsInHanded {} Try.checked os 3 .any (Rows.timetableReasonsSpec.pre6 enc Try.prog Try.f3 Rows.timetableReasonsRow.domain false) (Rows.timetableReasonsSpec.post enc Try.prog Try.f3 false true false false) := by
  refine returnsInHanded_of_change (C := Try.checked) own started (by kernel_rfl) Try.func3
    (ChangeSpec.witness6 (enc := enc) (C := Try.checked) false ⟨#[], #[.int .i64 0, .slice none 0 0, .int .i64 0], []⟩ 8 (by kernel_rfl) (by kernel_rfl) (by kernel_rfl) (by kernel_rfl)) ?_
  intro W base args ds gs before hval0 hW hcnd _
  have hval : ∀ (j : Nat) t v, Try.f3.params[j]? = some t → args[j]? = some v → Value.okWide Try.prog W .any base t v := hval0
  have hW' := hW
  obtain ⟨p, q, hA0, hV, rfl, hfz, hnd⟩ := hW
  have hA : DataW.TrodAll enc Try.prog W 0 (fun _ => true) true Try.f3.params.toList args.toList ds p := hA0
  have hAk := hA
  rw [Try.params3] at hA hval
  obtain ⟨xs, hs, hr⟩ := args_shape (J := fun _ => False) (d := 12) (fun t ht => timetableReasons_plain t (by simpa using ht)) (fun j t v h1 h2 => hval j t v (by simpa using h1) (by simpa using h2)) hA
  obtain ⟨n, h', hc⟩ := law xs hs
  obtain ⟨v0, vs0, d0, ds0, p0, q0, hargs, rfl, rfl, h0, r0⟩ := trodAll_cons hA
  obtain ⟨v1, vs1, d1, ds1, p1, q1, rfl, rfl, rfl, h1, r1⟩ := trodAll_cons r0
  obtain ⟨v2, vs2, d2, ds2, p2, q2, rfl, rfl, rfl, h2, r2⟩ := trodAll_cons r1
  obtain ⟨rfl, rfl, rfl⟩ := trodAll_nil r2
  obtain rfl : args = #[v0, v1, v2] := by cases args; simp_all
  obtain ⟨rfl, rfl⟩ := trodVars_none hV
  clear hA0 hval0
  simp only [List.append_nil] at hW'
  refine (law_calls (callsOk n) hc hr).mono fun e W' ⟨he, h1, h2, hk⟩ => ?_
  subst he
  have hlt : ∀ x ∈ p0 ++ p1 ++ p2, x.block < W.heap.size := fun x hx => hW'.lt x (by simpa [List.append_assoc] using hx)
  exact ⟨_, rfl, post_of_kept (pa := p0 ++ p1 ++ p2) (pv := []) hW' (fun _ _ _ => trodAll_mk1 (shut_bool Try.underlying4 _))
    (fun sp hsp => trodAll_carry (DataW.TrodAll.respare kids full (by rw [Try.params3]; decide) (by simpa [List.append_assoc, Rows.timetableReasonsSpec] using hAk) (fun x hx => hsp x (by simpa [List.append_assoc] using hx))) (fun x hx => sameAt_of (hk _ (hlt x hx))))
    (fun _ _ => rfl) (by simp [List.append_assoc]) h1 h2 hk (ok_one (by kernel_rfl) rfl (okWide_bool_mk Try.underlying4 _))⟩
theorem timetableReasons_over (law : timetableReasonsLaw) : Rows.TimetableReasonsSaid :=
  OpenClaim.holds_of_wide 3 Try.f3 rfl rfl rfl rfl rfl rfl rfl ⟨rfl, rfl, rfl, rfl, rfl⟩ rfl rfl rfl rfl rfl (by kernel_rfl) Try.func3 (by kernel_rfl)
    (of_decide_eq_true (by kernel_rfl)) (by unfold Func.isWrapper; first | (rw [if_pos (by decide +kernel)]; kernel_rfl) | (rw [if_neg (by decide +kernel)]; exact ⟨rfl, rfl⟩))
    (fun os started H enc _ => timetableReasons_lifted law os started H enc)
set_option maxRecDepth 100000
theorem few_lt {n : Int} {l : List (List D)} (h : fewB n l = true) : l.length < big := by
  unfold fewB at h
  simp only [Bool.and_eq_true, Bool.or_eq_true, decide_eq_true_eq] at h
  rw [big_eq]
  omega
theorem sameR_refl (a : List (List D)) : sameR a a = true := by
  unfold sameR
  rw [Bool.and_eq_true, allFrom_iff]
  exact ⟨decide_eq_true rfl, fun j _ _ => beq_self_eq_true _⟩
theorem ok16 : FnOK C 12 16 (mkF s16 G16) := by
  intro args v hb h avs hv
  unfold mkF at h
  split at h
  · rename_i ds hds
    have ha : args = [] := by
      cases args with
      | nil => rfl
      | cons x y => simp [s16, fitsVs] at hds
    subst ha
    simp only [VRL] at hv
    subst hv
    simp only [s16, fitsVs, Option.some.injEq] at hds
    subst hds
    simp only [G16, T.run_map, run_leaf, Option.map_some, Option.some.injEq] at h
    obtain ⟨rfl, rfl⟩ := Prod.mk.inj h
    exact ⟨_, _, known0, rfl, rfl, fun i => by cases i <;> exact trivial⟩
  · cases h
def canon (t : List (List D)) : Prop := ∀ j, j < t.length → t.getD j [] = [.i (rg t j)]
theorem canon_rs {t : List (List D)} (h : canon t) (j : Nat) (v : Int) : canon (rs t j v) := by
  intro i hi
  rw [len_rs] at hi
  by_cases e : i = j
  · subst e
    rw [rg_rs hi, if_pos rfl]
    unfold rs
    rw [List.getD_eq_getElem?_getD, List.getElem?_set_self hi]
    rfl
  · have h1 : (rs t j v).getD i [] = t.getD i [] := by
      unfold rs
      rw [List.getD_eq_getElem?_getD, List.getD_eq_getElem?_getD, List.getElem?_set_ne (fun h => e h.symm)]
    have h2 : rg (rs t j v) i = rg t i := by unfold rg; rw [h1]
    rw [h1, h2]
    exact h i hi
theorem canon_ext {a b : List (List D)} (ha : canon a) (hb : canon b) (hl : a.length = b.length) (h : ∀ j, j < a.length → rg a j = rg b j) : a = b := by
  apply List.ext_getElem hl
  intro j h1 h2
  have e1 := ha j h1
  have e2 := hb j h2
  rw [List.getD_eq_getElem?_getD, List.getElem?_eq_getElem h1] at e1
  rw [List.getD_eq_getElem?_getD, List.getElem?_eq_getElem h2] at e2
  simp only [Option.getD_some] at e1 e2
  rw [e1, e2, h j h1]
theorem canon_cons {l : List (List D)} {x : Int} (h : canon l) : canon ([.i x] :: l) := fun j hj => by
  cases j with
  | zero => rfl
  | succ j => exact h j (by simpa using hj)
theorem canon_backW {n : Int} {a : List (List D)} : ∀ (k : Nat) (m : Int), canon (backW n a k m)
  | 0, _ => fun j hj => by simp [backW] at hj
  | k + 1, m => canon_cons (canon_backW k _)
theorem canon_revR : ∀ (k i : Nat) {r : List (List D)}, canon r → canon (revR i k r)
  | 0, _, _, h => h
  | k + 1, i, r, h => by
    simp only [revR]
    split
    · exact canon_revR k (i + 1) (canon_rs (canon_rs h _ _) _ _)
    · exact h
theorem getD_reverse {r : List (List D)} {j : Nat} (h : j < r.length) : r.reverse.getD j [] = r.getD (r.length - 1 - j) [] := by
  rw [List.getD_eq_getElem?_getD, List.getD_eq_getElem?_getD, List.getElem?_reverse h]
theorem canon_reverse {r : List (List D)} (h : canon r) : canon r.reverse := fun j hj => by
  rw [List.length_reverse] at hj
  have := h (r.length - 1 - j) (by omega)
  unfold rg at this ⊢
  rw [getD_reverse hj]
  exact this
theorem revR_reverse {r : List (List D)} (h : canon r) : revR 0 r.length r = r.reverse := by
  refine canon_ext (canon_revR _ _ h) (canon_reverse h) (by rw [len_revR, List.length_reverse]) fun j hj => ?_
  rw [len_revR] at hj
  rw [revR_get _ _ _ (by omega) j hj, if_pos (by omega)]
  unfold rg
  rw [getD_reverse hj]
theorem law3 (a b c : D) : (fnT C tab3 3 s3 [a, b, c]).run = some [D.b true] := by
  have hbig := big_eq
  refine (t3 a b c).trans ?_
  refine go_not (fun _ => rfl) fun hf => ?_
  have hb := few_lt hf
  refine go_yes hb (go_ite (fun hn => ?_) fun hn => ?_)
  · rw [Bool.and_eq_true, Lite.within_iff] at hn
    obtain ⟨hn, hm⟩ := hn
    have hp : netP a.I b.L := hn
    obtain ⟨e1, e2⟩ := ref_push hp
    have hl := good_all hp
    obtain ⟨k1, k2, k3, k4⟩ := net_of hp
    have hlen : (pushR a.I (allL a.I b.L) (zeros a.I)).1.length = a.I.toNat := (sim_push hl (len_zeros _)).l1
    have ht : List.take a.I.toNat (earlT a.I b.L) = earlT a.I b.L := List.take_of_length_le (by unfold earlT; omega)
    have et : (pushR a.I (allL a.I b.L) (zeros a.I)).1 = earlT a.I b.L := rfl
    refine go_if (fun hr => ?_) fun hr => ?_
    · have E : Early a.I (allL a.I b.L) (earlT a.I b.L) := early_net hp hr
      have ok := ok_early hp hr
      have hz := E.num_eq (m := c.I.toNat) (by omega)
      obtain ⟨q1, q2, q3⟩ := E.num_is (m := c.I.toNat) (by omega)
      have hW := E.weighs _ c.I (by omega) (by omega) q2
      have hch : chainW a.I b.L c.I = backH a.I (allL a.I b.L) (earlT a.I b.L) (numH a.I (allL a.I b.L) (earlT a.I b.L) c.I.toNat) c.I := by
        unfold chainW
        rw [hz, E.back_eq _ c.I (by omega) (by omega) q2]
      have hcan : canon (chainW a.I b.L c.I) := canon_backW _ _
      rw [et] at e1 hlen
      simp only [Int.toNat_natCast, e1, ht, rg_def] at hch ⊢
      refine go_if (fun c0 => ?_) fun c0 => ?_
      · rw [hz] at c0
        rw [c0] at hW
        have hW1 : rg (earlT a.I b.L) c.I.toNat = 0 := (congrArg (fun x => x.2.1) hW).symm
        have hW2 : c.I = 0 := (congrArg (fun x => x.2.2) hW).symm
        refine go_yes hb (go_notT hn (go_neg (by omega) (go_neg (by omega) (go_yes hp (go_notT (by rw [e2]; exact decide_eq_true hr) (go_yes ⟨hp, by decide⟩ (go_dec (by omega) (go_yes ⟨hp, ok, E, by omega, by omega⟩ (go_pos c0 (go_yes (by decide) (go_true (by rw [hW2]; rfl) (go_dec ⟨by omega, by omega⟩ (go_dec (by omega) (go_true (by rw [hW1]; rfl) rfl))))))))))))))
      · rw [hz] at c0
        have hlc : (chainW a.I b.L c.I).length = numH a.I (allL a.I b.L) (earlT a.I b.L) c.I.toNat := by rw [hch, len_backH]
        have hrv : revR 0 (chainW a.I b.L c.I).length (chainW a.I b.L c.I) = reaH a.I (allL a.I b.L) (earlT a.I b.L) (numH a.I (allL a.I b.L) (earlT a.I b.L) c.I.toNat) c.I := by
          rw [revR_reverse hcan, hch]
          rfl
        have hlr := len_rea a.I (allL a.I b.L) (earlT a.I b.L) (numH a.I (allL a.I b.L) (earlT a.I b.L) c.I.toNat) c.I
        have htk : ∀ k, k = numH a.I (allL a.I b.L) (earlT a.I b.L) c.I.toNat → List.take k (reaH a.I (allL a.I b.L) (earlT a.I b.L) (numH a.I (allL a.I b.L) (earlT a.I b.L) c.I.toNat) c.I) = reaH a.I (allL a.I b.L) (earlT a.I b.L) (numH a.I (allL a.I b.L) (earlT a.I b.L) c.I.toNat) c.I := fun k hk => List.take_of_length_le (by omega)
        rw [hrv, hlc]
        simp only [hlr, htk _ rfl]
        have hW' : weighF (allL a.I b.L) (reaH a.I (allL a.I b.L) (earlT a.I b.L) (numH a.I (allL a.I b.L) (earlT a.I b.L) c.I.toNat) c.I) 0 (numH a.I (allL a.I b.L) (earlT a.I b.L) c.I.toNat) 0 0 = (true, rg (earlT a.I b.L) c.I.toNat, c.I) := hW
        rw [hW']
        exact go_yes hb (go_notT hn (go_neg (by omega) (go_neg (by omega) (go_yes hp (go_notT (by rw [e2]; exact decide_eq_true hr) (go_dec (by omega) (go_yes ⟨hp, by omega⟩ (go_dec (by omega) (go_yes ⟨hp, ok, E, by omega, by omega⟩ (go_neg c0 (go_dec (by omega) (go_dec (by omega) (go_yes (by omega) (go_true (sameR_refl _) (go_true rfl (go_true (beq_self_eq_true _) (go_dec ⟨by omega, by omega⟩ (go_dec (by omega) (go_true (beq_self_eq_true _) rfl)))))))))))))))))))
    · exact go_yes hb (go_notT hn (go_neg (by omega) (go_neg (by omega) (go_yes hp (go_notF (by rw [e2]; exact decide_eq_false hr) rfl)))))
  · refine go_yes hb (go_not (fun _ => rfl) fun c1 => go_if (fun _ => rfl) fun c2 => go_if (fun _ => rfl) fun c3 => ?_)
    rw [c1, Bool.true_and] at hn
    have := Lite.within_iff.2 (show 0 ≤ c.I ∧ c.I ≤ a.I - 1 by omega)
    rw [hn] at this
    cases this
theorem timetableReasons_law : timetableReasonsLaw := fun xs hx =>
  law_true_wf hC (sp := sp3) (lp := lp3) (n := 12) ⟨ok15 11, ok16, ok17 6, ok18 10, ok19 8, ok20 10, ok22 10, ok21 11, trivial⟩ (by kernel_rfl) [] (by kernel_rfl) rfl (fun k hk => by cases hk)
    (ts := [3, 22, 3]) (ks := s3.args) (by kernel_rfl) (of_decide_eq_true (by kernel_rfl)) (m := 3) (by kernel_rfl) (fun ds hl _ => by
      match ds, hl with
      | [a, b, c], _ => exact law3 a b c) 12 xs hx
theorem timetable_reasons : Rows.TimetableReasonsSaid := timetableReasons_over timetableReasons_law
end Go.Proofs.Ytipbcpobnciccaa
