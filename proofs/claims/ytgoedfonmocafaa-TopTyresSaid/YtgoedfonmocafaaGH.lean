/-
  The statement of TopTyres follows once the law is reckoned to be true for arguments of the right shapes.
  The law of tyres on roads holds for every input.
-/
import Derived.Test.YtgoedfonmocafaaOver
import Derived.Test.YtgoedfonmocafaaGF
import Derived.Test.YtgoedfonmocafaaGG
namespace Go.Proofs.Ytgoedfonmocafaa
open Go.Lite Go.ChangeShapes Go.WideShapes Go.ChangeAt Go.RowKit

def topTyresLaw : Prop := ∀ xs : List AV, ArgsShape Try.prog 12 [26, 47, 3, 3, 4, 3] xs → ∃ n h', callA C n Unit none 4 xs [] () = some (.bool true, h', ())
theorem topTyres_plain : ∀ t ∈ [26, 47, 3, 3, 4, 3], plainTy Try.prog 12 t = true := by
  intro t ht
  have h : [26, 47, 3, 3, 4, 3].all (plainTy Try.prog 12) = true := by kernel_rfl
  exact List.all_eq_true.1 h t ht
set_option maxRecDepth 100000 in
theorem topTyres_lifted (law : topTyresLaw) (os : Os) (started : os.Started) (H : Type) (enc : TypeId × Value → H) :
    ReturnsInHanded {} Try.checked os 4 .any (Rows.topTyresSpec.pre6 enc Try.prog Try.f4 Rows.topTyresRow.domain false) (Rows.topTyresSpec.post enc Try.prog Try.f4 false true false false) := by
  refine returnsInHanded_of_change (C := Try.checked) own started (by kernel_rfl) Try.func4
    (ChangeSpec.witness6 (enc := enc) (C := Try.checked) false ⟨#[], #[.agg #[.slice none 0 0, .slice none 0 0, .slice none 0 0], .agg #[.slice none 0 0, .slice none 0 0, .slice none 0 0, .int .i64 0], .int .i64 0, .int .i64 0, .bool false, .int .i64 0], []⟩ 8 (by kernel_rfl) (by kernel_rfl) (by kernel_rfl) (by kernel_rfl)) ?_
  intro W base args ds gs before hval0 hW hcnd _
  have hval : ∀ (j : Nat) t v, Try.f4.params[j]? = some t → args[j]? = some v → Value.okWide Try.prog W .any base t v := hval0
  have hW' := hW
  obtain ⟨p, q, hA0, hV, rfl, hfz, hnd⟩ := hW
  have hA : DataW.TrodAll enc Try.prog W 0 (fun _ => true) true Try.f4.params.toList args.toList ds p := hA0
  have hAk := hA
  rw [Try.params4] at hA hval
  obtain ⟨xs, hs, hr⟩ := args_shape (J := fun _ => False) (d := 12) (fun t ht => topTyres_plain t (by simpa using ht)) (fun j t v h1 h2 => hval j t v (by simpa using h1) (by simpa using h2)) hA
  obtain ⟨n, h', hc⟩ := law xs hs
  obtain ⟨v0, vs0, d0, ds0, p0, q0, hargs, rfl, rfl, h0, r0⟩ := trodAll_cons hA
  obtain ⟨v1, vs1, d1, ds1, p1, q1, rfl, rfl, rfl, h1, r1⟩ := trodAll_cons r0
  obtain ⟨v2, vs2, d2, ds2, p2, q2, rfl, rfl, rfl, h2, r2⟩ := trodAll_cons r1
  obtain ⟨v3, vs3, d3, ds3, p3, q3, rfl, rfl, rfl, h3, r3⟩ := trodAll_cons r2
  obtain ⟨v4, vs4, d4, ds4, p4, q4, rfl, rfl, rfl, h4, r4⟩ := trodAll_cons r3
  obtain ⟨v5, vs5, d5, ds5, p5, q5, rfl, rfl, rfl, h5, r5⟩ := trodAll_cons r4
  obtain ⟨rfl, rfl, rfl⟩ := trodAll_nil r5
  obtain rfl : args = #[v0, v1, v2, v3, v4, v5] := by cases args; simp_all
  obtain ⟨rfl, rfl⟩ := trodVars_none hV
  clear hA0 hval0
  simp only [List.append_nil] at hW'
  refine (law_calls (callsOk n) hc hr).mono fun e W' ⟨he, h1, h2, hk⟩ => ?_
  subst he
  have hlt : ∀ x ∈ p0 ++ p1 ++ p2 ++ p3 ++ p4 ++ p5, x.block < W.heap.size := fun x hx => hW'.lt x (by simpa [List.append_assoc] using hx)
  exact ⟨_, rfl, post_of_kept (pa := p0 ++ p1 ++ p2 ++ p3 ++ p4 ++ p5) (pv := []) hW' (fun _ _ _ => trodAll_mk1 (shut_bool Try.underlying4 _))
    (fun sp hsp => trodAll_carry (DataW.TrodAll.respare kids full (by rw [Try.params4]; decide) (by simpa [List.append_assoc, Rows.topTyresSpec] using hAk) (fun x hx => hsp x (by simpa [List.append_assoc] using hx))) (fun x hx => sameAt_of (hk _ (hlt x hx))))
    (fun _ _ => rfl) (by simp [List.append_assoc]) h1 h2 hk (ok_one (by kernel_rfl) rfl (okWide_bool_mk Try.underlying4 _))⟩
theorem topTyres_over (law : topTyresLaw) : Rows.TopTyresSaid :=
  OpenClaim.holds_of_wide 4 Try.f4 rfl rfl rfl rfl rfl rfl rfl ⟨rfl, rfl, rfl, rfl, rfl⟩ rfl rfl rfl rfl rfl (by kernel_rfl) Try.func4 (by kernel_rfl)
    (of_decide_eq_true (by kernel_rfl)) (by unfold Func.isWrapper; first | (rw [if_pos (by decide +kernel)]; kernel_rfl) | (rw [if_neg (by decide +kernel)]; exact ⟨rfl, rfl⟩))
    (fun os started H enc _ => topTyres_lifted law os started H enc)
end Go.Proofs.Ytgoedfonmocafaa

namespace Go.Proofs.Ytgoedfonmocafaa
open Go.Lite
set_option maxRecDepth 100000
theorem ok17 : FnOK C 12 17 (mkF s17 G17) := by
  intro args v hb h avs hv
  unfold mkF at h
  split at h
  · rename_i ds hds
    have ha : args = [] := by
      cases args with
      | nil => rfl
      | cons x y => simp [s17, fitsVs] at hds
    subst ha
    simp only [VRL] at hv
    subst hv
    simp only [s17, fitsVs, Option.some.injEq] at hds
    subst hds
    simp only [G17, T.run_map, run_leaf, Option.map_some, Option.some.injEq] at h
    obtain ⟨rfl, rfl⟩ := Prod.mk.inj h
    exact ⟨_, _, known0, rfl, rfl, fun i => by cases i <;> exact trivial⟩
  · cases h
theorem ok16w (n : Nat) : FnOK C (n + 3) 16 (mkF s16 G16w) := by
  refine fn_of hC (sp := sp16) (lp := lp16) ⟨ok49 n, ok46 (n + 1), trivial⟩ (by kernel_rfl) [5] (by kernel_rfl) (by kernel_rfl) (fun k hk L hL => by simp at hk; subst hk; cases hL; exact ok16_5 n) fun ds r h => ?_
  unfold G16w at h
  split at h
  · rename_i a b c d
    obtain ⟨hp, h⟩ := need_some h
    rw [yes_iff] at hp
    obtain ⟨h1, h2⟩ := hp
    rw [← h]
    refine (congrArg T.run (t16 a b c d)).trans ?_
    simp only [run_ite, run_need, run_leaf, compoundOk, wearOk, yes_true h1, yes_true h2, yes_iff, if_true, Int.toNat_zero, Nat.sub_zero, within]
    have e1 : ((b.L.length : Int) = a.L.length) ↔ b.L.length = a.L.length := Int.ofNat_inj
    have e2 : ((c.L.length : Int) = a.L.length) ↔ c.L.length = a.L.length := Int.ofNat_inj
    grind
  · cases h
theorem lenFrom_min {l : List (List D)} {k a : Nat} (h : k < a) : lenFrom l 0 (min (k + 1) a) = lenFrom l 0 (min k a) + ix (l.getD k []) 0 := by
  rw [show min (k + 1) a = k + 1 by omega, show min k a = k by omega, lenFrom_succ]
theorem ok4_5 : LoopSim C 12 4 (loopOf C.P 4 5) (mkL l4_5 G4_5) := by
  refine loop_of hC (sp := sp4) (lp := lp4) ⟨ok15 7, ok16w 9, ok17, ok18 7, ok19 10, ok20 7, ok22 11, ok21w 4, ok23w 4, trivial⟩ [] (by kernel_rfl) rfl (fun k hk => by cases hk) (by kernel_rfl) (fun ds => (((ds.getD 6 default).L.length : Int) - (ds.getD 5 default).I).toNat) fun ds rr h => ?_
  unfold G4_5 at h
  split at h
  · rename_i at_ dg wt wr pl i p c j a b w l
    obtain ⟨hp, h⟩ := need_some h
    rw [yes_iff] at hp
    obtain ⟨h1, h2, h3, h4, h5, h6, h7⟩ := hp
    refine ⟨by rw [fuelC]; simp; omega, ?_⟩
    rw [show roundT C (mkTab sp4 lp4) 4 (loopOf C.P 4 5) l4_5 [at_, dg, wt, wr, pl, i, p, c, j, a, b, w, l] = _ from t4_5 at_ dg wt wr pl i p c j a b w l]
    obtain ⟨k, hk⟩ : ∃ k : Nat, i.I = k := ⟨i.I.toNat, by omega⟩
    obtain ⟨q, hq⟩ : ∃ q : Nat, at_.I = q := ⟨at_.I.toNat, by omega⟩
    simp only [hk, hq, Int.toNat_natCast, ix_def, Nat.reduceAdd] at h h3 h4 h5 h6 h7 ⊢
    have hmu : k < p.L.length → ((p.L.length : Int) - ((k + 1 : Nat) : Int)).toNat < ((p.L.length : Int) - i.I).toNat := fun _ => by omega
    refine rd_if (fun hlt => ?_) fun hge => ?_
    · have hlt : k < p.L.length := by omega
      rw [wrap_succ (by omega)]
      rw [show p.L.length - k = (p.L.length - (k + 1)) + 1 by omega] at h
      simp only [allFrom] at h
      refine rd_dec (by omega) (rd_if (fun c1 => ?_) fun c1 => ?_)
      · rw [show soft p.L k = false from decide_eq_false (by omega), Bool.false_and] at h
        exact rd_out h
      · rw [show soft p.L k = true from decide_eq_true (by omega), Bool.true_and] at h
        have hb := lenFrom_bound (l := p.L) (min k q) 0 fun y _ b => (allFrom_iff.1 h2) y (Nat.zero_le _) (by omega)
        have hx := piece_rng h2 hlt
        refine rd_if (fun c2 => rd_dec (by omega) ?_) fun c2 => ?_
        · rw [wrap_id (x := pl.I + ix (p.L.getD k []) 0) (by omega) (by omega)]
          refine rd_again ((need_yes ⟨h1, h2, by simp only [I_i]; omega, by simp only [I_i, L_l]; omega, by simp only [I_i]; omega, by simp only [I_i, L_l]; omega, ?_⟩).trans ?_) (hmu hlt)
          · simp only [I_i, L_l, B_b, Int.toNat_natCast]
            exact h
          · simp only [I_i, L_l, Int.toNat_natCast]
            rw [lenFrom_min (by omega), h7]
        · refine rd_again ((need_yes ⟨h1, h2, by simp only [I_i]; omega, by simp only [I_i, L_l]; omega, by simp only [I_i]; omega, by simp only [I_i, L_l]; omega, ?_⟩).trans ?_) (hmu hlt)
          · simp only [I_i, L_l, B_b, Int.toNat_natCast]
            exact h
          · simp only [I_i, L_l, Int.toNat_natCast]
            rw [h7, show min (k + 1) q = min k q by omega]
    · rw [show p.L.length - k = 0 by omega] at h
      simp only [allFrom] at h
      rw [show min k q = q by omega] at h7
      rw [h7]
      exact rd_out h
  · cases h
theorem law4 (a b c d e f g h i j k : D) : (fnT C tab4 4 s4 [a, b, c, d, e, f, g, h, i, j, k]).run = some [D.b true] := by
  refine (congrArg T.run (t4 a b c d e f g h i j k)).trans ?_
  generalize fnT C tab4 4 s4 [a, b, c, d, e, f, g, h, i, j, k] = XX
  have hb : big = 4611686018427387904 := rfl
  by_cases hs : shortR a.L b.L c.L 1000 = true
  case neg => exact go_notF (by simpa using hs) rfl
  by_cases q1 : (a.L.length : Int) > 12
  case pos => exact go_notT hs (go_pos q1 rfl)
  refine go_notT hs (go_neg q1 ?_)
  refine go_ite (fun _ => rfl) fun q2 => go_ite (fun _ => rfl) fun q3 => ?_
  have q2 : d.L.length = 8 := by
    have : (d.L.length : Int) = 8 := by simpa using q2
    omega
  have q3 : e.L.length = 8 := by
    have : (e.L.length : Int) = 8 := by simpa using q3
    omega
  refine go_yes ⟨by omega, by omega⟩ (go_not (fun _ => rfl) fun q4 => go_if (fun _ => rfl) fun q5 => go_if (fun _ => rfl) fun q6 => go_if (fun _ => rfl) fun q7 => go_if (fun _ => rfl) fun q8 => go_if (fun _ => rfl) fun q9 => go_if (fun _ => rfl) fun q10 => ?_)
  obtain ⟨q, hq⟩ : ∃ q : Nat, h.I = q := ⟨h.I.toNat, by omega⟩
  simp only [shortR, Bool.and_eq_true, decide_eq_true_eq] at hs
  obtain ⟨⟨-, hr⟩, hlen⟩ := hs
  have hr : roadP a.L b.L c.L := hr
  obtain ⟨hm, -, -, -, hne⟩ := road_of hr
  obtain ⟨m1, m2, m3⟩ := id hm
  simp only [hq, Int.toNat_natCast, Int.toNat_zero, Nat.sub_zero]
  refine go_yes ⟨by omega, m3, by omega, by omega, by omega, by omega, by simp [lenFrom]⟩ (go_ite (fun q11 => ?_) fun _ => rfl)
  have hsoft : ∀ x ∈ a.L, (1 ≤ ix x 0 ∧ ix x 0 ≤ 5000) ∧ 1 ≤ ix x 4 ∧ ix x 4 ≤ 8 := fun x hx => by
    obtain ⟨y, hy, rfl⟩ := getD_mem hx
    have h1 := piece_rng m3 hy
    have h2 := allFrom_iff.1 q11 y (Nat.zero_le _) (by omega)
    simp only [soft, decide_eq_true_eq] at h2
    omega
  have hpos : ∀ j, j < a.L.length → 1 ≤ ix (a.L.getD j []) 0 := fun j hj => (piece_rng m3 hj).1.1
  have hl0 : 0 < lenFrom a.L 0 q := by
    have h1 := lenFrom_pos (l := a.L) (q - 1) 0 fun j _ y => by have := hpos j (by omega); omega
    have h2 := lenFrom_succ a.L (q - 1)
    rw [show q - 1 + 1 = q by omega] at h2
    have := hpos (q - 1) (by omega)
    omega
  have hl1 : lenFrom a.L 0 q < lenR a.L := by
    have h1 := lenFrom_add a.L q (a.L.length - q) 0
    rw [show q + (a.L.length - q) = a.L.length by omega] at h1
    have h2 := lenFrom_step (p := a.L) (k := q) (by omega)
    have h3 := lenFrom_pos (l := a.L) (a.L.length - (q + 1)) (q + 1) fun j _ y => by have := hpos j (by omega); omega
    have := hpos q (by omega)
    rw [Nat.zero_add] at h1
    unfold lenR
    omega
  obtain ⟨e1, e2⟩ := part_both (p := a.L) (dg := i.I) (wt := j.B) (k := q) (by omega) hpos
  have e3 := back_loop (p := a.L) (dg := i.I) (wt := j.B) m1
  have hpl := yldP_length a.L a.L.length 0 0
  have n1 := partY_length (a := 0) (b := lenFrom a.L 0 q) (yldP a.L 0 a.L.length 0)
  have n2 := partY_length (a := lenFrom a.L 0 q) (b := lenR a.L) (yldP a.L 0 a.L.length 0)
  have n3 := turnR_length a.L
  simp only [e1, e2, e3]
  have hok : loopOk (lpL i.I j.B a.L) (d.L.length : Int) = true := by
    rw [q2]
    exact loop_ok (by omega) (by omega) hsoft
  have hpre : drivePre d.L e.L f.L g.I (lpL i.I j.B a.L) := ⟨q4, hok⟩
  obtain ⟨s1, s2, s3⟩ := small_comp q4
  obtain ⟨f1, f2, f3, f4, f5, f6, f7⟩ := tyres_fact (k := q) hpre (w := k.I) (by omega) (by omega)
  obtain ⟨t1, t2⟩ := loopOk_take hok q
  have t3 := loopOk_reverse hok
  have lp : ∀ (l : List (List D)) (w : Int), loopOk l (d.L.length : Int) = true → 0 ≤ w ∧ w ≤ 1000000 → lossPre d.L e.L f.L g.I l w := fun l w h1 h2 => ⟨s1, s2, s3, by simp [lossOk, q4, h1, Lite.within_iff, h2]⟩
  have w3 : IntKind.i64.wrap ((drive d.L e.L f.L g.I ((lpL i.I j.B a.L).take q) k.I).2.1 + (drive d.L e.L f.L g.I ((lpL i.I j.B a.L).drop q) (drive d.L e.L f.L g.I ((lpL i.I j.B a.L).take q) k.I).1).2.1) = (drive d.L e.L f.L g.I (lpL i.I j.B a.L) k.I).2.1 := by rw [← f2]; exact wrap_id (by omega) (by omega)
  rw [w3, ← f4, f7 _ f6.1 f6.2]
  refine go_yes ⟨hr, by omega, hl0, by omega⟩ (go_yes ⟨by omega, m3⟩ (go_yes ⟨hr, by omega, hl1, by omega⟩ (go_yes hr (go_false rfl (go_false rfl (go_false rfl ?_))))))
  refine go_yes m2 (go_yes (lp _ _ hok (by omega)) (go_yes (by omega) (go_yes (lp _ _ t1 (by omega)) (go_yes (by omega) (go_yes (lp _ _ t2 f1) (go_yes (by omega) (go_yes (lp _ _ t3 f6) (go_yes m2 (go_yes (lp _ _ hok f6) (go_yes m2 (go_yes (lp _ _ hok (by omega)) (go_yes (by omega) (go_yes (lp _ _ t1 (by omega)) ?_)))))))))))))
  refine go_false rfl (go_false rfl (go_false rfl (go_false rfl (go_false rfl (go_false rfl (go_false rfl (go_true (by simp) (go_true (by simp) (go_true (by simp) ?_)))))))))
  refine go_not (fun _ => rfl) fun z1 => go_true (f5 z1) rfl
theorem topTyres_law : topTyresLaw := fun xs hx =>
  law_true_wf hC (sp := sp4) (lp := lp4) (n := 12) ⟨ok15 7, ok16w 9, ok17, ok18 7, ok19 10, ok20 7, ok22 11, ok21w 4, ok23w 4, trivial⟩ (by kernel_rfl) [5] (by kernel_rfl) (by kernel_rfl) (fun k hk L hL => by simp at hk; subst hk; cases hL; exact ok4_5)
    (ts := [26, 47, 3, 3, 4, 3]) (ks := s4.args) (by kernel_rfl) (of_decide_eq_true (by kernel_rfl)) (m := 11) (by kernel_rfl) (fun ds hl _ => by
      match ds, hl with
      | [a, b, c, d, e, f, g, h, i, j, k], _ => exact law4 a b c d e f g h i j k) 12 xs hx
theorem top_tyres : Rows.TopTyresSaid := topTyres_over topTyres_law
end Go.Proofs.Ytgoedfonmocafaa
