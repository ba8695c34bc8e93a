/-
 The statement of TopP5 holds for every input; what it rests on stands in the parts before.
-/
import Derived.Test.YtgoedfonmocafaaZ8
import Derived.Test.YtgoedfonmocafaaRows
namespace Go.Proofs.Ytgoedfonmocafaa
open Go.Lite Go.ChangeShapes Go.WideShapes Go.ChangeAt Go.RowKit
theorem kids : Kids Try.prog (· < Try.prog.types.size) := kids_rows (by kernel_rfl) (by kernel_rfl)
theorem full : ∀ t e, t < Try.prog.types.size → Try.prog.underlying t = some (.slice e) → 0 < Try.prog.cellsOf e := slices_full_of Try.prog (by kernel_rfl)
end Go.Proofs.Ytgoedfonmocafaa
namespace Go.Proofs.Ytgoedfonmocafaa
open Go.Lite Go.ChangeShapes Go.WideShapes Go.ChangeAt Go.RowKit
def topServedLaw : Prop := ∀ xs : List AV, ArgsShape Try.prog 12 [63, 64, 3, 3, 35, 28] xs → ∃ n h', callA C n Unit none 5 xs [] () = some (.bool true, h', ())
theorem topServed_plain : ∀ t ∈ [63, 64, 3, 3, 35, 28], plainTy Try.prog 12 t = true := by
 intro t ht
 have h : [63, 64, 3, 3, 35, 28].all (plainTy Try.prog 12) = true := by kernel_rfl
 exact List.all_eq_true.1 h t ht
set_option maxRecDepth 100000 in
theorem topServed_lifted (law : topServedLaw) (os : Os) (started : os.Started) (H : Type) (enc : TypeId × Value → H) :
    ReturnsInHanded {} Try.checked os 5 .any (Rows.topServedSpec.pre6 enc Try.prog Try.f5 Rows.topServedRow.domain false) (Rows.topServedSpec.post enc Try.prog Try.f5 false true false false) := by
 refine returnsInHanded_of_change (C := Try.checked) own started (by kernel_rfl) Try.func5
  (ChangeSpec.witness6 (enc := enc) (C := Try.checked) false ⟨#[], #[.agg #[.int .i64 0, .int .i64 0, .slice none 0 0], .slice none 0 0, .int .i64 0, .int .i64 0, .slice none 0 0, .slice none 0 0], []⟩ 8 (by kernel_rfl) (by kernel_rfl) (by kernel_rfl) (by kernel_rfl)) ?_
 intro W base args ds gs before hval0 hW hcnd _
 have hval : ∀ (j : Nat) t v, Try.f5.params[j]? = some t → args[j]? = some v → Value.okWide Try.prog W .any base t v := hval0
 have hW' := hW
 obtain ⟨p, q, hA0, hV, rfl, hfz, hnd⟩ := hW
 have hA : DataW.TrodAll enc Try.prog W 0 (fun _ => true) true Try.f5.params.toList args.toList ds p := hA0
 have hAk := hA
 rw [Try.params5] at hA hval
 obtain ⟨xs, hs, hr⟩ := args_shape (J := fun _ => False) (d := 12) (fun t ht => topServed_plain t (by simpa using ht)) (fun j t v h1 h2 => hval j t v (by simpa using h1) (by simpa using h2)) hA
 obtain ⟨n, h', hc⟩ := law xs hs
 obtain ⟨v0, vs0, d0, ds0, p0, q0, hargs, rfl, rfl, h0, r0⟩ := trodAll_cons hA
 obtain ⟨v1, vs1, d1, ds1, p1, q1, rfl, rfl, rfl, h1, r1⟩ := trodAll_cons r0
 obtain ⟨v2, vs2, d2, ds2, p2, q2, rfl, rfl, rfl, h2, r2⟩ := trodAll_cons r1
 obtain ⟨v3, vs3, d3, ds3, p3, q3, rfl, rfl, rfl, h3, r3⟩ := trodAll_cons r2
 obtain ⟨v4, vs4, d4, ds4, p4, q4, rfl, rfl, rfl, h4, r4⟩ := trodAll_cons r3
 obtain ⟨v5, vs5, d5, ds5, p5, q5, rfl, rfl, rfl, h5, r5⟩ := trodAll_cons r4
 obtain ⟨rfl, rfl, rfl⟩ := trodAll_nil r5
 obtain rfl : args = #[v0, v1, v2, v3, v4, v5] := by cases args; simp_all
 obtain ⟨rfl, rfl⟩ := trodVars_none hV
 clear hA0 hval0
 simp only [List.append_nil] at hW'
 refine (law_calls (callsOk n) hc hr).mono fun e W' ⟨he, h1, h2, hk⟩ => ?_
 subst he
 have hlt : ∀ x ∈ p0 ++ p1 ++ p2 ++ p3 ++ p4 ++ p5, x.block < W.heap.size := fun x hx => hW'.lt x (by simpa [List.append_assoc] using hx)
 exact ⟨_, rfl, post_of_kept (pa := p0 ++ p1 ++ p2 ++ p3 ++ p4 ++ p5) (pv := []) hW' (fun _ _ _ => trodAll_mk1 (shut_bool Try.underlying4 _))
  (fun sp hsp => trodAll_carry (DataW.TrodAll.respare kids full (by rw [Try.params5]; decide) (by simpa [List.append_assoc, Rows.topServedSpec] using hAk) (fun x hx => hsp x (by simpa [List.append_assoc] using hx))) (fun x hx => sameAt_of (hk _ (hlt x hx))))
  (fun _ _ => rfl) (by simp [List.append_assoc]) h1 h2 hk (ok_one (by kernel_rfl) rfl (okWide_bool_mk Try.underlying4 _))⟩
theorem topServed_over (law : topServedLaw) : Rows.TopServedSaid :=
 OpenClaim.holds_of_wide 5 Try.f5 rfl rfl rfl rfl rfl rfl rfl ⟨rfl, rfl, rfl, rfl, rfl⟩ rfl rfl rfl rfl rfl (by kernel_rfl) Try.func5 (by kernel_rfl)
  (of_decide_eq_true (by kernel_rfl)) (by unfold Func.isWrapper; first | (rw [if_pos (by decide +kernel)]; kernel_rfl) | (rw [if_neg (by decide +kernel)]; exact ⟨rfl, rfl⟩))
  (fun os started H enc _ => topServed_lifted law os started H enc)
set_option maxRecDepth 100000
theorem ok28x (n : Nat) (hA : AllOK C n sp28) : FnOK C (n + 1) 28 (mkF s28 G28x) := fn_mono (ok28 n hA) fun ds r h => by
 unfold G28x at h
 split at h
 ·obtain ⟨hp, h⟩ := need_some h
  rw [yes_iff] at hp
  unfold G28
  exact go_yes (needs_jobs hp.1) (go_true (by rw [hp.1, Lite.within_iff.2 hp.2]; rfl) h)
 ·cases h
theorem ok29x (n : Nat) : FnOK C (n + 4) 29 (mkF s29 G29x) := fn_mono (ok29 n) fun ds r h => by
 unfold G29x at h
 split at h
 ·obtain ⟨hp, h⟩ := need_some h
  rw [yes_iff] at hp
  unfold G29
  exact go_yes hp.1 (go_true hp.2 h)
 ·cases h
theorem ok30x (n : Nat) (h30 : FnOK C n 30 (mkF s30 G30)) : FnOK C n 30 (mkF s30 G30x) := fn_mono h30 fun ds r h => by
 unfold G30x at h
 split at h
 ·obtain ⟨hp, h⟩ := need_some h
  rw [yes_iff] at hp
  unfold G30
  exact go_yes hp.1 (go_true hp.2 h)
 ·cases h
theorem worth_nn {l : List (List D)} {s : Nat} (hj : jobsOk l = true) : ∀ k i v t, i + k ≤ l.length → 0 ≤ t → (worthFrom l s i k v t).2.2 = true → 0 ≤ (worthFrom l s i k v t).2.1
 | 0, _, _, _, _, ht, _ => ht
 | k + 1, i, v, t, hi, ht, h => by
   have h1 := ((jobs_of hj).2 i (by omega)).1.1
   simp only [worthFrom] at h ⊢
   split
   ·rename_i c1
    rw [if_pos c1] at h
    split
    ·rename_i c2
     rw [if_pos c2] at h
     exact worth_nn hj k (i + 1) _ _ (by omega) (by omega) h
    ·exact Int.le_refl _
   ·rename_i c1
    rw [if_neg c1] at h
    split
    ·exact Int.le_refl _
    ·rename_i c2
     rw [if_neg c2] at h
     exact worth_nn hj k (i + 1) _ _ (by omega) ht h
theorem am5 {t r : Int} {l : List (List D)} (h : tankP t r r l) (hf : fuelOk t r r l = true) : (outs l r r).length = l.length ∧ ∀ k, k < l.length → 0 ≤ rgI (outs l r r) k ∧ rgI (outs l r r) k ≤ fillOf l k ∧ fillOf l k ≤ 1000000 := by
 refine ⟨by unfold outs; rw [len_tabI], fun k hk => ?_⟩
 have e : rgI (outs l r r) k = outAt l r r k := by
  unfold rgI outs
  rw [tabI_get hk]
  rfl
 simp only [fuelOk, Bool.and_eq_true] at hf
 have h1 := allFrom_iff.1 hf.1 k (Nat.zero_le _) (by omega)
 simp only [outOk, decide_eq_true_eq] at h1
 have h2 := out_nonneg h hk
 have h3 := (tank_of h).2.2.2.2 k hk
 rw [e]
 omega
theorem rd_run {G : List D → T (Ex × List D)} {μ : List D → Nat} {ds : List D} {r : Ex × List D} {X Y : Option Rd} (e : X = Y) (h : RdOK G μ ds r Y) : RdOK G μ ds r X := e ▸ h
theorem ok5_24 (hA : AllOK C 12 sp5) : LoopSim C 12 5 (loopOf C.P 5 24) (mkL l5_24 G5_24) := by
 refine loop_ofK hC (sp := sp5) (lp := lp5) (sw := sw5) hA trivial 0 [] (by kernel_rfl) rfl (fun k hk => by cases hk) (by kernel_rfl) (fun ds => (((ds.getD 2 default).L.length : Int) - (ds.getD 6 default).I).toNat) fun ds rr h => ?_
 unfold G5_24 at h
 split at h
 ·rename_i ta re legs tk n now i l
  obtain ⟨hp, h⟩ := need_some h
  rw [yes_iff] at hp
  obtain ⟨⟨⟨hT, hF⟩, hl, hn⟩, htk, i0, i1, hlev⟩ := id hp
  have hto := tank_of hT
  obtain ⟨am1, am2⟩ := am5 hT hF
  rw [← hl] at am1 am2
  refine ⟨by rw [fuelC]; show ((legs.L.length : Int) - i.I).toNat < _; omega, ?_⟩
  refine rd_run (t5_24 ta re legs tk n now i l) ?_
  obtain ⟨k, hk⟩ : ∃ k : Nat, i.I = k := ⟨i.I.toNat, by omega⟩
  rw [hk] at i0 i1 hlev h
  rw [Int.toNat_natCast] at hlev h
  have w1 : IntKind.i64.wrap ((k : Int) + 1) = ((k + 1 : Nat) : Int) := wrap_succ (by omega)
  have r0 : ∀ x : List D, (x.getD 0 default).I = ix x 0 := fun _ => rfl
  have r1 : ∀ x : List D, (x.getD 1 default).I = ix x 1 := fun _ => rfl
  simp only [hk, hn, w1, Int.toNat_natCast, r0, r1, rg_ix, Nat.reduceAdd] at h ⊢
  refine rd_if (fun hlt => ?_) fun hge => rd_out (all_end h (by omega))
  have hlt : k < legs.L.length := by omega
  obtain ⟨s1, s2⟩ := all_step h hlt
  have el : ix (legs.L.getD k []) 0 = leastOf legs.L k := rfl
  have em : ix (legs.L.getD k []) 1 = mostOf legs.L k := rfl
  have er : rgI legs.L k = leastOf legs.L k := rfl
  refine rd_neg (by omega) (rd_dec (by omega) (rd_dec (by omega) (rd_if (fun c1 => ?_) fun c1 => ?_)))
  ·refine rd_pos (by omega) (rd_out (s1 ?_))
   unfold takeB
   rw [decide_eq_false (by omega), Bool.false_and]
  ·refine rd_dec (by omega) (rd_dec (by omega) (rd_if (fun c2 => ?_) fun c2 => ?_))
   ·refine rd_pos (by omega) (rd_out (s1 ?_))
    unfold takeB
    rw [decide_eq_false (p := rgI tk.L k ≤ mostOf legs.L k) (by omega), Bool.and_false]
   ·have hb : takeB legs.L tk.L k = true := by
     unfold takeB
     rw [decide_eq_true (show leastOf legs.L k ≤ rgI tk.L k by omega), decide_eq_true (show rgI tk.L k ≤ mostOf legs.L k by omega)]
     rfl
    obtain ⟨x0, x1, ⟨hx0, hx1⟩, ⟨hb0, hb1⟩, hsafe⟩ := hlev
    rw [show legs.L.length - k = (legs.L.length - (k + 1)) + 1 by omega] at hsafe
    simp only [safeFrom] at hsafe
    rw [rg_ix, el, em] at hsafe
    obtain ⟨a0, a1, a2⟩ := am2 k hlt
    have hm := hto.2.2.2.2 k hlt
    by_cases n1 : x1 + rgI l.L k > ta.I
    ·rw [if_pos n1] at hsafe
     cases hsafe
    rw [if_neg n1] at hsafe
    by_cases n2 : x0 + rgI l.L k - mostOf legs.L k < re.I
    ·rw [if_pos n2] at hsafe
     cases hsafe
    rw [if_neg n2] at hsafe
    have w2 : IntKind.i64.wrap (now.I + rgI l.L k) = now.I + rgI l.L k := wrap_id (by omega) (by omega)
    have w3 : IntKind.i64.wrap (now.I + rgI l.L k - rgI tk.L k) = now.I + rgI l.L k - rgI tk.L k := wrap_id (by omega) (by omega)
    rw [w2, w3]
    refine rd_dec (by omega) (rd_dec (by omega) (rd_neg (by omega) (rd_dec (by omega) (rd_neg (by omega) (rd_again ((need_yes ⟨⟨⟨hT, hF⟩, hl, rfl⟩, htk, by simp only [I_i]; omega, by simp only [I_i, L_l]; omega, ?_⟩).trans ?_) (by
     show ((legs.L.length : Int) - ((k + 1 : Nat) : Int)).toNat < ((legs.L.length : Int) - i.I).toNat
     omega))))))
    ·simp only [I_i, L_l, Int.toNat_natCast]
     exact s2 hb
    ·simp only [I_i, L_l, Int.toNat_natCast]
     exact ⟨_, _, ⟨by omega, by omega⟩, ⟨by omega, by omega⟩, hsafe⟩
 ·cases h
set_option maxHeartbeats 2000000 in
theorem ok5_6 (hA : AllOK C 12 sp5) : LoopSim C 12 5 (loopOf C.P 5 6) (mkL l5_6 G5_6) := by
 refine loop_ofK hC (sp := sp5) (lp := lp5) (sw := sw5) hA trivial 0 [] (by kernel_rfl) rfl (fun k hk => by cases hk) (by kernel_rfl) (fun ds => (((ds.getD 8 default).L.length : Int) - (ds.getD 5 default).I).toNat) fun ds rr h => ?_
 unfold G5_6 at h
 split at h
 ·rename_i jobs ta re legs tk j c f w lo n n1 n2 n3 du cl op ch
  obtain ⟨hp, h⟩ := need_some h
  rw [yes_iff] at hp
  obtain ⟨hf, hjw, j0, j1⟩ := id hp
  obtain ⟨hpl, hc, hd, -, -, -, hlo, hn, hn1, hn2, hn3⟩ := id hf
  obtain ⟨l1, l2, l3, l4, hdr, l5, -, -, gd, -⟩ := fnd_of hf
  have hbig := big_eq
  obtain ⟨⟨p0, p0'⟩, ⟨p1, p1'⟩, -⟩ := plan_of hpl
  refine ⟨by rw [fuelC]; show ((w.L.length : Int) - j.I).toNat < _; omega, ?_⟩
  refine rd_run (t5_6 jobs ta re legs tk j c f w lo n n1 n2 n3 du cl op ch) ?_
  obtain ⟨q, hq⟩ : ∃ q : Nat, j.I = (q : Int) + 1 := ⟨(j.I - 1).toNat, by omega⟩
  have z1 : Int.toNat 1 = 1 := rfl
  have z2 : ((w.L.length : Int) + 1).toNat = w.L.length + 1 := by omega
  have z3 : ((q : Int) + 1).toNat = q + 1 := by omega
  have tkd : (dueL c.I f.I w.L ch.L).take (w.L.length + 1) = dueL c.I f.I w.L ch.L := List.take_of_length_le (by omega)
  have w1 : IntKind.i64.wrap ((q : Int) + 1 + 1) = ((q + 2 : Nat) : Int) := (wrap_id (by omega) (by omega)).trans (by omega)
  have w2 : IntKind.i64.wrap ((q : Int) + 1 - 1) = (q : Int) := (wrap_id (by omega) (by omega)).trans (by omega)
  have w3 : IntKind.i64.wrap (c.I - 1) = c.I - 1 := wrap_id (by omega) (by omega)
  have eB : ((w.L.getD (q + 1) []).getD 4 default).B = bx (w.L.getD (q + 1) []) 4 := rfl
  have eW : ((w.L.getD (q + 1) []).getD 5 default).I = ix (w.L.getD (q + 1) []) 5 := rfl
  have fin : j.I < w.L.length → RdOK G5_6 (fun ds => (((ds.getD 8 default).L.length : Int) - (ds.getD 5 default).I).toNat) [jobs, ta, re, legs, tk, j, c, f, w, lo, n, n1, n2, n3, du, cl, op, ch] rr
      (T.leaf (Rd.again [D.l jobs.L, D.i ta.I, D.i re.I, D.l legs.L, D.l tk.L, D.i ((q + 2 : Nat) : Int), D.i c.I, D.i f.I, D.l w.L, D.i ((1 : Nat) : Int), D.i ((w.L.length + 1 : Nat) : Int), D.i (w.L.length : Int), D.i (w.L.length : Int), D.i (w.L.length : Int), D.l du.L, D.l cl.L, D.l op.L, D.l ch.L])).run := fun hlt =>
   rd_again ((need_yes ⟨⟨hpl, hc, hd, hf.2.2.2.1, hf.2.2.2.2.1, hf.2.2.2.2.2.1, rfl, by simp only [I_i, L_l]; omega, rfl, rfl, rfl⟩, hjw, by simp only [I_i]; omega, by simp only [I_i, L_l]; omega⟩).trans h) (by
    show ((w.L.length : Int) - ((q + 2 : Nat) : Int)).toNat < ((w.L.length : Int) - j.I).toNat
    omega)
  simp only [hq, hlo, hn, hn1, hn2, hn3, z1, z2, z3, w1, w2, w3, hdr, tkd, Int.toNat_natCast, Nat.reduceAdd, eB, eW] at fin ⊢
  refine rd_if (fun hlt => ?_) fun hge => rd_out h
  have fin := fin hlt
  have hql : q + 1 < w.L.length := by omega
  refine rd_dec (by omega) (rd_not (fun c1 => fin) fun c1 => rd_yes hjw (rd_not (fun c2 => fin) fun c2 => ?_))
  rw [Bool.and_eq_true, Lite.within_iff] at c2
  obtain ⟨c2, c3⟩ := c2
  refine rd_yes ⟨c2, c3.1, c3.2⟩ (rd_ite (fun c4 => ?_) fun c4 => fin)
  obtain ⟨r, hr⟩ := Option.isSome_iff_exists.1 c4
  obtain ⟨x, hx, hw, hxr⟩ := best_all hr
  obtain ⟨hj20, -⟩ := jobs_of c2
  have hs : (ix ((bestAll jobs.L (ix (w.L.getD (q + 1) []) 5)).getD []) 0).toNat = x := by rw [hr]; show (ix r 0).toNat = x; rw [hxr]; rfl
  rw [hs, setTo_bits hx hj20]
  have hww := hw
  unfold worthOk at hww
  rw [Bool.and_eq_true, decide_eq_true_eq] at hww
  have hnn := worth_nn c2 jobs.L.length 0 0 0 (by omega) (Int.le_refl _) hww.1
  have hnn' : 0 ≤ (worthOf jobs.L x).2.1 := hnn
  have s1 := span_of hpl (show q < w.L.length by omega)
  have cw := wayC_of (way_of hpl (k := q) (by omega)).1
  unfold spanF at s1
  have dw := due_wait hf hql c1
  have g1 := gd q
  have g2 := gd (q + 1)
  have d1 : dueF w.L (dueL c.I f.I w.L ch.L) (c.I - 1) q = rg (dueL c.I f.I w.L ch.L) q + (c.I - 1) * ix (w.L.getD q []) 3 := rfl
  have w4 : IntKind.i64.wrap (dueF w.L (dueL c.I f.I w.L ch.L) (c.I - 1) q + ix (w.L.getD q []) 0 + (worthOf jobs.L x).2.1) = dueF w.L (dueL c.I f.I w.L ch.L) (c.I - 1) q + ix (w.L.getD q []) 0 + (worthOf jobs.L x).2.1 := wrap_id (by omega) (by omega)
  rw [w4]
  have b1 := due_ok hf (k := c.I - 1) (q := q) (by omega) (by omega) (by omega)
  have b2 := due_ok hf (k := 0) (q := q + 1) (by omega) (by omega) hql
  have b2' : dueB c.I f.I w.L (dueL c.I f.I w.L ch.L) 0 ((q : Int) + 1) = true := b2
  refine rd_yes ⟨⟨⟨c2, c3⟩, by rw [len_mkI]; exact len_bits x, cho_bits hx hj20⟩, hw⟩ (rd_dec (by omega) (rd_dec (by omega) (rd_dec (by omega) (rd_dec (by omega) (rd_yes ⟨by omega, b1⟩ (rd_dec (by omega) (rd_dec (by omega) (rd_dec (by omega) (rd_dec (by omega) (rd_yes ⟨by omega, b2'⟩ (rd_neg (by omega) fin)))))))))))
 ·cases h
set_option maxHeartbeats 2000000 in
theorem law5 (a b c d e f g h : D) (hwf : needsW d.L ∨ ¬ (d.L.length : Int) ≤ 12) : (fnT C tab5 5 s5 [a, b, c, d, e, f, g, h]).run = some [D.b true] := by
 refine (t5 a b c d e f g h).trans ?_
 have hbig := big_eq
 refine go_not (fun _ => rfl) fun h1 => go_if (fun _ => rfl) fun h2 => go_if (fun _ => rfl) fun h3 => go_if (fun _ => rfl) fun h4 => go_if (fun _ => rfl) fun h5 => ?_
 obtain ⟨hpl, hfe, h6⟩ := few_plan h1
 have hnw : needsW d.L := hwf.resolve_right (by omega)
 have hpo := plan_of hpl
 have tail : ∀ {t : T (List D)}, (tankP e.I f.I f.I g.L → fuelOk e.I f.I f.I g.L = true → t.run = some [D.b true]) → (T.ite (!tankOk e.I f.I f.I g.L) (T.leaf [D.b true]) (T.need (yes (tankP e.I f.I f.I g.L)) (T.ite (fuelOk e.I f.I f.I g.L) t (T.leaf [D.b true])))).run = some [D.b true] := fun hh =>
  go_not (fun _ => rfl) fun c5 => go_yes c5 (go_ite (fun c6 => hh c5 c6) fun _ => rfl)
 refine go_yes ⟨hpl, hfe⟩ (go_if (fun h0 => go_yes ⟨?_, hnw, by omega, by omega⟩ (tail ?_)) fun _ => go_if (fun _ => tail ?_) fun _ => tail ?_)
 ·obtain ⟨hc, hd⟩ := found_ok h0
  exact found_fnd hpl hc hd
 all_goals
  intro c5 c6
  have hto := tank_of c5
  obtain ⟨am1, am2⟩ := am5 c5 c6
  have hf := c6
  simp only [fuelOk, Bool.and_eq_true] at hf
  refine go_yes ⟨⟨⟨c5, c6⟩, rfl, by omega⟩, by omega, by omega, by omega, ?_⟩ (go_ite (fun c7 => ?_) fun _ => rfl)
  ·exact ⟨_, _, ⟨Int.le_refl _, Int.le_refl _⟩, by omega, hf.2⟩
  ·have e3 := List.take_of_length_le (Nat.le_of_eq am1)
   simp only [Int.toNat_natCast, e3]
   refine go_dec (by omega) (go_yes ⟨by omega, by omega⟩ (go_true ?_ rfl))
   rw [Bool.and_eq_true, Bool.and_eq_true, Bool.and_eq_true, decide_eq_true_eq]
   refine ⟨⟨⟨c5, am1⟩, ?_⟩, hf.2⟩
   rw [allFrom_iff]
   intro k _ hk
   have := am2 k (by omega)
   exact Lite.within_iff.2 ⟨this.1, this.2.1⟩
theorem all28 (n : Nat) : AllOK C (n + 7) sp28 := ⟨ok73 (n + 5), ok64 (n + 6), ok77 (n + 6), ok78 (n + 2), ok76 (n + 6), trivial⟩
theorem a5_24 : FnOK C 12 24 (mkF s24 G24) := ok24 11 (ok66 9)
theorem a5_25 : FnOK C 12 25 (mkF s25 G25) := ok25 5
theorem a5_26 : FnOK C 12 26 (mkF s26 G2026) := ok2026 5
theorem a5_27 : FnOK C 12 27 (mkF s27 G27) := ok27 10
theorem a5_28 : FnOK C 12 28 (mkF s28 G28x) := ok28x 11 (all28 4)
theorem a5_29 : FnOK C 12 29 (mkF s29 G29x) := ok29x 8
theorem a5_30 : FnOK C 12 30 (mkF s30 G30x) := ok30x 12 (ok30 4)
theorem a5_13 : FnOK C 12 13 (mkF s13 G13) := ok13 10
theorem a5_14 : FnOK C 12 14 (mkF s14 G14w) := ok14w 6
theorem a5_31 : FnOK C 12 31 (mkF s31 G31) := ok31 6
theorem all5 : AllOK C 12 sp5 := ⟨a5_24, a5_25, a5_26, a5_27, a5_28, a5_29, a5_30, a5_13, a5_14, a5_31, trivial⟩
theorem kinds5 : [63, 64, 3, 3, 35, 28].flatMap (kindsL C.P) = [.int .i64, .int .i64, .ro [.int .i64, .int .i64, .int .i64, .int .i64, .bool, .int .i64, .int .i64, .ro [.int .i64, .int .i64, .int .i64]], .ro [.int .i64, .int .i64, .bool, .ro [.int .i64]], .int .i64, .int .i64, .ro [.int .i64, .int .i64, .int .i64], .ro [.int .i64]] := by kernel_rfl
theorem topServed_law : topServedLaw := fun xs hx =>
 law_true_wfW hC (sp := sp5) (lp := lp5) (sw := sw5) (n := 12) all5 trivial (by kernel_rfl) [6, 24] (by kernel_rfl) (by kernel_rfl) (fun k hk L hL => by
  simp at hk
  rcases hk with rfl | rfl <;> cases hL
  ·exact ok5_6 all5
  ·exact ok5_24 all5)
  (ts := [63, 64, 3, 3, 35, 28]) (ks := s5.args) (by kernel_rfl) (of_decide_eq_true (by kernel_rfl)) (m := 8) (by kernel_rfl) (fun ds hl hw => by
   match ds, hl, hw with
   | [a, b, c, d, e, f, g, h], _, hw =>
     rw [kinds5] at hw
     simp only [WfC, WfK] at hw
     refine law5 a b c d e f g h ?_
     by_cases h12 : (d.L.length : Int) ≤ 12
     ·refine Or.inl ⟨by omega, fun j => ?_⟩
      by_cases hj : j < d.L.length
      ·have h1 := hw.2.2.2.1.2 _ (List.getElem_mem hj)
       have h2 := h1.2.2.2.1.1
       have e : d.L.getD j [] = d.L[j] := by rw [List.getD_eq_getElem?_getD, List.getElem?_eq_getElem hj, Option.getD_some]
       show ((d.L.getD j []).getD 3 default).L.length < 9223372036854775808
       rw [e]
       exact Nat.lt_of_le_of_lt h2 (by decide)
      ·rw [show d.L.getD j [] = [] from by rw [List.getD_eq_getElem?_getD, List.getElem?_eq_none (by omega)]; rfl]
       decide
     ·exact Or.inr h12) 12 xs hx
theorem top_served : Rows.TopServedSaid := topServed_over topServed_law
end Go.Proofs.Ytgoedfonmocafaa
