/-
 The statement of TopP6 holds for every input; what it rests on stands in the parts before.
-/
import Derived.Test.YtgoedfonmocafaaW8
import Derived.Test.YtgoedfonmocafaaRows
namespace Go.Proofs.Ytgoedfonmocafaa
open Go.Lite Go.ChangeShapes Go.WideShapes Go.ChangeAt Go.RowKit
theorem kids : Kids Try.prog (· < Try.prog.types.size) := kids_rows (by kernel_rfl) (by kernel_rfl)
theorem full : ∀ t e, t < Try.prog.types.size → Try.prog.underlying t = some (.slice e) → 0 < Try.prog.cellsOf e := slices_full_of Try.prog (by kernel_rfl)
end Go.Proofs.Ytgoedfonmocafaa
namespace Go.Proofs.Ytgoedfonmocafaa
open Go.Lite Go.ChangeShapes Go.WideShapes Go.ChangeAt Go.RowKit
def topReachedLaw : Prop := ∀ xs : List AV, ArgsShape Try.prog 12 [26, 30, 3] xs → ∃ n h', callA C n Unit none 6 xs [] () = some (.bool true, h', ())
theorem topReached_plain : ∀ t ∈ [26, 30, 3], plainTy Try.prog 12 t = true := by
 intro t ht
 have h : [26, 30, 3].all (plainTy Try.prog 12) = true := by kernel_rfl
 exact List.all_eq_true.1 h t ht
set_option maxRecDepth 100000 in
theorem topReached_lifted (law : topReachedLaw) (os : Os) (started : os.Started) (H : Type) (enc : TypeId × Value → H) :
    ReturnsInHanded {} Try.checked os 6 .any (Rows.topReachedSpec.pre6 enc Try.prog Try.f6 Rows.topReachedRow.domain false) (Rows.topReachedSpec.post enc Try.prog Try.f6 false true false false) := by
 refine returnsInHanded_of_change (C := Try.checked) own started (by kernel_rfl) Try.func6
  (ChangeSpec.witness6 (enc := enc) (C := Try.checked) false ⟨#[], #[.agg #[.slice none 0 0, .slice none 0 0, .slice none 0 0], .agg #[.int .i64 0, .int .i64 0, .slice none 0 0, .slice none 0 0], .int .i64 0], []⟩ 8 (by kernel_rfl) (by kernel_rfl) (by kernel_rfl) (by kernel_rfl)) ?_
 intro W base args ds gs before hval0 hW hcnd _
 have hval : ∀ (j : Nat) t v, Try.f6.params[j]? = some t → args[j]? = some v → Value.okWide Try.prog W .any base t v := hval0
 have hW' := hW
 obtain ⟨p, q, hA0, hV, rfl, hfz, hnd⟩ := hW
 have hA : DataW.TrodAll enc Try.prog W 0 (fun _ => true) true Try.f6.params.toList args.toList ds p := hA0
 have hAk := hA
 rw [Try.params6] at hA hval
 obtain ⟨xs, hs, hr⟩ := args_shape (J := fun _ => False) (d := 12) (fun t ht => topReached_plain t (by simpa using ht)) (fun j t v h1 h2 => hval j t v (by simpa using h1) (by simpa using h2)) hA
 obtain ⟨n, h', hc⟩ := law xs hs
 obtain ⟨v0, vs0, d0, ds0, p0, q0, hargs, rfl, rfl, h0, r0⟩ := trodAll_cons hA
 obtain ⟨v1, vs1, d1, ds1, p1, q1, rfl, rfl, rfl, h1, r1⟩ := trodAll_cons r0
 obtain ⟨v2, vs2, d2, ds2, p2, q2, rfl, rfl, rfl, h2, r2⟩ := trodAll_cons r1
 obtain ⟨rfl, rfl, rfl⟩ := trodAll_nil r2
 obtain rfl : args = #[v0, v1, v2] := by cases args; simp_all
 obtain ⟨rfl, rfl⟩ := trodVars_none hV
 clear hA0 hval0
 simp only [List.append_nil] at hW'
 refine (law_calls (callsOk n) hc hr).mono fun e W' ⟨he, h1, h2, hk⟩ => ?_
 subst he
 have hlt : ∀ x ∈ p0 ++ p1 ++ p2, x.block < W.heap.size := fun x hx => hW'.lt x (by simpa [List.append_assoc] using hx)
 exact ⟨_, rfl, post_of_kept (pa := p0 ++ p1 ++ p2) (pv := []) hW' (fun _ _ _ => trodAll_mk1 (shut_bool Try.underlying4 _))
  (fun sp hsp => trodAll_carry (DataW.TrodAll.respare kids full (by rw [Try.params6]; decide) (by simpa [List.append_assoc, Rows.topReachedSpec] using hAk) (fun x hx => hsp x (by simpa [List.append_assoc] using hx))) (fun x hx => sameAt_of (hk _ (hlt x hx))))
  (fun _ _ => rfl) (by simp [List.append_assoc]) h1 h2 hk (ok_one (by kernel_rfl) rfl (okWide_bool_mk Try.underlying4 _))⟩
theorem topReached_over (law : topReachedLaw) : Rows.TopReachedSaid :=
 OpenClaim.holds_of_wide 6 Try.f6 rfl rfl rfl rfl rfl rfl rfl ⟨rfl, rfl, rfl, rfl, rfl⟩ rfl rfl rfl rfl rfl (by kernel_rfl) Try.func6 (by kernel_rfl)
  (of_decide_eq_true (by kernel_rfl)) (by unfold Func.isWrapper; first | (rw [if_pos (by decide +kernel)]; kernel_rfl) | (rw [if_neg (by decide +kernel)]; exact ⟨rfl, rfl⟩))
  (fun os started H enc _ => topReached_lifted law os started H enc)
set_option maxRecDepth 100000
theorem rd_runR {G : List D → T (Ex × List D)} {μ : List D → Nat} {ds : List D} {r : Ex × List D} {X Y : Option Rd} (e : X = Y) (h : RdOK G μ ds r Y) : RdOK G μ ds r X := e ▸ h
theorem ok32 (n : Nat) (h : FnOK C n 32 (mkF Rs.s32 Rs.G32)) : FnOK C n 32 (mkF s32 G32) := h
theorem ok33 (n : Nat) : FnOK C (n + 7) 33 (mkF s33 G33) := fn_weak (s := Rs.s33) (Rs.ok33 n) fun ds r h => by
 unfold G33 at h
 split at h
 ·obtain ⟨hp, h⟩ := need_some h
  rw [yes_iff] at hp
  unfold Rs.G33
  exact go_true (by rw [hp.1, hp.2]; rfl) h
 ·cases h
theorem bytes84 : Try.prog.types[84].bytes = 48 := by kernel_rfl
def μ610 (ds : List D) : Nat := match ds with
 | [_, _, _, _, _, p, _, _, _, _, _, _, _, _, _, _] => p.L.length + 1
 | _ :: _ :: _ :: _ :: [i, p, _, _, _, _, _, _, _, _, _, _, _, _] => ((p.L.length : Int) - i.I).toNat
 | _ => 0
set_option maxHeartbeats 1000000 in
theorem ok6_10 (hA : AllOK C 12 sp6) : LoopSim C 12 6 (loopOf C.P 6 10) (mkL l6_10 G6_10) := by
 refine loop_ofK hC (sp := sp6) (lp := lp6) (sw := sw6) hA trivial 0 [] (by kernel_rfl) rfl (fun k hk => by cases hk) (by kernel_rfl) μ610 fun ds rr h => ?_
 unfold G6_10 at h
 split at h
 ·rename_i z st n pos i p c j lo hi r u p' c' j' m
  obtain ⟨hp, h⟩ := need_some h
  rw [yes_iff] at hp
  obtain ⟨hz, hr, hi0, hpos⟩ := hp
  obtain ⟨hpc, hl, hn, hb, hs0, hs1⟩ := id hr
  obtain ⟨hm, -, -, -, hne⟩ := road_of hpc.1.1
  have hp1 : 1 ≤ p.L.length := by cases hq : p.L <;> simp_all
  refine ⟨by rw [fuelC]; show p.L.length + 1 < _; omega, ?_⟩
  rw [roundTK_head (j := z) (n := 0) hz (by decide)]
  refine rd_runR (t6_10_0 st n pos i p c j lo hi r u p' c' j' m) ?_
  have w1 : IntKind.i64.wrap ((0 : Int) + 1) = 1 := by decide
  obtain ⟨s1, s2, s3, s4, s5, s6⟩ := sec_rng hpc (i := 0) (by omega)
  have e0 : posP p.L 0 = 0 := rfl
  have e1 : posP p.L 1 = 0 + ix (p.L.getD 0 []) 0 := by rw [pos_succ, e0]
  have r1 := pos_rng hm (i := 1) (by omega)
  have hl1 := hpc.2
  have w2 : IntKind.i64.wrap (0 + ix (p.L.getD 0 []) 0) = posP p.L 1 := by rw [← e1]; exact wrap_id (by omega) (by omega)
  have w3 : IntKind.i64.wrap (betwV 1 lo.I hi.I r.L u.L p.L 0 (posP p.L 1) + 999999) = betwV 1 lo.I hi.I r.L u.L p.L 0 (posP p.L 1) + 999999 := wrap_id (by have s5' : 0 ≤ betwV 1 lo.I hi.I r.L u.L p.L 0 (posP p.L 1) := s5; omega) (by have s6' : betwV 1 lo.I hi.I r.L u.L p.L 0 (posP p.L 1) ≤ 2400000000 := s6; omega)
  have hsec : (betwV 1 lo.I hi.I r.L u.L p.L 0 (posP p.L 1) + 999999).tdiv 1000000 = secT lo.I hi.I r.L u.L p.L 0 := rfl
  have w4 : IntKind.i64.wrap (secT lo.I hi.I r.L u.L p.L 0) = secT lo.I hi.I r.L u.L p.L 0 := wrap_id (by omega) (by omega)
  rw [e0] at s4
  simp only [hi0, hn, hpos, w1, Int.toNat_zero, ix_def, w2, w3, hsec, w4] at h ⊢
  refine rd_pos (by omega) (rd_dec (by omega) (rd_yes s4 ?_))
  have fin : (G6_10 [.i 1, .i st.I, .i (p.L.length : Int), .i (posP p.L 1), .i 1, .l p.L, .l c.L, .l j.L, .i lo.I, .i hi.I, .l r.L, .l u.L, .l p'.L, .l c'.L, .l j'.L, .i m.I, .i 2, .l (netR lo.I hi.I r.L u.L p.L 1)]).run = some rr :=
   (need_yes ⟨rfl, ⟨hpc, hl, rfl, hb, hs0, hs1⟩, by simp only [I_i]; omega, by simp only [I_i, L_l]; omega, rfl, rfl, rfl⟩).trans h
  refine rd_dec (by omega) (rd_again fin ?_)
  show ((p.L.length : Int) - 1).toNat < p.L.length + 1
  omega
 ·rename_i z st n pos i p c j lo hi r u p' c' j' m s o
  obtain ⟨hp, h⟩ := need_some h
  rw [yes_iff] at hp
  obtain ⟨hz, hr, i0, i1, hpos, hs, ho⟩ := hp
  obtain ⟨hpc, hl, hn, hb, hs0, hs1⟩ := id hr
  obtain ⟨hm, -, -, -, hne⟩ := road_of hpc.1.1
  refine ⟨by rw [fuelC]; show ((p.L.length : Int) - i.I).toNat < _; omega, ?_⟩
  rw [roundTK_head (j := z) (n := 1) hz (by decide)]
  refine rd_runR (t6_10_1 st n pos i p c j lo hi r u p' c' j' m s o) ?_
  obtain ⟨k, hk⟩ : ∃ k : Nat, i.I = k := ⟨i.I.toNat, by omega⟩
  rw [hk] at i0 i1 hs ho hpos
  rw [Int.toNat_natCast] at ho hpos
  have hol : o.L.length = 2 * k := by rw [ho, netR_len]
  have hsn : s.I.toNat = 2 * k := by omega
  have htk : o.L.take (2 * k) = o.L := List.take_of_length_le (by omega)
  have w1 : IntKind.i64.wrap ((k : Int) + 1) = ((k + 1 : Nat) : Int) := wrap_succ (by omega)
  simp only [hk, hn, hsn, htk, hpos, w1, Int.toNat_natCast, ix_def, bytes84] at h ⊢
  refine rd_if (fun hlt => ?_) fun hge => ?_
  ·have hlt : k < p.L.length := by omega
   obtain ⟨s1, s2, s3, s4, s5, s6⟩ := sec_rng hpc (i := k) hlt
   have r1 := pos_rng hm (i := k + 1) (by omega)
   have hl1 := hpc.2
   have w2 : IntKind.i64.wrap (posP p.L k + ix (p.L.getD k []) 0) = posP p.L (k + 1) := by rw [← pos_succ]; exact wrap_id (by omega) (by omega)
   have w3 : IntKind.i64.wrap (betwV 1 lo.I hi.I r.L u.L p.L (posP p.L k) (posP p.L (k + 1)) + 999999) = betwV 1 lo.I hi.I r.L u.L p.L (posP p.L k) (posP p.L (k + 1)) + 999999 := wrap_id (by omega) (by omega)
   have hsec : (betwV 1 lo.I hi.I r.L u.L p.L (posP p.L k) (posP p.L (k + 1)) + 999999).tdiv 1000000 = secT lo.I hi.I r.L u.L p.L k := rfl
   have w4 : IntKind.i64.wrap (secT lo.I hi.I r.L u.L p.L k) = secT lo.I hi.I r.L u.L p.L k := wrap_id (by omega) (by omega)
   simp only [w2, w3, hsec, w4]
   refine rd_dec (by omega) (rd_yes s4 ?_)
   have fin : (G6_10 [.i 1, .i st.I, .i (p.L.length : Int), .i (posP p.L (k + 1)), .i ((k + 1 : Nat) : Int), .l p.L, .l c.L, .l j.L, .i lo.I, .i hi.I, .l r.L, .l u.L, .l p'.L, .l c'.L, .l j'.L, .i m.I, .i ((2 * k + 2 : Nat) : Int), .l (netR lo.I hi.I r.L u.L p.L (k + 1))]).run = some rr :=
    (need_yes ⟨rfl, ⟨hpc, hl, rfl, hb, hs0, hs1⟩, by simp only [I_i]; omega, by simp only [I_i, L_l]; omega, by simp only [I_i, Int.toNat_natCast, L_l], by simp only [I_i]; omega, by simp only [I_i, Int.toNat_natCast, L_l]⟩).trans h
   have e1 : o.L ++ List.take (List.length [[D.i (k : Int), D.i ((k + 1 : Nat) : Int), D.i (secT lo.I hi.I r.L u.L p.L k), D.l []], [D.i ((k + 1 : Nat) : Int), D.i (k : Int), D.i (secT lo.I hi.I r.L u.L p.L k), D.l []]]) [[D.i (k : Int), D.i ((k + 1 : Nat) : Int), D.i (secT lo.I hi.I r.L u.L p.L k), D.l []], [D.i ((k + 1 : Nat) : Int), D.i (k : Int), D.i (secT lo.I hi.I r.L u.L p.L k), D.l []]] = netR lo.I hi.I r.L u.L p.L (k + 1) := by
    rw [ho]
    rfl
   rw [e1]
   refine rd_dec (by omega) (rd_dec (by omega) (rd_again fin ?_))
   show ((p.L.length : Int) - ((k + 1 : Nat) : Int)).toNat < ((p.L.length : Int) - i.I).toNat
   omega
  ·have hkl : k = p.L.length := by omega
   rw [ho, hkl]
   exact rd_out h
 ·cases h
set_option maxHeartbeats 1000000 in
theorem ok6_26 (hA : AllOK C 12 sp6) : LoopSim C 12 6 (loopOf C.P 6 26) (mkL l6_26 G6_26) := by
 refine loop_ofK hC (sp := sp6) (lp := lp6) (sw := sw6) hA trivial 0 [] (by kernel_rfl) rfl (fun k hk => by cases hk) (by kernel_rfl) (fun ds => (((ds.getD 6 default).L.length : Int) + 1 - (ds.getD 5 default).I).toNat) fun ds rr h => ?_
 unfold G6_26 at h
 split at h
 ·rename_i st n pos a d i p c j lo hi r u p' c' j'
  obtain ⟨hp, h⟩ := need_some h
  rw [yes_iff] at hp
  obtain ⟨hr, i0, i1, hpos, ha⟩ := id hp
  obtain ⟨hpc, hl, hn, ⟨hb1, hb2, hb3⟩, hs0, hs1⟩ := id hr
  obtain ⟨hal, hdl, hsb, had⟩ := ha
  obtain ⟨hm, -, -, -, hne⟩ := road_of hpc.1.1
  have hp1 : 1 ≤ p.L.length := by cases hq : p.L <;> simp_all
  refine ⟨by rw [fuelC]; show ((p.L.length : Int) + 1 - i.I).toNat < _; omega, ?_⟩
  refine rd_runR (t6_26 st n pos a d i p c j lo hi r u p' c' j') ?_
  obtain ⟨k, hk⟩ : ∃ k : Nat, i.I = k := ⟨i.I.toNat, by omega⟩
  rw [hk] at i0 i1 hpos
  rw [Int.toNat_natCast] at hpos
  refine rd_if (fun hlt => ?_) fun hge => ?_
  ·have hkn : k ≤ p.L.length := by omega
   rw [Nat.min_eq_left hkn] at hpos
   obtain ⟨a1, a2⟩ := had k hkn
   have r1 := pos_rng hm hkn
   have hl1 := hpc.2
   have e0 : posP p.L 0 = 0 := rfl
   have hsl := sec_le (lo := lo.I) (hi := hi.I) (r := r.L) (u := u.L) (p := p.L) (b := 10000) fun k hk => (hsb k hk).2
   have b1 := sec_sum hpc (i := 0) k (by omega)
   have b2 := sec_sum hpc (i := k) (p.L.length - k) (by omega)
   rw [Nat.zero_add, e0] at b1
   rw [show k + (p.L.length - k) = p.L.length by omega] at b2
   have z0 : secP lo.I hi.I r.L u.L p.L 0 = 0 := rfl
   have n1 := sec_nn hpc k hkn
   have n2 := hsl p.L.length (by omega)
   have n3 := hsl k hkn
   obtain ⟨t1, t2, t3, t4⟩ := betw_rng hpc (a := 0) (b := posP p.L k) (Int.le_refl _) r1.1 r1.2
   have hpb := back_pace hpc
   have hlt' := len_turn hp1
   obtain ⟨t5, t6, t7, t8⟩ := betw_rng hpb (a := 0) (b := lenR p.L - posP p.L k) (Int.le_refl _) (by omega) (by omega)
   have hbk := back_betw hpc hkn
   rw [← hb1, ← hb2, ← hb3] at t5
   rw [← hb1] at t6 t7 t8 hbk
   have w1 : IntKind.i64.wrap (lenR p.L - posP p.L k) = lenR p.L - posP p.L k := wrap_id (by omega) (by omega)
   have hnn : 0 ≤ secP lo.I hi.I r.L u.L p.L p.L.length - secP lo.I hi.I r.L u.L p.L k := by omega
   have w2 : IntKind.i64.wrap (rgI a.L k - st.I) = secP lo.I hi.I r.L u.L p.L k := by rw [a1]; exact (wrap_id (by omega) (by omega)).trans (by omega)
   have w3 : IntKind.i64.wrap (rgI d.L k - st.I) = secP lo.I hi.I r.L u.L p.L p.L.length - secP lo.I hi.I r.L u.L p.L k := by rw [a2]; exact (wrap_id (by omega) (by omega)).trans (by omega)
   have w4 : IntKind.i64.wrap (1000000 * secP lo.I hi.I r.L u.L p.L k) = 1000000 * secP lo.I hi.I r.L u.L p.L k := wrap_id (by omega) (by omega)
   have w5 : IntKind.i64.wrap (1000000 * (secP lo.I hi.I r.L u.L p.L p.L.length - secP lo.I hi.I r.L u.L p.L k)) = 1000000 * (secP lo.I hi.I r.L u.L p.L p.L.length - secP lo.I hi.I r.L u.L p.L k) := wrap_id (by omega) (by omega)
   have w6 : IntKind.i64.wrap (1000000 * (k : Int)) = 1000000 * (k : Int) := wrap_id (by omega) (by omega)
   have w7 : IntKind.i64.wrap ((p.L.length : Int) - k) = (p.L.length : Int) - k := wrap_id (by omega) (by omega)
   have w8 : IntKind.i64.wrap (1000000 * ((p.L.length : Int) - k)) = 1000000 * ((p.L.length : Int) - k) := wrap_id (by omega) (by omega)
   have w9 : IntKind.i64.wrap ((k : Int) + 1) = ((k + 1 : Nat) : Int) := wrap_succ (by omega)
   have w10 : IntKind.i64.wrap (betwV 1 lo.I hi.I r.L u.L p.L 0 (posP p.L k) + 1000000 * (k : Int)) = betwV 1 lo.I hi.I r.L u.L p.L 0 (posP p.L k) + 1000000 * (k : Int) := wrap_id (by omega) (by omega)
   have w11 : IntKind.i64.wrap (betwV 1 lo.I hi.I r.L u.L p'.L 0 (lenR p.L - posP p.L k) + 1000000 * ((p.L.length : Int) - k)) = betwV 1 lo.I hi.I r.L u.L p'.L 0 (lenR p.L - posP p.L k) + 1000000 * ((p.L.length : Int) - k) := wrap_id (by omega) (by omega)
   simp only [hk, hn, hpos, Int.toNat_natCast, ix_def, rg_ix, w1, w2, w3, w4, w5, w6, w7, w8, w9, w10, w11] at h ⊢
   refine rd_yes t1 (rd_yes ⟨hm.2.1, hm.2.2⟩ (rd_yes t5 (rd_dec (by omega) (rd_neg (by omega) (rd_dec (by omega) (rd_neg (by omega) (rd_dec (by omega) (rd_neg (by omega) (rd_dec (by omega) (rd_neg (by omega) (rd_if (fun hc => ?_) fun hc => ?_)))))))))))
   ·have r2 := pos_rng hm (i := k + 1) (by omega)
    have w12 : IntKind.i64.wrap (posP p.L k + rgI p.L k) = posP p.L (k + 1) := by rw [show posP p.L k + rgI p.L k = posP p.L (k + 1) from (pos_succ p.L k).symm]; exact wrap_id (by omega) (by omega)
    rw [w12]
    refine rd_dec (by omega) (rd_again ((need_yes ⟨⟨hpc, hl, rfl, ⟨hb1, hb2, hb3⟩, hs0, hs1⟩, by simp only [I_i]; omega, by simp only [I_i, L_l]; omega, ?_, hal, hdl, hsb, had⟩).trans h) ?_)
    ·show ((p.L.length : Int) + 1 - ((k + 1 : Nat) : Int)).toNat < ((p.L.length : Int) + 1 - i.I).toNat
     omega
    ·simp only [I_i, L_l, Int.toNat_natCast]
     rw [Nat.min_eq_left (by omega)]
   ·have hkl : k = p.L.length := by omega
    refine rd_again ((need_yes ⟨⟨hpc, hl, rfl, ⟨hb1, hb2, hb3⟩, hs0, hs1⟩, by simp only [I_i]; omega, by simp only [I_i, L_l]; omega, ?_, hal, hdl, hsb, had⟩).trans h) ?_
    ·show ((p.L.length : Int) + 1 - ((k + 1 : Nat) : Int)).toNat < ((p.L.length : Int) + 1 - i.I).toNat
     omega
    ·simp only [I_i, L_l, Int.toNat_natCast]
     rw [Nat.min_eq_right (by omega), hkl]
  ·exact rd_out h
 ·cases h
set_option maxHeartbeats 1000000 in
theorem law6 (a b c d e f g h : D) : (fnT C tab6 6 s6 [a, b, c, d, e, f, g, h]).run = some [D.b true] := by
 refine (t6 a b c d e f g h).trans ?_
 refine go_not (fun _ => rfl) fun h1 => go_not (fun _ => rfl) fun h2 => go_if (fun _ => rfl) fun h3 => go_if (fun _ => rfl) fun h4 => go_if (fun _ => rfl) fun h5 => ?_
 rw [Bool.and_eq_true, decide_eq_true_eq] at h1
 have hrd : roadP a.L b.L c.L := h1.1
 have hsp : spP d.I e.I f.L g.L := h2
 have hpc : paceP d.I e.I f.L g.L a.L b.L c.L := ⟨⟨hrd, hsp⟩, h1.2⟩
 have hl : a.L.length ≤ 20 := by omega
 have hr : reaP d.I e.I f.L g.L a.L b.L c.L (turnR a.L) (crestR (lenR a.L) b.L) (juncR (lenR a.L) c.L) a.L.length h.I := ⟨hpc, hl, rfl, ⟨rfl, rfl, rfl⟩, by omega, by omega⟩
 have hnl := netR_len (lo := d.I) (hi := e.I) (r := f.L) (u := g.L) (p := a.L) a.L.length
 have htk := List.take_of_length_le (Nat.le_of_eq hnl)
 have w1 : IntKind.i64.wrap ((a.L.length : Int) + 1) = (a.L.length : Int) + 1 := wrap_id (by omega) (by omega)
 simp only [Int.toNat_natCast, htk, w1]
 refine go_yes hrd (go_yes ⟨by first | trivial | rfl, hr, by first | trivial | rfl, by first | trivial | rfl⟩ (go_dec (by omega) (go_not (fun _ => rfl) fun hN => go_dec (by omega) ?_)))
 have hA := line_arr hN hl (st := h.I) (by omega) (by omega)
 have hnode : ∀ v : Int, 0 ≤ v → v ≤ a.L.length → Rs.nodeB ((a.L.length : Int) + 1) v h.I = true := fun v h0 h1 => decide_eq_true (by omega)
 refine go_yes ⟨hN, hnode 0 (by omega) (by omega)⟩ (go_dec (by omega) (go_yes ⟨hN, hnode _ (by omega) (by omega)⟩ ?_))
 generalize Rs.arrF ((a.L.length : Int) + 1) (netR d.I e.I f.L g.L a.L a.L.length) 0 h.I = A at hA ⊢
 generalize Rs.arrF ((a.L.length : Int) + 1) (netR d.I e.I f.L g.L a.L a.L.length) a.L.length h.I = B at hA ⊢
 obtain ⟨hA1, hA2, hA3, hA4⟩ := id hA
 have q1 := (hA4 a.L.length (Nat.le_refl _)).1
 have q2 := (hA4 0 (Nat.zero_le _)).2
 have z0 : secP d.I e.I f.L g.L a.L 0 = 0 := rfl
 refine go_false (by rw [hA1]; simp) (go_false (by rw [hA2]; simp) (go_dec (by omega) (go_dec (by omega) (go_false ?_ (go_yes ⟨hr, by omega, by omega, rfl, hA⟩ rfl)))))
 have e1 : ((A.getD a.L.length []).getD 0 default).I = rgI A a.L.length := rfl
 have e2 : ((B.getD (Int.toNat 0) []).getD 0 default).I = rgI B 0 := rfl
 rw [e1, e2, q1, q2, z0, Int.sub_zero]
 simp
theorem all6 : AllOK C 12 sp6 := ⟨ok8 7, ok9 10, ok10, ok20 7, ok12w 5, ok32 12 (Rs.ok32 9), ok33 5, ok11 10, trivial⟩
theorem topReached_law : topReachedLaw := fun xs hx =>
 law_true_wfW hC (sp := sp6) (lp := lp6) (sw := sw6) (n := 12) all6 trivial (by kernel_rfl) [10, 26] (by kernel_rfl) (by kernel_rfl) (fun k hk L hL => by
  simp at hk
  rcases hk with rfl | rfl <;> cases hL
  ·exact ok6_10 all6
  ·exact ok6_26 all6)
  (ts := [26, 30, 3]) (ks := s6.args) (by kernel_rfl) (of_decide_eq_true (by kernel_rfl)) (m := 8) (by kernel_rfl) (fun ds hl _ => by
   match ds, hl with
   | [a, b, c, d, e, f, g, h], _ => exact law6 a b c d e f g h) 12 xs hx
theorem top_reached : Rows.TopReachedSaid := topReached_over topReached_law
end Go.Proofs.Ytgoedfonmocafaa
