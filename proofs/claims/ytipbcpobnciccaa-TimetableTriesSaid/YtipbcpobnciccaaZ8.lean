/-
  The statement of TimP4 holds for every input; what it rests on stands in the parts before.
-/
import Derived.Test.YtipbcpobnciccaaZ7
import Derived.Test.YtipbcpobnciccaaRows
namespace Go.Proofs.Ytipbcpobnciccaa
open Go.Lite Go.ChangeShapes Go.WideShapes Go.ChangeAt Go.RowKit
theorem kids : Kids Try.prog (· < Try.prog.types.size) := kids_rows (by kernel_rfl) (by kernel_rfl)
theorem full : ∀ t e, t < Try.prog.types.size → Try.prog.underlying t = some (.slice e) → 0 < Try.prog.cellsOf e := slices_full_of Try.prog (by kernel_rfl)
end Go.Proofs.Ytipbcpobnciccaa
namespace Go.Proofs.Ytipbcpobnciccaa
open Go.Lite Go.ChangeShapes Go.WideShapes Go.ChangeAt Go.RowKit
def timetableTriesLaw : Prop := ∀ xs : List AV, ArgsShape Try.prog 12 [25] xs → ∃ n h', callA C n Unit none 4 xs [] () = some (.bool true, h', ())
theorem timetableTries_plain : ∀ t ∈ [25], plainTy Try.prog 12 t = true := by
  intro t ht
  have h : [25].all (plainTy Try.prog 12) = true := by kernel_rfl
  exact List.all_eq_true.1 h t ht
set_option maxRecDepth 100000 in
theorem timetableTries_lifted (law : timetableTriesLaw) (os : Os) (started : os.Started) (H : Type) (enc : TypeId × Value → H) :
    ReturnsInHanded {} Try.checked os 4 .any (Rows.timetableTriesSpec.pre6 enc Try.prog Try.f4 Rows.timetableTriesRow.domain false) (Rows.timetableTriesSpec.post enc Try.prog Try.f4 false true false false) := by
  refine returnsInHanded_of_change (C := Try.checked) own started (by kernel_rfl) Try.func4
    (ChangeSpec.witness6 (enc := enc) (C := Try.checked) false ⟨#[], #[.slice none 0 0], []⟩ 8 (by kernel_rfl) (by kernel_rfl) (by kernel_rfl) (by kernel_rfl)) ?_
  intro W base args ds gs before hval0 hW hcnd _
  have hval : ∀ (j : Nat) t v, Try.f4.params[j]? = some t → args[j]? = some v → Value.okWide Try.prog W .any base t v := hval0
  have hW' := hW
  obtain ⟨p, q, hA0, hV, rfl, hfz, hnd⟩ := hW
  have hA : DataW.TrodAll enc Try.prog W 0 (fun _ => true) true Try.f4.params.toList args.toList ds p := hA0
  have hAk := hA
  rw [Try.params4] at hA hval
  obtain ⟨xs, hs, hr⟩ := args_shape (J := fun _ => False) (d := 12) (fun t ht => timetableTries_plain t (by simpa using ht)) (fun j t v h1 h2 => hval j t v (by simpa using h1) (by simpa using h2)) hA
  obtain ⟨n, h', hc⟩ := law xs hs
  obtain ⟨v0, vs0, d0, ds0, p0, q0, hargs, rfl, rfl, h0, r0⟩ := trodAll_cons hA
  obtain ⟨rfl, rfl, rfl⟩ := trodAll_nil r0
  obtain rfl : args = #[v0] := by cases args; simp_all
  obtain ⟨rfl, rfl⟩ := trodVars_none hV
  clear hA0 hval0
  simp only [List.append_nil] at hW'
  refine (law_calls (callsOk n) hc hr).mono fun e W' ⟨he, h1, h2, hk⟩ => ?_
  subst he
  have hlt : ∀ x ∈ p0, x.block < W.heap.size := fun x hx => hW'.lt x (by simpa [List.append_assoc] using hx)
  exact ⟨_, rfl, post_of_kept (pa := p0) (pv := []) hW' (fun _ _ _ => trodAll_mk1 (shut_bool Try.underlying4 _))
    (fun sp hsp => trodAll_carry (DataW.TrodAll.respare kids full (by rw [Try.params4]; decide) (by simpa [List.append_assoc, Rows.timetableTriesSpec] using hAk) (fun x hx => hsp x (by simpa [List.append_assoc] using hx))) (fun x hx => sameAt_of (hk _ (hlt x hx))))
    (fun _ _ => rfl) (by simp) h1 h2 hk (ok_one (by kernel_rfl) rfl (okWide_bool_mk Try.underlying4 _))⟩
theorem timetableTries_over (law : timetableTriesLaw) : Rows.TimetableTriesSaid :=
  OpenClaim.holds_of_wide 4 Try.f4 rfl rfl rfl rfl rfl rfl rfl ⟨rfl, rfl, rfl, rfl, rfl⟩ rfl rfl rfl rfl rfl (by kernel_rfl) Try.func4 (by kernel_rfl)
    (of_decide_eq_true (by kernel_rfl)) (by unfold Func.isWrapper; first | (rw [if_pos (by decide +kernel)]; kernel_rfl) | (rw [if_neg (by decide +kernel)]; exact ⟨rfl, rfl⟩))
    (fun os started H enc _ => timetableTries_lifted law os started H enc)
end Go.Proofs.Ytipbcpobnciccaa
namespace Go.Proofs.Ytipbcpobnciccaa
open Go.Lite
set_option maxRecDepth 100000
theorem bytes43 : Try.prog.types[43].bytes = 24 := by kernel_rfl
theorem bytes41 : Try.prog.types[41].bytes = 80 := by kernel_rfl
theorem rg_ix (R : List (List D)) (j : Nat) : ix (R.getD j []) 0 = rg R j := rfl
theorem take1T (x : List D) : List.take 1 [x] = [x] := rfl
theorem hrsT_take {n : Nat} : (hrsT n).take n = hrsT n := List.take_of_length_le (by rw [hrsT_length]; omega)
theorem hrsT_succ {n : Nat} : hrsT n ++ [[.i 0, .i 100, .i 5]] = hrsT (n + 1) := by
  unfold hrsT
  rw [List.replicate_succ']
theorem ok2023 (n : Nat) : FnOK C (n + 7) 23 (mkF s23 G2023) := fn_mono (ok23 n) fun ds r h => by
  unfold G2023 at h
  split at h
  · rename_i c f w
    cases hp : planB c.I f.I w.L with
    | false =>
      rw [hp] at h
      exact go_false hp h
    | true =>
      rw [hp] at h
      obtain ⟨hf, h⟩ := need_some (show (T.need _ _).run = some r from h)
      rw [yes_iff] at hf
      refine go_true hp (go_yes hf ?_)
      have hcs := make_ok (c := c.I) (f := f.I) (w := w.L) triesN (ch := firstC w.L) first_ok
      have e : makeF c.I f.I w.L triesN (firstC w.L) = foundC c.I f.I w.L := rfl
      rw [e] at hcs
      rcases hcs with ⟨h0, -, -⟩ | h5 | h9
      · rw [h0] at h ⊢
        exact h
      · rw [h5] at h ⊢
        exact h
      · rw [h9] at h ⊢
        exact h
  · cases h
theorem ok4_13 : LoopSim C 12 4 (loopOf C.P 4 13) (mkL l4_13 G4_13) := by
  refine loop_ofK hC (sp := sp4) (lp := lp4) (sw := sw4) ⟨ok16, ok2023 5, ok24 11, trivial⟩ trivial 0 [] (by kernel_rfl) rfl (fun k hk => by cases hk) (by kernel_rfl) (fun ds => (rg (ds.getD 1 default).L (ds.getD 3 default).I.toNat - (ds.getD 4 default).I).toNat) fun ds rr h => ?_
  unfold G4_13 at h
  split at h
  · rename_i z l all i k c f a0 a1 a2 a3 a4 a5 a6
    obtain ⟨hp, h⟩ := need_some h
    rw [yes_iff] at hp
    obtain ⟨hz, hk, hin⟩ := hp
    have hin' := hin
    obtain ⟨⟨i0, i1, i2⟩, i3, i4⟩ := hin'
    refine ⟨by rw [fuelC]; show (rg l.L i.I.toNat - k.I).toNat < _; omega, ?_⟩
    rw [roundTK_head (j := z) (n := 0) hz (by decide), show roundTK C (mkTab sp4 lp4 sw4) 4 (loopOf C.P 4 13) 0 l4_13 [.i 0, l, all, i, k, c, f, a0, a1, a2, a3, a4, a5, a6] = _ from t4_13_0 l all i k c f a0 a1 a2 a3 a4 a5 a6]
    have w1 : IntKind.i64.wrap ((0 : Int) + 1) = 1 := by decide
    simp only [hk, ix_def, rg_ix, w1] at h ⊢
    refine rd_dec (by omega) (rd_pos (by omega) (rd_need rfl (rd_false rfl (rd_need rfl (rd_again ((need_yes ⟨hin, .inl ⟨rfl, by simp only [I_i]; omega, by simp only [L_l, I_i]; omega, rfl, rfl⟩⟩).trans ?_) (by
      show (rg l.L i.I.toNat - 1).toNat < (rg l.L i.I.toNat - k.I).toNat
      omega))))))
    rw [run_ite, if_pos (by simp [D.I])]
    exact h
  · rename_i z l all i k c f x0 x1 x2 x3 x4 x5 x6 x7 h'
    obtain ⟨hp, h⟩ := need_some h
    rw [yes_iff] at hp
    obtain ⟨hin, hz⟩ := hp
    have hin' := hin
    obtain ⟨⟨i0, i1, i2⟩, i3, i4⟩ := hin'
    rcases hz with ⟨hz, k1, k2, ht, hh⟩ | ⟨hz, hk, hs⟩
    · refine ⟨by rw [fuelC]; show (rg l.L i.I.toNat - k.I).toNat < _; omega, ?_⟩
      rw [roundTK_head (j := z) (n := 1) hz (by decide), show roundTK C (mkTab sp4 lp4 sw4) 4 (loopOf C.P 4 13) 0 l4_13 [.i 1, l, all, i, k, c, f, x0, x1, x2, x3, x4, x5, x6, x7, h'] = _ from t4_13_1 l all i k c f x0 x1 x2 x3 x4 x5 x6 x7 h']
      obtain ⟨q, hq⟩ : ∃ q : Nat, k.I = q := ⟨k.I.toNat, by omega⟩
      have hq' : k.I.toNat = q := by omega
      rw [hq'] at hh
      have e1 : (hrsT q).length = q := hrsT_length
      have e2 : (hrsT q).take q = hrsT q := hrsT_take
      rw [hz, run_ite, if_pos (by simp)] at h
      simp only [ht, hh, hq, Int.toNat_natCast, ix_def, rg_ix, e1, e2, bytes43, List.length_cons, List.length_nil, show (0 : Nat) + 1 = 1 from rfl, take1T, hrsT_succ] at h ⊢
      refine rd_dec (by omega) (rd_if (fun hlt => ?_) fun hge => rd_out ?_)
      · rw [wrap_succ (by omega)]
        refine rd_need rfl (rd_false rfl (rd_dec (by omega) (rd_again ((need_yes ⟨hin, .inl ⟨rfl, by simp only [I_i]; omega, by simp only [L_l, I_i]; omega, rfl, rfl⟩⟩).trans ?_) (by
          show (rg l.L i.I.toNat - ((q + 1 : Nat) : Int)).toNat < (rg l.L i.I.toNat - k.I).toNat
          omega))))
        rw [run_ite, if_pos (by simp [D.I])]
        exact h
      · rw [← h]
        have : rg l.L i.I.toNat = (q : Int) := by omega
        simp only [this, Int.toNat_natCast]
        rfl
    · refine ⟨by rw [fuelC]; show (rg l.L i.I.toNat - k.I).toNat < _; omega, ?_⟩
      rw [roundTK_head (j := z) (n := 2) hz (by decide), show roundTK C (mkTab sp4 lp4 sw4) 4 (loopOf C.P 4 13) 0 l4_13 [.i 2, l, all, i, k, c, f, x0, x1, x2, x3, x4, x5, x6, x7, h'] = _ from t4_13_2 l all i k c f x0 x1 x2 x3 x4 x5 x6 x7 h']
      have w1 : IntKind.i64.wrap ((0 : Int) + 1) = 1 := by decide
      rw [hz, run_ite, if_neg (by simp)] at h
      simp only [hk, hs, ix_def, rg_ix, w1, Int.toNat_natCast] at h ⊢
      refine rd_dec (by omega) (rd_pos (by omega) (rd_need rfl (rd_false rfl (rd_need rfl (rd_again ((need_yes ⟨hin, rfl, by simp only [I_i]; omega, by simp only [L_l, I_i]; omega, rfl, rfl, rfl⟩).trans ?_) (by
        show (rg l.L i.I.toNat - 1).toNat < (rg l.L i.I.toNat - k.I).toNat
        omega))))))
      exact h
  · rename_i z l all i k c f s a0 a1 a2 a3 a4 a5 a6 t w h'
    obtain ⟨hp, h⟩ := need_some h
    rw [yes_iff] at hp
    obtain ⟨hin, hz, k1, k2, ht, hh, hs⟩ := hp
    have hin' := hin
    obtain ⟨⟨i0, i1, i2⟩, i3, i4⟩ := hin'
    refine ⟨by rw [fuelC]; show (rg l.L i.I.toNat - k.I).toNat < _; omega, ?_⟩
    rw [roundTK_head (j := z) (n := 3) hz (by decide), show roundTK C (mkTab sp4 lp4 sw4) 4 (loopOf C.P 4 13) 0 l4_13 [.i 3, l, all, i, k, c, f, s, a0, a1, a2, a3, a4, a5, a6, t, w, h'] = _ from t4_13_3 l all i k c f s a0 a1 a2 a3 a4 a5 a6 t w h']
    obtain ⟨q, hq⟩ : ∃ q : Nat, k.I = q := ⟨k.I.toNat, by omega⟩
    have hq' : k.I.toNat = q := by omega
    rw [hq'] at hh
    have e1 : (hrsT q).length = q := hrsT_length
    have e2 : (hrsT q).take q = hrsT q := hrsT_take
    simp only [ht, hh, hq, hs, Int.toNat_natCast, ix_def, rg_ix, e1, e2, bytes43, List.length_cons, List.length_nil, show (0 : Nat) + 1 = 1 from rfl, take1T, hrsT_succ] at h ⊢
    refine rd_dec (by omega) (rd_if (fun hlt => ?_) fun hge => rd_out ?_)
    · rw [wrap_succ (by omega)]
      refine rd_need rfl (rd_false rfl (rd_dec (by omega) (rd_again ((need_yes ⟨hin, rfl, by simp only [I_i]; omega, by simp only [L_l, I_i]; omega, rfl, rfl, rfl⟩).trans ?_) (by
        show (rg l.L i.I.toNat - ((q + 1 : Nat) : Int)).toNat < (rg l.L i.I.toNat - k.I).toNat
        omega))))
      exact h
    · rw [← h]
      have : rg l.L i.I.toNat = (q : Int) := by omega
      simp only [this, Int.toNat_natCast]
      rfl
  · cases h
theorem win_iff {l : List (List D)} {k : Nat} : winT l k = true ↔ 1 ≤ rg l k ∧ rg l k ≤ 10 := Lite.within_iff
theorem prod_step {l : List (List D)} {k : Nat} (h : 1 ≤ rg l k) : ((prodT l (k + 1) : Nat) : Int) = (prodT l k : Nat) * rg l k := by
  simp only [prodT, Int.natCast_mul]
  rw [show (((rg l k).toNat : Nat) : Int) = rg l k by omega]
theorem prod_small {l : List (List D)} {n : Nat} (h : ∀ j, j < n → 1 ≤ rg l j ∧ rg l j ≤ 10) (hn : n ≤ 5) : prodT l n ≤ 100000 := by
  have h1 := (prod_le h n (Nat.le_refl _)).2
  have h2 : 10 ^ n ≤ 10 ^ 5 := Nat.pow_le_pow_right (by decide) hn
  exact Nat.le_trans h1 h2
theorem ok4_6 : LoopSim C 12 4 (loopOf C.P 4 6) (mkL l4_6 G4_6) := by
  refine loop_ofK hC (sp := sp4) (lp := lp4) (sw := sw4) ⟨ok16, ok2023 5, ok24 11, trivial⟩ trivial 0 [13] (by kernel_rfl) (by kernel_rfl) (fun k hk L hL => by simp at hk; subst hk; cases hL; exact ok4_13) (by kernel_rfl) (fun ds => (((ds.getD 1 default).L.length : Int) - (ds.getD 3 default).I).toNat) fun ds rr h => ?_
  unfold G4_6 at h
  split at h
  · rename_i z l all i c f
    obtain ⟨hp, h⟩ := need_some h
    rw [yes_iff] at hp
    obtain ⟨hz, hi, ha, h1, h5⟩ := hp
    refine ⟨by rw [fuelC]; show ((l.L.length : Int) - i.I).toNat < _; omega, ?_⟩
    rw [roundTK_head (j := z) (n := 0) hz (by decide), show roundTK C (mkTab sp4 lp4 sw4) 4 (loopOf C.P 4 6) 0 l4_6 [.i 0, l, all, i, c, f] = _ from t4_6_0 l all i c f]
    have w1 : IntKind.i64.wrap ((0 : Int) + 1) = 1 := by decide
    simp only [hi, ha, Int.toNat_zero, ix_def, rg_ix, w1] at h ⊢
    rw [show l.L.length = (l.L.length - 1) + 1 by omega] at h
    simp only [allFrom] at h
    rw [show l.L.length - 1 + 1 = l.L.length by omega] at h
    refine rd_pos (by omega) (rd_dec (by omega) (rd_if (fun c1 => ?_) fun c1 => rd_dec (by omega) (rd_if (fun c2 => ?_) fun c2 => ?_)))
    · rw [show winT l.L 0 = false from Bool.eq_false_iff.2 fun hh => by have := win_iff.1 hh; omega, Bool.false_and] at h
      exact rd_out h
    · rw [show winT l.L 0 = false from Bool.eq_false_iff.2 fun hh => by have := win_iff.1 hh; omega, Bool.false_and] at h
      exact rd_out h
    · have hw : 1 ≤ rg l.L 0 ∧ rg l.L 0 ≤ 10 := by omega
      rw [win_iff.2 hw, Bool.true_and] at h
      have e1 : (hrsT (rg l.L 0).toNat).length = (rg l.L 0).toNat := hrsT_length
      have w2 : IntKind.i64.wrap (1 * rg l.L 0) = rg l.L 0 := by rw [Int.one_mul]; exact wrap_id (by omega) (by omega)
      rw [hrsT_take, w2, e1]
      refine rd_dec (by omega) (rd_yes ⟨by trivial, by trivial, ⟨by omega, by omega, h5⟩, hw⟩ (rd_dec (Nat.le_refl _) (rd_need rfl (rd_false rfl (rd_need rfl (rd_again ((need_yes ⟨rfl, by simp only [I_i]; omega, by simp only [I_i, L_l]; omega, h5, ?_, ?_, rfl, ?_⟩).trans ?_) (by
        show ((l.L.length : Int) - 1).toNat < ((l.L.length : Int) - i.I).toNat
        omega)))))))
      · simp only [I_i, L_l, show Int.toNat 1 = 1 from rfl]
        exact h
      · simp only [I_i, L_l, show Int.toNat 1 = 1 from rfl]
        rw [prod_step (k := 0) hw.1]
        simp [prodT]
      · intro j hj
        have : j = 0 := by have : j < 1 := hj; omega
        rw [this]
        exact hw
      · simp only [I_i, L_l, show Int.toNat 1 = 1 from rfl]
        rfl
  · rename_i z l all i c f s w
    obtain ⟨hp, h⟩ := need_some h
    rw [yes_iff] at hp
    obtain ⟨hz, i1, i2, h5, ha, hw, hs, hr⟩ := hp
    refine ⟨by rw [fuelC]; show ((l.L.length : Int) - i.I).toNat < _; omega, ?_⟩
    rw [roundTK_head (j := z) (n := 1) hz (by decide), show roundTK C (mkTab sp4 lp4 sw4) 4 (loopOf C.P 4 6) 0 l4_6 [.i 1, l, all, i, c, f, s, w] = _ from t4_6_1 l all i c f s w]
    obtain ⟨k, hk⟩ : ∃ k : Nat, i.I = k := ⟨i.I.toNat, by omega⟩
    rw [hk] at i1 i2 ha hw hs hr h
    rw [Int.toNat_natCast] at ha hw hr h
    have hwl : w.L.length = k := by rw [hr, rowsT_length]
    have htk : w.L.take k = w.L := List.take_of_length_le (by omega)
    simp only [hk, hs, hwl, Int.toNat_natCast, ix_def, rg_ix, htk, bytes41, List.length_cons, List.length_nil, show (0 : Nat) + 1 = 1 from rfl, take1T] at h ⊢
    refine rd_if (fun hlt => ?_) fun hge => ?_
    · have hlt : k < l.L.length := by omega
      rw [show l.L.length - k = (l.L.length - (k + 1)) + 1 by omega] at h
      simp only [allFrom] at h
      refine rd_dec (by omega) (rd_if (fun c1 => ?_) fun c1 => rd_dec (by omega) (rd_if (fun c2 => ?_) fun c2 => ?_))
      · rw [show winT l.L k = false from Bool.eq_false_iff.2 fun hh => by have := win_iff.1 hh; omega, Bool.false_and] at h
        exact rd_out h
      · rw [show winT l.L k = false from Bool.eq_false_iff.2 fun hh => by have := win_iff.1 hh; omega, Bool.false_and] at h
        exact rd_out h
      · have hx : 1 ≤ rg l.L k ∧ rg l.L k ≤ 10 := by omega
        rw [win_iff.2 hx, Bool.true_and] at h
        have hall : ∀ j, j < k + 1 → 1 ≤ rg l.L j ∧ rg l.L j ≤ 10 := fun j hj => by
          by_cases e : j = k
          · rw [e]; exact hx
          · exact hw j (by omega)
        have hsm := prod_small hall (by omega)
        have hst := prod_step (l := l.L) (k := k) hx.1
        have e1 : (hrsT (rg l.L k).toNat).length = (rg l.L k).toNat := hrsT_length
        have w2 : IntKind.i64.wrap (all.I * rg l.L k) = (prodT l.L (k + 1) : Nat) := by
          rw [ha, ← hst]
          exact wrap_id (by omega) (by omega)
        rw [hrsT_take, w2, e1, wrap_succ (by omega)]
        refine rd_dec (by omega) (rd_yes ⟨⟨⟨by omega, by omega, h5⟩, hx⟩, .inr ⟨by trivial, by trivial, by trivial⟩⟩ (rd_false rfl (rd_dec (Nat.le_refl _) (rd_need rfl (rd_false rfl (rd_dec (by omega) (rd_again ((need_yes ⟨rfl, by simp only [I_i]; omega, by simp only [I_i, L_l]; omega, h5, ?_, ?_, ?_, ?_⟩).trans ?_) (by
          show ((l.L.length : Int) - ((k + 1 : Nat) : Int)).toNat < ((l.L.length : Int) - i.I).toNat
          omega))))))))
        · simp only [I_i, L_l, Int.toNat_natCast]
          exact h
        · simp only [I_i, L_l, Int.toNat_natCast]
        · simp only [I_i, L_l, Int.toNat_natCast]
          exact hall
        · simp only [I_i]
        · simp only [I_i, L_l, Int.toNat_natCast]
          rw [rowsT_succ, ← hr]
          rfl
    · rw [show l.L.length - k = 0 by omega] at h
      have hkl : k = l.L.length := by omega
      simp only [allFrom] at h
      rw [run_ite, if_pos rfl] at h
      rw [ha, hr, hkl]
      exact rd_out h
  · cases h
theorem law4 (a : D) : (fnT C tab4 4 s4 [a]).run = some [D.b true] := by
  refine (congrArg T.run (t4 a)).trans ?_
  generalize fnT C tab4 4 s4 [a] = XX
  refine go_if (fun _ => rfl) fun q1 => go_if (fun _ => rfl) fun q2 => go_yes ⟨by trivial, by trivial, by trivial, by omega, by omega⟩ (go_ite (fun hw => ?_) fun _ => rfl)
  have hall : ∀ j, j < a.L.length → 1 ≤ rg a.L j ∧ rg a.L j ≤ 10 := fun j hj => win_iff.1 (allFrom_iff.1 hw j (Nat.zero_le _) (by omega))
  have hl : (rowsT a.L a.L.length).length = a.L.length := rowsT_length
  have htk : (rowsT a.L a.L.length).take a.L.length = rowsT a.L a.L.length := List.take_of_length_le (by omega)
  have hp := plan_tries (l := a.L) (n := a.L.length) (by omega) (by omega) hall
  have hpr := prod_tries hall a.L.length (Nat.le_refl _)
  have hsm := prod_small hall (by omega)
  have hf : fewC (rowsT a.L a.L.length) := by
    unfold fewC
    rw [hl, hpr]
    omega
  have hfd := found_tries (l := a.L) (n := a.L.length) (by omega) hall
  simp only [Int.toNat_natCast, htk]
  refine go_if (fun c => ?_) fun c => ?_
  · rw [if_neg (by omega)] at hfd
    refine go_dec (by omega) (go_true hp (go_yes hf (go_neg (by rw [hfd]; decide) (go_neg (by rw [hfd]; decide) (go_true rfl (go_yes (by decide) rfl))))))
  · rw [if_pos (by omega)] at hfd
    refine go_dec (by omega) (go_true hp (go_yes hf (go_neg (by rw [hfd]; decide) (go_pos hfd (go_true rfl (go_yes (by decide) rfl))))))
theorem timetableTries_law : timetableTriesLaw := fun xs hx =>
  law_true_wfW hC (sp := sp4) (lp := lp4) (sw := sw4) (n := 12) ⟨ok16, ok2023 5, ok24 11, trivial⟩ trivial (by kernel_rfl) [6] (by kernel_rfl) (by kernel_rfl) (fun k hk L hL => by simp at hk; subst hk; cases hL; exact ok4_6)
    (ts := [25]) (ks := s4.args) (by kernel_rfl) (of_decide_eq_true (by kernel_rfl)) (m := 1) (by kernel_rfl) (fun ds hl _ => by
      match ds, hl with
      | [a], _ => exact law4 a) 12 xs hx
theorem timetable_tries : Rows.TimetableTriesSaid := timetableTries_over timetableTries_law
end Go.Proofs.Ytipbcpobnciccaa
