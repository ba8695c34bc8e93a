/-
  What the claim timetable_tries rests on, part 7.
-/
import Derived.Test.YtipbcpobnciccaaZ6
namespace Go.Proofs.Ytipbcpobnciccaa
open Go.Lite
set_option maxRecDepth 100000
theorem zer_len (n : Nat) : (zerR n).length = n := List.length_replicate ..
theorem fill_step {w : List (List D)} {k : Nat} (hk : k < w.length) (v : Int) (hv : v = zeroC w k) : rs (rowF (zeroC w) 0 k ++ zerR (w.length - k)) k v = rowF (zeroC w) 0 (k + 1) ++ zerR (w.length - (k + 1)) := by
  rw [show w.length - k = (w.length - (k + 1)) + 1 by omega]
  exact rowF_rep _ _ _ _ hv
theorem fill_same {w : List (List D)} {k : Nat} (hk : k < w.length) (hv : zeroC w k = 0) : rowF (zeroC w) 0 k ++ zerR (w.length - k) = rowF (zeroC w) 0 (k + 1) ++ zerR (w.length - (k + 1)) := by
  have h := rowF_snoc (zeroC w) k 0
  rw [Nat.zero_add, hv] at h
  rw [show w.length - k = (w.length - (k + 1)) + 1 by omega, ← h, rep_cons, List.append_assoc]
  rfl
theorem zero_len (w : List (List D)) (k : Nat) : zeroC w k = if (lx (w.getD k []) 7).length = 0 then -1 else 0 := by
  unfold zeroC hoursN
  by_cases h : (lx (w.getD k []) 7).length = 0
  · rw [if_pos h, if_pos (by omega)]
  · rw [if_neg h, if_neg (by omega)]
theorem fill_end {w : List (List D)} {k : Nat} (h : w.length ≤ k) (h2 : k ≤ w.length) : rowF (zeroC w) 0 k ++ zerR (w.length - k) = firstC w := by
  have : k = w.length := by omega
  subst this
  rw [Nat.sub_self]
  exact List.append_nil _
theorem ok77_2 (q n : Nat) : LoopSimY C n 1 77 (loopOf C.P 77 2) (some y77) q (mkLY 1 l77_2 (G77_2 q)) := by
  refine loop_ofY hC (sp := sp77) (lp := lp77 q) (sw := sw77) (Y := y77) (yOK_mk _ _ _) trivial trivial 1 [] (by kernel_rfl) rfl (by kernel_rfl) (fun k hk => by cases hk) (by kernel_rfl) (fun ds => ((ds.getD 3 default).I - (ds.getD 4 default).I).toNat) fun ds rr h => ?_
  unfold G77_2 at h
  split at h
  · rename_i g m w' r i c f w ch
    obtain ⟨hp, h⟩ := need_some h
    rw [yes_iff] at hp
    obtain ⟨hp, h0, h1, h4, ⟨h2, h3⟩, h5⟩ := hp
    have hb := big_eq
    obtain ⟨p0, p1, -⟩ := plan_of hp
    refine ⟨by rw [fuelC]; simp; omega, ?_⟩
    rw [show roundTY C (mkTabY sp77 (lp77 q) sw77 y77 q) 77 (loopOf C.P 77 2) 1 l77_2 [g, m, w', r, i, c, f, w, ch] = _ from t77_2 q g m w' r i c f w ch]
    obtain ⟨k, hk⟩ : ∃ k : Nat, i.I = k := ⟨i.I.toNat, by omega⟩
    simp only [hk, h0, h1, h4, h5, Int.toNat_natCast, Nat.reduceAdd, lx_def, upd1, rs_def, lenN] at h h2 h3 ⊢
    refine rd_if (fun hlt => ?_) fun hge => rd_out ?_
    · have hkl : k < w.L.length := by omega
      have hcl : (rowF (zeroC w.L) 0 k ++ zerR (w.L.length - k)).length = w.L.length := by rw [List.length_append, len_rowF, zer_len]; omega
      rw [wrap_succ (by omega)]
      have hmu : ((w.L.length : Int) - ((k + 1 : Nat) : Int)).toNat < (r.I - i.I).toNat := by omega
      have hz := zero_len w.L k
      have go : ∀ cc, cc = rowF (zeroC w.L) 0 (k + 1) ++ zerR (w.L.length - (k + 1)) → (G77_2 q [.l g.L, .i (w.L.length : Int), .l w.L, .i (w.L.length : Int), .i ((k + 1 : Nat) : Int), .i c.I, .i f.I, .l w.L, .l cc]).run = some rr := fun cc hcc => by
        refine (need_yes ⟨hp, rfl, rfl, rfl, ⟨by simp only [I_i]; omega, by simp only [I_i]; omega⟩, by simp only [I_i, L_l, Int.toNat_natCast]; exact hcc⟩).trans ?_
        exact h
      refine rd_dec (by omega) (rd_ite (fun hc => rd_dec (by omega) (rd_dec (by omega) (rd_again (go _ ?_) hmu))) fun hc => rd_again (go _ ?_) hmu)
      · have hc0 : (lx (w.L.getD k []) 7).length = 0 := by have := eq_of_beq hc; omega
        rw [if_pos hc0] at hz
        exact fill_step hkl _ hz.symm
      · have hc0 : ¬ (lx (w.L.getD k []) 7).length = 0 := fun e => by rw [e] at hc; cases hc
        rw [if_neg hc0] at hz
        exact fill_same hkl hz
    · rw [← h, fill_end (by omega) (by omega)]
      rfl
  · cases h
theorem ok77_9 (q n : Nat) : LoopSimY C n 1 77 (loopOf C.P 77 9) (some y77) q (mkLY 1 l77_9 (G77_9 q)) := by
  refine loop_ofY hC (sp := sp77) (lp := lp77 q) (sw := sw77) (Y := y77) (yOK_mk _ _ _) trivial trivial 1 [] (by kernel_rfl) rfl (by kernel_rfl) (fun k hk => by cases hk) (by kernel_rfl) (fun ds => ((ds.getD 2 default).I + 1).toNat) fun ds rr h => ?_
  unfold G77_9 at h
  split at h
  · rename_i g m j c f w ch
    obtain ⟨hp, h⟩ := need_some h
    rw [yes_iff] at hp
    obtain ⟨hp, h1, hc, h2, h3⟩ := hp
    have hb := big_eq
    obtain ⟨p0, p1, -⟩ := plan_of hp
    refine ⟨by rw [fuelC]; simp; omega, ?_⟩
    rw [show roundTY C (mkTabY sp77 (lp77 q) sw77 y77 q) 77 (loopOf C.P 77 9) 1 l77_9 [g, m, j, c, f, w, ch] = _ from t77_9 q g m j c f w ch]
    refine rd_if (fun hge => ?_) fun hlt => rd_out ?_
    · obtain ⟨k, hk⟩ : ∃ k : Nat, j.I = k := ⟨j.I.toNat, by omega⟩
      have hkl : k < w.L.length := by omega
      have hcl := hc.1.1
      have hd := digit_of hc.1 hkl
      have hh := (wayC_of (way_of hp hkl).1).2.2.2.2.2.2
      have e1 : ((k : Int) + 1).toNat = k + 1 := by omega
      have e2 : IntKind.i64.wrap (((lx (w.L.getD k []) 7).length : Int) - 1) = hoursN w.L k - 1 := wrap_id (by omega) (by omega)
      have e3 : ix (ch.L.getD k []) 0 = rg ch.L k := rfl
      simp only [hk, h1, Int.toNat_natCast, Nat.reduceAdd, lx_def, ix_def, upd1, rs_def, e1, e2, e3, carryF, lenN] at h h2 h3 ⊢
      rw [wrap_pred (by omega)]
      have hmu : ((k : Int) - 1 + 1).toNat < (j.I + 1).toNat := by omega
      have go : ∀ cc, cc = rs ch.L k (zeroC w.L k) → rg ch.L k + 1 ≥ hoursN w.L k → (G77_9 q [.l g.L, .i (w.L.length : Int), .i ((k : Int) - 1), .i c.I, .i f.I, .l w.L, .l cc]).run = some rr := fun cc hcc hge => by
        subst hcc
        refine (need_yes ⟨hp, rfl, set_ok hc hkl (zero_digit k), by simp only [I_i]; omega, by simp only [I_i, L_l]; omega⟩).trans ?_
        rw [if_pos hge] at h
        simp only [I_i, L_l, show ((k : Int) - 1 + 1).toNat = k by omega]
        exact h
      refine rd_dec (by omega) (rd_dec (by omega) (rd_dec (by omega) (rd_if (fun hc2 => ?_) fun hc2 => rd_out ?_)))
      · refine rd_dec (by omega) (rd_dec (by omega) (rd_if (fun hpos => rd_dec (by omega) (rd_dec (by omega) (rd_again (go _ ?_ (by omega)) hmu))) fun hneg => rd_again (go _ ?_ (by omega)) hmu))
        · have : zeroC w.L k = 0 := by unfold zeroC; rw [if_neg (by omega)]
          rw [this]
        · have : zeroC w.L k = rg ch.L k := by
            unfold zeroC
            by_cases hz : hoursN w.L k = 0
            · rw [if_pos hz]; omega
            · rw [if_neg hz]; omega
          rw [this, rs_same hc.2]
      · rw [if_neg (by omega)] at h
        exact h
    · simp only [lenN, h1, Int.toNat_natCast] at h ⊢
      have e : j.I = -1 := by omega
      rw [e] at h ⊢
      exact h
  · cases h
theorem ok77_7 (q n : Nat) : LoopSimY C n 1 77 (loopOf C.P 77 7) (some y77) q (mkLY 1 l77_7 (G77_7 q)) := by
  refine loop_ofY hC (sp := sp77) (lp := lp77 q) (sw := sw77) (Y := y77) (yOK_mk _ _ _) trivial trivial 1 [9] (by kernel_rfl) (by kernel_rfl) (by kernel_rfl) (fun k hk L hL => by simp at hk; subst hk; cases hL; exact ok77_9 q n) (by kernel_rfl) (fun ds => restC (ds.getD 4 default).L (ds.getD 5 default).L) fun ds rr h => ?_
  unfold G77_7 at h
  split at h
  · rename_i g m c f w ch
    obtain ⟨hp, h⟩ := need_some h
    rw [yes_iff] at hp
    obtain ⟨hp, hf, h1, hc, hg⟩ := hp
    have hb := big_eq
    obtain ⟨p0, p1, -⟩ := plan_of hp
    have hrl : restC w.L ch.L ≤ 1000000000000 := by unfold restC; unfold fewC at hf; omega
    refine ⟨by rw [fuelC]; show restC w.L ch.L < _; omega, ?_⟩
    rw [show roundTY C (mkTabY sp77 (lp77 q) sw77 y77 q) 77 (loopOf C.P 77 7) 1 l77_7 [g, m, c, f, w, ch] = _ from t77_7 q g m c f w ch]
    have hq : (tab77 q).q = q := rfl
    have hcl := hc.1.1
    have e1 : IntKind.i64.wrap ((w.L.length : Int) - 1) = (w.L.length : Int) - 1 := wrap_pred (by omega)
    have e2 : ((w.L.length : Int) - 1 + 1).toNat = w.L.length := by omega
    rw [all_rest hc, hcl, show q + 1 - g.L.length = (q - g.L.length) + 1 by omega, List.take_succ_cons] at h
    simp only [h1, hq, Int.toNat_natCast, e1, e2, upd1, rs_def, Bool.not_not] at h ⊢
    have hy : [D.i (w.L.length : Int)] ++ [] ++ ([D.l ch.L] ++ []) = [D.i (w.L.length : Int), D.l ch.L] := rfl
    simp only [hy]
    refine rd_ite (fun c2 => rd_out ?_) fun c2 => rd_yes ⟨hp, by trivial, hc, by omega, by omega⟩ (rd_if (fun hn => rd_out ?_) fun hn => ?_)
    · have c2 : g.L.length = q := by simpa using c2
      rw [show q - g.L.length = 0 by omega, List.take_zero] at h
      exact h
    · rw [if_pos hn, List.take_nil] at h
      exact h
    · have c2 : g.L.length ≠ q := by
        have : ¬ (g.L.length == q) = true := by rw [c2]; simp
        simpa using this
      obtain ⟨a, b, d, e, e'⟩ := carry_ok w.L.length (Nat.le_refl _) hc
      have al := a.1.1
      have hnn : 0 ≤ (carryF w.L w.L.length ch.L).2 := by omega
      rw [if_neg hn] at h
      refine rd_dec (by omega) (rd_dec (by omega) (rd_dec (by omega) (rd_dec (by omega) (rd_again ?_ ?_))))
      · have hdg := digit_of a.1 (j := (carryF w.L w.L.length ch.L).2.toNat) (by omega)
        have hh := (wayC_of (way_of hp (k := (carryF w.L w.L.length ch.L).2.toNat) (by omega)).1).2.2.2.2.2.2
        have e3 : IntKind.i64.wrap (ix ((carryF w.L w.L.length ch.L).1.getD (carryF w.L w.L.length ch.L).2.toNat []) 0 + 1) = rg (carryF w.L w.L.length ch.L).1 (carryF w.L w.L.length ch.L).2.toNat + 1 := by
          have : hoursN w.L (carryF w.L w.L.length ch.L).2.toNat ≤ 10 := by unfold hoursN; omega
          exact wrap_id (x := rg (carryF w.L w.L.length ch.L).1 (carryF w.L w.L.length ch.L).2.toNat + 1) (by omega) (by omega)
        simp only [ix_def, e3]
        refine (need_yes ⟨hp, hf, rfl, step_ok hc hnn, by simp only [L_l, List.length_append, List.length_cons, List.length_nil]; omega⟩).trans ?_
        simp only [L_l, I_i, List.length_append, List.length_cons, List.length_nil, List.append_assoc, List.cons_append, List.nil_append]
        rw [show q + 1 - (g.L.length + (0 + 1)) = q - g.L.length by omega]
        exact h
      · have hdg := digit_of a.1 (j := (carryF w.L w.L.length ch.L).2.toNat) (by omega)
        have hh := (wayC_of (way_of hp (k := (carryF w.L w.L.length ch.L).2.toNat) (by omega)).1).2.2.2.2.2.2
        have e3 : IntKind.i64.wrap (ix ((carryF w.L w.L.length ch.L).1.getD (carryF w.L w.L.length ch.L).2.toNat []) 0 + 1) = rg (carryF w.L w.L.length ch.L).1 (carryF w.L w.L.length ch.L).2.toNat + 1 := by
          have : hoursN w.L (carryF w.L w.L.length ch.L).2.toNat ≤ 10 := by unfold hoursN; omega
          exact wrap_id (x := rg (carryF w.L w.L.length ch.L).1 (carryF w.L w.L.length ch.L).2.toNat + 1) (by omega) (by omega)
        simp only [ix_def, e3]
        show restC w.L (stepC (carryF w.L w.L.length ch.L)) < restC w.L ch.L
        rw [rest_step hc (by omega)]
        omega
  · cases h
theorem ok77 (n : Nat) : IterOK C (n + 1) 77 y77 (mkFY s77 G77) := by
  refine iter_of hC (sp := sp77) (lp := lp77) (sw := sw77) (Y := y77) (yOK_mk _ _ _) trivial trivial (by kernel_rfl) [2, 7] (by kernel_rfl) (by kernel_rfl) (by kernel_rfl) (fun q k hk L hL => by
    simp at hk
    rcases hk with rfl | rfl <;> cases hL
    · exact ok77_2 q n
    · exact ok77_7 q n) fun ds L h q => ?_
  unfold G77 at h
  split at h
  · rename_i c f w
    obtain ⟨hp, h⟩ := need_some h
    rw [yes_iff] at hp
    cases h
    obtain ⟨hp, hf⟩ := hp
    obtain ⟨p0, p1, -⟩ := plan_of hp
    have hb := big_eq
    refine (congrArg T.run (t77 q c f w)).trans ?_
    simp only [Int.toNat_natCast, Int.toNat_zero, Nat.sub_zero, List.length_replicate, bytes3, rest_first, List.length_nil, List.nil_append]
    exact go_dec ⟨by omega, by trivial, by omega, by omega⟩ (go_yes ⟨hp, by trivial, by trivial, by trivial, by omega, rfl⟩ (go_yes ⟨hp, hf, by trivial, first_ok, by omega⟩ rfl))
  · cases h
theorem ok56 (n : Nat) : FnOKW C (n + 1) 56 (mkFW s56 G56) := by
  refine fn_ofW hC (sp := sp56) (lp := lp56) (sw := sw56) trivial trivial (by kernel_rfl) [] (by kernel_rfl) rfl (fun k hk => by cases hk) fun ds rr h => ?_
  unfold G56 at h
  split at h
  · rename_i c f w
    refine (congrArg T.run (t56 c f w)).trans ?_
    exact h
  · cases h
end Go.Proofs.Ytipbcpobnciccaa
namespace Go.Proofs.Ytipbcpobnciccaa
open Go.Lite
set_option maxRecDepth 100000
theorem ok58_3 (n : Nat) : LoopSimK C (n + 1) 1 58 (loopOf C.P 58 3) (mkLK 1 l58_3 G58_3) := by
  refine loop_ofK hC (sp := sp58) (lp := lp58) (sw := sw58) ⟨ok67 n, ok73 n, trivial⟩ trivial 1 [] (by kernel_rfl) rfl (fun k hk => by cases hk) (by kernel_rfl) (fun ds => ((ds.getD 4 default).I - (ds.getD 5 default).I).toNat) fun ds rr h => ?_
  unfold G58_3 at h
  split at h
  · rename_i hd lo m w' q i du c f w lo2 n2 n3 ch
    obtain ⟨hp, h⟩ := need_some h
    rw [yes_iff] at hp
    obtain ⟨e0, hp, h1, h2, h3, h4, h5, hdu, h6, h7, h8⟩ := hp
    have hb := big_eq
    obtain ⟨p0, p1, -⟩ := plan_of hp
    refine ⟨by rw [fuelC]; simp; omega, ?_⟩
    rw [roundTK_head (j := hd) (n := 0) e0 (by decide), show roundTK C (mkTab sp58 lp58 sw58) 58 (loopOf C.P 58 3) 1 l58_3 [.i 0, lo, m, w', q, i, du, c, f, w, lo2, n2, n3, ch] = _ from t58_3_0 lo m w' q i du c f w lo2 n2 n3 ch]
    have h0 : 0 < w.L.length := by omega
    have c1 := wayC_of (way_of hp h0).1
    have b1 := busy_of hp h0
    have d1 := hdu.2 1
    have dl := hdu.1
    have z1 : IntKind.i64.wrap ((0 : Int) + 1) = 1 := by decide
    have z2 : Int.toNat 1 = 1 := rfl
    have z3 : ((w.L.length : Int) + 1).toNat = w.L.length + 1 := by omega
    have z4 : IntKind.i64.wrap (ix (du.L.getD 1 []) 0 - ix (w.L.getD 0 []) 1) = clG w.L (duF du.L) 0 := wrap_id (x := rg du.L 1 - ix (w.L.getD 0 []) 1) (by omega) (by omega)
    have z5 : IntKind.i64.wrap (ix (du.L.getD 1 []) 0 + busyF c.I (w.L.getD 0 [])) = opG c.I w.L (duF du.L) 0 := wrap_id (x := rg du.L 1 + busyF c.I (w.L.getD 0 [])) (by omega) (by omega)
    simp only [h1, h2, h3, h4, h5, h6, h7, h8, Int.toNat_natCast, Int.toNat_zero, Nat.add_zero, ix_def, Nat.reduceAdd, z1, z2, z3, z4, z5] at h ⊢
    refine rd_pos (by omega) (rd_dec (by omega) (rd_dec (by omega) (rd_dec (by omega) (rd_need rfl (rd_false rfl (rd_need rfl (rd_dec (by omega) (rd_dec (by omega) (rd_yes ⟨hp, by omega, by omega⟩ (rd_need rfl (rd_false rfl (rd_need rfl (rd_again ?_ ?_)))))))))))))
    · refine (need_yes ⟨rfl, hp, rfl, by simp only [I_i, L_l]; omega, rfl, rfl, ⟨by simp only [I_i]; omega, by simp only [I_i, L_l]; omega⟩, hdu, rfl, by simp only [I_i, L_l]; omega, rfl, rfl, rfl, rfl, rfl⟩).trans ?_
      rw [← h]
      rfl
    · show ((w.L.length : Int) - 1).toNat < (q.I - i.I).toNat
      omega
  · rename_i hd lo m w' q i du c f w lo2 n2 n4 n5 n3 cl op ch
    obtain ⟨hp, h⟩ := need_some h
    rw [yes_iff] at hp
    obtain ⟨e0, hp, h1, h2, h3, h4, h5, hdu, h6, h7, h8, h9, h10, h11, h12⟩ := hp
    have hb := big_eq
    obtain ⟨p0, p1, -⟩ := plan_of hp
    refine ⟨by rw [fuelC]; simp; omega, ?_⟩
    rw [roundTK_head (j := hd) (n := 1) e0 (by decide), show roundTK C (mkTab sp58 lp58 sw58) 58 (loopOf C.P 58 3) 1 l58_3 [.i 1, lo, m, w', q, i, du, c, f, w, lo2, n2, n4, n5, n3, cl, op, ch] = _ from t58_3_1 lo m w' q i du c f w lo2 n2 n4 n5 n3 cl op ch]
    obtain ⟨k, hk⟩ : ∃ k : Nat, i.I = k := ⟨i.I.toNat, by omega⟩
    have dl := hdu.1
    have z2 : Int.toNat 1 = 1 := rfl
    have z3 : ((w.L.length : Int) + 1).toNat = w.L.length + 1 := by omega
    have lc := len_rowF (clG w.L (duF du.L)) k 0
    have lo' := len_rowF (opG c.I w.L (duF du.L)) k 0
    have y1 : (rowF (clG w.L (duF du.L)) 0 k).take k = rowF (clG w.L (duF du.L)) 0 k := List.take_of_length_le (by omega)
    have y2 : (rowF (opG c.I w.L (duF du.L)) 0 k).take k = rowF (opG c.I w.L (duF du.L)) 0 k := List.take_of_length_le (by omega)
    have t1 : ∀ y : List D, List.take 1 [y] = [y] := fun _ => rfl
    have b3 : Try.prog.types[3].bytes = 8 := by kernel_rfl
    simp only [hk, h1, h2, h3, h4, h6, h7, h8, h9, h10, h11, h12, Int.toNat_natCast, ix_def, z2, z3, lc, lo', y1, y2, List.length_cons, List.length_nil, Nat.zero_add, t1, b3] at h h5 ⊢
    refine rd_if (fun hlt => ?_) fun hge => rd_out ?_
    · have hkl : k < w.L.length := by omega
      have c1 := wayC_of (way_of hp hkl).1
      have b1 := busy_of hp hkl
      have d1 := hdu.2 (1 + k)
      have z4 : IntKind.i64.wrap (ix (du.L.getD (1 + k) []) 0 - ix (w.L.getD k []) 1) = clG w.L (duF du.L) (0 + k) := (wrap_id (x := rg du.L (1 + k) - ix (w.L.getD k []) 1) (by omega) (by omega)).trans (by unfold clG duF; rw [Nat.zero_add, Nat.add_comm 1 k])
      have z5 : IntKind.i64.wrap (ix (du.L.getD (1 + k) []) 0 + busyF c.I (w.L.getD k [])) = opG c.I w.L (duF du.L) (0 + k) := (wrap_id (x := rg du.L (1 + k) + busyF c.I (w.L.getD k [])) (by omega) (by omega)).trans (by unfold opG duF; rw [Nat.zero_add, Nat.add_comm 1 k])
      rw [wrap_succ (by omega)]
      simp only [z4, z5, rowF_snoc]
      refine rd_dec (by omega) (rd_dec (by omega) (rd_dec (by omega) (rd_need rfl (rd_false rfl (rd_dec (by omega) (rd_dec (by omega) (rd_dec (by omega) (rd_yes ⟨hp, by omega, by omega⟩ (rd_need rfl (rd_false rfl (rd_dec (by omega) (rd_again ?_ ?_))))))))))))
      · refine (need_yes ⟨rfl, hp, rfl, by simp only [I_i, L_l]; omega, rfl, rfl, ⟨by simp only [I_i]; omega, by simp only [I_i, L_l]; omega⟩, hdu, rfl, by simp only [I_i, L_l]; omega, rfl, rfl, rfl, by simp only [I_i, L_l, Int.toNat_natCast], by simp only [I_i, L_l, Int.toNat_natCast]⟩).trans ?_
        rw [← h]
        rfl
      · show ((w.L.length : Int) - ((k + 1 : Nat) : Int)).toNat < (q.I - i.I).toNat
        omega
    · rw [← h]
      have e : k = w.L.length := by omega
      subst e
      rfl
  · cases h
theorem ok58 (n : Nat) : FnOKW C (n + 2) 58 (mkFW s58 G58) := by
  refine fn_ofW hC (sp := sp58) (lp := lp58) (sw := sw58) ⟨ok67 n, ok73 n, trivial⟩ trivial (by kernel_rfl) [3] (by kernel_rfl) (by kernel_rfl) (fun k hk L hL => by simp at hk; subst hk; cases hL; exact ok58_3 n) fun ds rr h => ?_
  unfold G58 at h
  split at h
  · rename_i c f w ch lo m du
    obtain ⟨hp, h⟩ := need_some h
    rw [yes_iff] at hp
    obtain ⟨hp, hc, h1, h2, hdu⟩ := hp
    refine (congrArg T.run (t58 c f w ch lo m du)).trans ?_
    obtain ⟨p0, p1, -⟩ := plan_of hp
    rw [← h]
    simp only [Int.toNat_natCast]
    refine go_yes ⟨fun e => by rw [e] at hc; simp at hc; omega, by omega⟩ (go_yes ⟨by trivial, hp, by omega, by omega, by trivial, by trivial, by trivial, hdu, by omega, by omega, by trivial⟩ rfl)
  · cases h
end Go.Proofs.Ytipbcpobnciccaa
namespace Go.Proofs.Ytipbcpobnciccaa
open Go.Lite
def s23 : Sig := ⟨[.agg [.k (.int .i64), .k (.int .i64), .k (.ro [.int .i64, .int .i64, .int .i64, .int .i64, .bool, .int .i64, .int .i64, .ro [.int .i64, .int .i64, .int .i64]])]], [(.tup [.agg [.nils, .nils, .nils, .nils], .k (.int .i64)], []), (.tup [.agg [.sub 0 1, .sl 1 1, .sl 2 1, .sl 3 1], .k (.int .i64)], [.row [.int .i64], .row [.int .i64], .row [.int .i64], .row [.int .i64]])]⟩
def h23_7 : List Shp := [mkShp (35, [(1, .ptr 0 3 0 0), (2, .ptr 1 4 0 0), (3, .ptr 2 1 0 0), (5, .ptr 3 1 0 0), (16, .fn 77 [] [.any])], [.box [.k (.int .i64), .k (.int .i64), .k (.ro [.int .i64, .int .i64, .int .i64, .int .i64, .bool, .int .i64, .int .i64, .ro [.int .i64, .int .i64, .int .i64]])], .box [.nils, .nils, .nils, .nils], .box [.k (.int .i64)], .box [.k (.int .i64)]]), mkShp (35, [(1, .ptr 0 3 0 0), (2, .ptr 1 4 0 0), (3, .ptr 2 1 0 0), (5, .ptr 3 1 0 0), (16, .fn 77 [] [.any])], [.box [.k (.int .i64), .k (.int .i64), .k (.ro [.int .i64, .int .i64, .int .i64, .int .i64, .bool, .int .i64, .int .i64, .ro [.int .i64, .int .i64, .int .i64]])], .box [.sub 4 1, .sl 5 1, .sl 6 1, .sl 7 1], .box [.k (.int .i64)], .box [.k (.int .i64)], .row [.int .i64], .row [.int .i64], .row [.int .i64], .row [.int .i64]])]
def s24 : Sig := ⟨[.agg [.k (.ro [.int .i64]), .k (.ro [.int .i64]), .k (.ro [.int .i64]), .k (.ro [.int .i64])]], [(.k .bool, [])]⟩
end Go.Proofs.Ytipbcpobnciccaa
namespace Go.Proofs.Ytipbcpobnciccaa
open Go.Lite
noncomputable section
def chY (x : List D) : List (List D) := lx x 1
def pickF (c f : Int) (w : List (List D)) : List (List D) → Int → Int × List (List D) × Int
  | [], t => (5, [], t)
  | x :: L, t => if t = 20000 then (9, [], t) else if duesOk c f w (chY x) then (0, chY x, t + 1) else pickF c f w L (t + 1)
def yOK (w : List (List D)) (x : List D) : Prop := x = [.i w.length, .l (chY x)] ∧ carOK w (chY x)
def rowP (c f : Int) (w ch : List (List D)) : List (List D) := (pushP true c f w ch).1
def G23_7 (L : List (List D)) (ds : List D) : T (Ex × List D) := match ds with
  | [h, c, f, w, e, t] => .need (yes (h.I = 0 ∧ planB c.I f.I w.L = true ∧ (∀ x ∈ L, yOK w.L x) ∧ 0 ≤ t.I ∧ t.I ≤ 20000))
      (.ite (decide ((pickF c.I f.I w.L L t.I).1 = 0))
        (.leaf (.ret, [.i 1, .i c.I, .i f.I, .l w.L, .i 1, .i (w.L.length + 1 : Nat), .i w.L.length, .i w.L.length, .i w.L.length, .i 0, .i (pickF c.I f.I w.L L t.I).2.2, .l (rowP c.I f.I w.L (pickF c.I f.I w.L L t.I).2.1),
          .l (clR c.I f.I w.L (pickF c.I f.I w.L L t.I).2.1), .l (opR c.I f.I w.L (pickF c.I f.I w.L L t.I).2.1), .l (pickF c.I f.I w.L L t.I).2.1]))
        (.ite (decide ((pickF c.I f.I w.L L t.I).1 = 9)) (.leaf (.ret, [.i 0, .i c.I, .i f.I, .l w.L, .i 9, .i (pickF c.I f.I w.L L t.I).2.2])) (.leaf (.normal, [.i 0, .i c.I, .i f.I, .l w.L, .i e.I, .i (pickF c.I f.I w.L L t.I).2.2]))))
  | _ => .fail
def G23 (ds : List D) : T (List D) := match ds with
  | [c, f, w] => .ite (planB c.I f.I w.L)
      (.need (yes (fewC w.L)) (.ite (decide ((foundC c.I f.I w.L).1 = 0))
        (.leaf [.i 1, .i 1, .i (w.L.length + 1 : Nat), .i w.L.length, .i w.L.length, .i w.L.length, .i 0, .l (rowP c.I f.I w.L (foundC c.I f.I w.L).2), .l (clR c.I f.I w.L (foundC c.I f.I w.L).2), .l (opR c.I f.I w.L (foundC c.I f.I w.L).2), .l (foundC c.I f.I w.L).2])
        (.leaf [.i 0, .i (foundC c.I f.I w.L).1])))
      (.leaf [.i 0, .i 2])
  | _ => .fail
def G24 (ds : List D) : T (List D) := match ds with
  | [a, b, c, d] => .need (yes (a.L.length ≤ 1000000000 ∧ b.L.length ≤ 1000000000 ∧ c.L.length ≤ 1000000000 ∧ d.L.length ≤ 1000000000)) (.leaf [.b (decide (a.L.length + b.L.length + c.L.length + d.L.length = 0))])
  | _ => .fail
end
end Go.Proofs.Ytipbcpobnciccaa
namespace Go.Proofs.Ytipbcpobnciccaa
open Go.Lite
noncomputable def it23_7 : ItL := [(77, mkFY s77 G77)]
noncomputable def sp23 : SpL := [(41, mkF s41 G41), (57, mkF s57 G57)]
noncomputable def lp23 : LpL := []
noncomputable def sw23 : SwL := [(56, mkFW s56 G56), (58, mkFW s58 G58)]
noncomputable def rg23 : LpL := [(7, rangeS 0 [1, 2, 3, 5, 16] (rangeOf C.P 23 7).1 it23_7 h23_7 G23_7)]
noncomputable def tab23 : Tab := mkTabR sp23 lp23 sw23 rg23
noncomputable def sp24 : SpL := []
noncomputable def lp24 : LpL := []
noncomputable def sw24 : SwL := []
noncomputable def tab24 : Tab := mkTab sp24 lp24 sw24
end Go.Proofs.Ytipbcpobnciccaa
namespace Go.Proofs.Ytipbcpobnciccaa
open Go.Lite
set_option linter.unusedVariables false
set_option maxRecDepth 100000
theorem t23 (a b c : D) : fnT C tab23 23 s23 [a, b, c] =
  T.ite ((if planB a.I b.I c.L = true then (0 : Int) else (2 : Int)) != (0 : Int)) (T.leaf [D.i 0, D.i (if planB a.I b.I c.L = true then (0 : Int) else (2 : Int))]) (T.need (yes (planB a.I b.I c.L = true ∧ fewC c.L)) (T.need (yes ((↑0 : Int) = (0 : Int) ∧ planB a.I b.I c.L = true ∧ (∀ (x : List D), x ∈ allC c.L (prodF c.L c.L.length) (firstC c.L) → yOK c.L x) ∧ (0 : Int) ≤ (0 : Int) ∧ (0 : Int) ≤ (20000 : Int))) (T.ite (decide ((pickF a.I b.I c.L (allC c.L (prodF c.L c.L.length) (firstC c.L)) (0 : Int)).fst = (0 : Int))) (T.leaf [D.i 1, D.i 1, D.i (↑(Int.toNat (↑(c.L.length + 1) : Int)) : Int), D.i (↑(Int.toNat (c.L.length : Int)) : Int), D.i (↑(Int.toNat (c.L.length : Int)) : Int), D.i (↑(Int.toNat (c.L.length : Int)) : Int), D.i 0, D.l (rowP a.I b.I c.L (pickF a.I b.I c.L (allC c.L (prodF c.L c.L.length) (firstC c.L)) (0 : Int)).snd.fst), D.l (clR a.I b.I c.L (pickF a.I b.I c.L (allC c.L (prodF c.L c.L.length) (firstC c.L)) (0 : Int)).snd.fst), D.l (opR a.I b.I c.L (pickF a.I b.I c.L (allC c.L (prodF c.L c.L.length) (firstC c.L)) (0 : Int)).snd.fst), D.l (pickF a.I b.I c.L (allC c.L (prodF c.L c.L.length) (firstC c.L)) (0 : Int)).snd.fst]) (T.ite (decide ((pickF a.I b.I c.L (allC c.L (prodF c.L c.L.length) (firstC c.L)) (0 : Int)).fst = (9 : Int))) (T.leaf [D.i 0, D.i 9]) (T.leaf [D.i 0, D.i 5]))))) := by kernel_rfl
theorem t23_r7_0 (a b c d e f g : D) : roundRT C tab23 23 (rangeOf C.P 23 7) 0 5 [1, 2, 3, 5, 16] h23_7 y77 [.i 0, a, b, c, d, e] [f, g] =
  T.ite (e.I == (20000 : Int)) (T.leaf (Rd.out Ex.ret [D.i 0, D.i a.I, D.i b.I, D.l c.L, D.i 9, D.i e.I], [D.i (f.I.toNat : Int), D.l g.L])) (T.need (decide (f.I.toNat ≤ g.L.length)) (T.need (yes (planB a.I b.I c.L = true ∧ chOK c.L (List.take f.I.toNat g.L))) (T.ite (duesOk a.I b.I c.L (List.take f.I.toNat g.L)) (T.ite true (T.need (decide (f.I.toNat ≤ g.L.length)) (T.need (yes (planB a.I b.I c.L = true ∧ List.length (List.take f.I.toNat g.L) = c.L.length ∧ (↑(Int.toNat (1 : Int)) : Int) = (1 : Int) ∧ (↑(Int.toNat (↑(c.L.length + 1) : Int)) : Int) = (c.L.length : Int) + (1 : Int) ∧ duOK c.L (pushP true a.I b.I c.L (List.take f.I.toNat g.L)).fst)) (T.leaf (Rd.out Ex.ret [D.i 1, D.i a.I, D.i b.I, D.l c.L, D.i 1, D.i (↑(Int.toNat (↑(c.L.length + 1) : Int)) : Int), D.i (↑(Int.toNat (c.L.length : Int)) : Int), D.i (↑(Int.toNat (c.L.length : Int)) : Int), D.i (↑(Int.toNat (↑(List.length (List.take f.I.toNat g.L)) : Int)) : Int), D.i 0, D.i (IntKind.wrap IntKind.i64 (e.I + (1 : Int))), D.l (pushP true a.I b.I c.L (List.take f.I.toNat g.L)).fst, D.l (rowF (clG c.L (duF (pushP true a.I b.I c.L (List.take f.I.toNat g.L)).fst)) 0 c.L.length), D.l (rowF (opG a.I c.L (duF (pushP true a.I b.I c.L (List.take f.I.toNat g.L)).fst)) 0 c.L.length), D.l (List.take f.I.toNat g.L)], [D.i (f.I.toNat : Int), D.l g.L])))) (T.leaf (Rd.again [D.i 0, D.i a.I, D.i b.I, D.l c.L, D.i d.I, D.i (IntKind.wrap IntKind.i64 (e.I + (1 : Int)))], [D.i (f.I.toNat : Int), D.l g.L]))) (T.ite false (T.need (decide (f.I.toNat ≤ g.L.length)) T.fail) (T.leaf (Rd.again [D.i 0, D.i a.I, D.i b.I, D.l c.L, D.i d.I, D.i (IntKind.wrap IntKind.i64 (e.I + (1 : Int)))], [D.i (f.I.toNat : Int), D.l g.L])))))) := by kernel_rfl
theorem t24 (a b c d : D) : fnT C tab24 24 s24 [a, b, c, d] =
  T.leaf [D.b (IntKind.wrap IntKind.i64 (IntKind.wrap IntKind.i64 (IntKind.wrap IntKind.i64 ((a.L.length : Int) + (b.L.length : Int)) + (c.L.length : Int)) + (d.L.length : Int)) == (0 : Int))] := by kernel_rfl
end Go.Proofs.Ytipbcpobnciccaa
namespace Go.Proofs.Ytipbcpobnciccaa
open Go.Lite
set_option maxRecDepth 100000
section
variable {c f : Int} {w : List (List D)}
theorem all_ok : ∀ (n : Nat) {ch : List (List D)}, carOK w ch → ∀ x ∈ allC w n ch, yOK w x
  | 0, _, _, x, hx => by cases hx
  | n + 1, ch, h, x, hx => by
    simp only [allC, List.mem_cons] at hx
    rcases hx with rfl | hx
    · refine ⟨?_, h⟩
      show [D.i ch.length, D.l ch] = _
      rw [h.1.1]
      rfl
    · split at hx
      · cases hx
      · exact all_ok n (step_ok h (by omega)) x hx
theorem pick_make : ∀ (k : Nat) {ch : List (List D)} {t : Int}, carOK w ch → t = 20000 - k → (pickF c f w (allC w (restC w ch) ch) t).1 = (makeF c f w k ch).1 ∧ ((makeF c f w k ch).1 = 0 → (pickF c f w (allC w (restC w ch) ch) t).2.1 = (makeF c f w k ch).2)
  | 0, ch, t, h, ht => by
    rw [all_rest h]
    simp only [pickF, makeF]
    rw [if_pos (by omega)]
    exact ⟨rfl, fun h => by simp at h⟩
  | k + 1, ch, t, h, ht => by
    rw [all_rest h]
    have e : chY [.i ch.length, .l ch] = ch := rfl
    simp only [pickF, makeF, e]
    rw [if_neg (by omega)]
    by_cases hd : duesOk c f w ch = true
    · rw [if_pos hd, if_pos hd]
      exact ⟨rfl, fun _ => rfl⟩
    · rw [if_neg hd, if_neg hd]
      by_cases hn : (carryF w w.length ch).2 < 0
      · rw [if_pos hn, if_pos hn]
        simp only [pickF]
        exact ⟨by trivial, fun h => by simp at h⟩
      · rw [if_neg hn, if_neg hn]
        exact pick_make k (step_ok h (by omega)) (by omega)
theorem make_ok : ∀ (k : Nat) {ch : List (List D)}, carOK w ch → (makeF c f w k ch).1 = 0 ∧ carOK w (makeF c f w k ch).2 ∧ duesOk c f w (makeF c f w k ch).2 = true ∨ (makeF c f w k ch).1 = 5 ∨ (makeF c f w k ch).1 = 9
  | 0, ch, h => .inr (.inr rfl)
  | k + 1, ch, h => by
    simp only [makeF]
    by_cases hd : duesOk c f w ch = true
    · rw [if_pos hd]
      exact .inl ⟨rfl, h, hd⟩
    · rw [if_neg hd]
      by_cases hn : (carryF w w.length ch).2 < 0
      · rw [if_pos hn]
        exact .inr (.inl rfl)
      · rw [if_neg hn]
        exact make_ok k (step_ok h (by omega))
theorem row_dues {ch : List (List D)} (hp : planB c f w = true) (hc : chOK w ch) (hd : duesOk c f w ch = true) : duOK w (rowP c f w ch) ∧ (rowP c f w ch).drop 1 = dueL c f w ch ∧ rowF (clG w (duF (rowP c f w ch))) 0 w.length = clR c f w ch ∧ rowF (opG c w (duF (rowP c f w ch))) 0 w.length = opR c f w ch := by
  have hr : (pushP true c f w ch).2.2 < 0 := by
    unfold duesOk at hd
    rw [Bool.and_eq_true, decide_eq_true_eq] at hd
    exact hd.2
  have he := (push_ends hp hc).2 hr
  obtain ⟨q1, q2, q3, -⟩ := push_plan true hp hc hr
  obtain ⟨-, -, -, d4, -⟩ := due_least (f := f) hp hc
  have g : ∀ j, duF (rowP c f w ch) j = rg (dueL c f w ch) j := fun j => by
    unfold duF rowP
    rw [← he, rg_drop, Nat.add_comm]
  refine ⟨⟨q3, fun j => ⟨q2 j, ?_⟩⟩, he, rowF_ext _ _ fun j _ _ => ?_, rowF_ext _ _ fun j _ _ => ?_⟩
  · cases j with
    | zero =>
      have : rg (rowP c f w ch) 0 = 0 := q1
      omega
    | succ j =>
      have := g j
      unfold duF at this
      have := d4 j
      omega
  · unfold clG
    rw [g]
  · unfold opG
    rw [g]
end
theorem headA_head {hs : List Shp} {j : D} {n : Int} (r : List D) (h : j.I = n) (hl : 2 ≤ hs.length) : headA hs (j :: r) = headA hs (.i n :: r) := by
  match hs, hl with
  | a :: b :: c, _ => simp only [headA, List.headD_cons, List.tail_cons, I_i, h]
theorem roundRT_head {C : Cfg} {tab : Tab} {f : FuncId} {r : Rg} {k kk : Nat} {live : List Nat} {hs : List Shp} {Y : YS} {j : D} {n : Int} (ds el : List D) (h : j.I = n) (hl : 2 ≤ hs.length) : roundRT C tab f r k kk live hs Y (j :: ds) el = roundRT C tab f r k kk live hs Y (.i n :: ds) el := by
  unfold roundRT
  rw [headA_head ds h hl]
theorem fold23 (L : List (List D)) : ∀ (ds : List D) (rr : Ex × List D), (G23_7 L ds).run = some rr → FoldR (fun ds el => (roundRT C tab23 23 (rangeOf C.P 23 7) 0 5 [1, 2, 3, 5, 16] h23_7 y77 ds el).run) y77.give (fun a b => headA h23_7 a = headA h23_7 b) ds L rr.1 rr.2 := by
  induction L with
  | nil =>
    intro ds rr h
    unfold G23_7 at h
    split at h
    · rename_i z c f w e t
      obtain ⟨hp, h⟩ := need_some h
      rw [yes_iff] at hp
      simp only [pickF] at h
      rw [run_ite, if_neg (by simp), run_ite, if_neg (by simp)] at h
      cases h
      exact .nil (by rw [headA_head _ hp.1 (by decide)]; rfl)
    · cases h
  | cons x L ih =>
    intro ds rr h
    unfold G23_7 at h
    split at h
    · rename_i z c f w e t
      obtain ⟨hp, h⟩ := need_some h
      rw [yes_iff] at hp
      obtain ⟨hz, hp, hy, ht0, ht1⟩ := hp
      have hx := hy x List.mem_cons_self
      have hxs : ∀ x ∈ L, yOK w.L x := fun y hy' => hy y (List.mem_cons_of_mem _ hy')
      obtain ⟨hxe, hxc⟩ := hx
      generalize hch : chY x = ch at hxe hxc
      have hcl := hxc.1.1
      obtain ⟨p0, p1, -⟩ := plan_of hp
      have htk : ch.take w.L.length = ch := List.take_of_length_le (by omega)
      have e0 : roundRT C tab23 23 (rangeOf C.P 23 7) 0 5 [1, 2, 3, 5, 16] h23_7 y77 [z, c, f, w, e, t] x = roundRT C tab23 23 (rangeOf C.P 23 7) 0 5 [1, 2, 3, 5, 16] h23_7 y77 [.i 0, c, f, w, e, t] [.i w.L.length, .l ch] := by
        rw [roundRT_head _ _ hz (by decide), hxe]
      have hround := congrArg T.run (e0.trans (t23_r7_0 c f w e t (.i w.L.length) (.l ch)))
      simp only [I_i, L_l, Int.toNat_natCast, htk] at hround
      simp only [pickF, hch] at h
      by_cases h20 : t.I = 20000
      · rw [if_pos h20] at h
        rw [run_ite, if_neg (by simp), run_ite, if_pos (by simp)] at h
        cases h
        refine .out (x' := x) ?_ (fun _ => rfl) (by simp)
        refine hround.trans ?_
        rw [run_ite, if_pos (by simp [h20]), hxe]
        rfl
      · rw [if_neg h20] at h
        rw [wrap_id (x := t.I + 1) (by omega) (by omega)] at hround
        by_cases hd : duesOk c.I f.I w.L ch = true
        · rw [if_pos hd] at h
          rw [run_ite, if_pos (by simp)] at h
          cases h
          obtain ⟨r1, r2, r3, r4⟩ := row_dues hp hxc.1 hd
          refine .out (x' := x) ?_ (fun _ => rfl) (by simp)
          refine hround.trans ?_
          have z1 : (Int.toNat 1 : Int) = 1 := rfl
          have e1 : (pushP true c.I f.I w.L ch).1 = rowP c.I f.I w.L ch := rfl
          simp only [e1, r3, r4]
          refine go_false (by simp [h20]) (go_dec (by omega) (go_yes ⟨hp, hxc.1⟩ (go_true hd (go_true rfl (go_dec (by omega) (go_yes ⟨hp, hcl, z1, by omega, r1⟩ ?_))))))
          rw [hxe, hcl]
          rfl
        · rw [if_neg hd] at h
          have hd : duesOk c.I f.I w.L ch = false := by simpa using hd
          refine .again (x' := x) (ds' := [.i 0, .i c.I, .i f.I, .l w.L, .i e.I, .i (t.I + 1)]) ?_ (fun _ => rfl) (ih _ _ ?_)
          · refine hround.trans ?_
            refine go_false (by simp [h20]) (go_dec (by omega) (go_yes ⟨hp, hxc.1⟩ (go_false hd (go_false rfl ?_))))
            rw [hxe]
            rfl
          · refine (need_yes ⟨rfl, hp, hxs, by simp only [I_i]; omega, by simp only [I_i]; omega⟩).trans ?_
            exact h
    · cases h
theorem ok23_7 (n : Nat) : CodeSim C (n + 6) 0 23 (rangeOf C.P 23 7).code none 0 (rangeS 0 [1, 2, 3, 5, 16] (rangeOf C.P 23 7).1 it23_7 h23_7 G23_7) :=
  range_of hC (sp := sp23) (lp := lp23) (sw := sw23) (rg := rg23) (Y := y77) (yOK_mk _ _ _) ⟨ok41 n, ok57 (n + 3), trivial⟩ ⟨ok56 (n + 5), ok58 (n + 4), trivial⟩ 7 0 5 [] (by kernel_rfl) rfl (by kernel_rfl) (by exact ⟨by kernel_rfl, by kernel_rfl⟩) (fun k hk => by cases hk)
    (by kernel_rfl) (by kernel_rfl) (it := it23_7) ⟨ok77 (n + 5), trivial⟩ fun L ds rr h => fold23 L ds rr h
theorem ok23 (n : Nat) : FnOK C (n + 7) 23 (mkF s23 G23) := by
  refine fn_ofR hC (sp := sp23) (lp := lp23) (sw := sw23) (rg := rg23) ⟨ok41 n, ok57 (n + 3), trivial⟩ ⟨ok56 (n + 5), ok58 (n + 4), trivial⟩ (by kernel_rfl) [] [7] (by kernel_rfl) rfl (by kernel_rfl) (by kernel_rfl) (fun k hk => by cases hk) (fun k hk L hL => by
    simp at hk; subst hk; cases hL; exact ok23_7 n) fun ds r h => ?_
  unfold G23 at h
  split at h
  · rename_i c f w
    refine (congrArg T.run (t23 c f w)).trans ?_
    cases hp : planB c.I f.I w.L with
    | false =>
      rw [hp] at h
      exact h
    | true =>
      rw [hp] at h
      obtain ⟨hf, h⟩ := need_some (show (T.need _ _).run = some r from h)
      rw [yes_iff] at hf
      have hall := all_ok (w := w.L) (prodF w.L w.L.length) first_ok
      rw [← rest_first] at hall ⊢
      have hpm := pick_make (c := c.I) (f := f.I) (w := w.L) 20000 (ch := firstC w.L) (t := 0) first_ok (by decide)
      have hmk : makeF c.I f.I w.L 20000 (firstC w.L) = foundC c.I f.I w.L := rfl
      rw [hmk] at hpm
      have hcs := make_ok (c := c.I) (f := f.I) (w := w.L) 20000 (ch := firstC w.L) first_ok
      rw [hmk] at hcs
      generalize pickF c.I f.I w.L (allC w.L (restC w.L (firstC w.L)) (firstC w.L)) 0 = pk at hpm ⊢
      obtain ⟨k1, k2⟩ := hpm
      simp only [k1, Int.toNat_natCast, if_true]
      refine go_false rfl (go_yes ⟨by trivial, hf⟩ (go_yes ⟨by trivial, by trivial, hall, by omega, by omega⟩ ?_))
      rcases hcs with ⟨h0, -, -⟩ | h5 | h9
      · rw [h0, k2 h0]
        rw [h0] at h
        exact h
      · rw [h5]
        rw [h5] at h
        exact h
      · rw [h9]
        rw [h9] at h
        exact h
  · cases h
theorem ok24 (n : Nat) : FnOK C (n + 1) 24 (mkF s24 G24) := by
  refine fn_ofS hC (sp := sp24) (lp := lp24) (sw := sw24) trivial trivial (by kernel_rfl) [] (by kernel_rfl) rfl (fun k hk => by cases hk) fun ds rr h => ?_
  unfold G24 at h
  split at h
  · rename_i a b c d
    obtain ⟨hp, h⟩ := need_some h
    rw [yes_iff] at hp
    obtain ⟨h1, h2, h3, h4⟩ := hp
    refine (congrArg T.run (t24 a b c d)).trans ?_
    rw [← h, wrap_id (x := (a.L.length : Int) + b.L.length) (by omega) (by omega), wrap_id (x := (a.L.length : Int) + b.L.length + c.L.length) (by omega) (by omega), wrap_id (by omega) (by omega)]
    congr 3
    by_cases e : a.L.length + b.L.length + c.L.length + d.L.length = 0
    · rw [decide_eq_true e]
      have : (a.L.length : Int) + b.L.length + c.L.length + d.L.length = 0 := by omega
      rw [this]; rfl
    · rw [decide_eq_false e]
      have : (a.L.length : Int) + b.L.length + c.L.length + d.L.length ≠ 0 := by omega
      simpa using this
  · cases h
end Go.Proofs.Ytipbcpobnciccaa
namespace Go.Proofs.Ytipbcpobnciccaa
open Go.Lite
theorem fn_mono {C : Cfg} {n : Nat} {f : FuncId} {s : Sig} {G G' : List D → T (List D)} (h : FnOK C n f (mkF s G)) (hg : ∀ ds r, (G' ds).run = some r → (G ds).run = some r) : FnOK C n f (mkF s G') := by
  intro args v hb h1 avs hv
  refine h args v hb ?_ avs hv
  unfold mkF at h1 ⊢
  split at h1
  · rw [T.run_map, Option.map_eq_some_iff] at h1 ⊢
    obtain ⟨r, e1, e2⟩ := h1
    exact ⟨r, hg _ r e1, e2⟩
  · cases h1
end Go.Proofs.Ytipbcpobnciccaa
namespace Go.Proofs.Ytipbcpobnciccaa
open Go.Lite
noncomputable section
def G2023 (ds : List D) : T (List D) := match ds with
  | [c, f, w] => .ite (planB c.I f.I w.L) (.need (yes (fewC w.L)) (.ite (decide ((foundC c.I f.I w.L).1 = 0))
        (.leaf [.i 1, .i 1, .i (w.L.length + 1 : Nat), .i w.L.length, .i w.L.length, .i w.L.length, .i 0, .l (rowP c.I f.I w.L (foundC c.I f.I w.L).2), .l (clR c.I f.I w.L (foundC c.I f.I w.L).2), .l (opR c.I f.I w.L (foundC c.I f.I w.L).2), .l (foundC c.I f.I w.L).2])
        (.ite (decide ((foundC c.I f.I w.L).1 = 5)) (.leaf [.i 0, .i 5]) (.leaf [.i 0, .i 9])))) (.leaf [.i 0, .i 2])
  | _ => .fail
end
end Go.Proofs.Ytipbcpobnciccaa
namespace Go.Proofs.Ytipbcpobnciccaa
open Go.Lite
def s4 : Sig := ⟨[.k (.ro [.int .i64])], [(.k .bool, [])]⟩
def l4_6 : LSig := mkLS [0, 3, 4, 5] [(84, [(0, .k (.ro [.int .i64])), (3, .ptr 0 3 0 0), (4, .k (.int .i64)), (5, .k (.int .i64))], [.box [.k (.int .i64), .k (.int .i64), .nils]]), (84, [(0, .k (.ro [.int .i64])), (3, .ptr 0 3 0 0), (4, .k (.int .i64)), (5, .k (.int .i64))], [.box [.k (.int .i64), .k (.int .i64), .sl 1 8], .row [.int .i64, .int .i64, .int .i64, .int .i64, .bool, .int .i64, .int .i64, .ro [.int .i64, .int .i64, .int .i64]]])] [(.ret, [2], [(84, [(2, .k .bool)], [])]), (.exit 0, [3, 4], [(84, [(3, .ptr 0 3 0 0), (4, .k (.int .i64))], [.box [.k (.int .i64), .k (.int .i64), .nils]]), (84, [(3, .ptr 0 3 0 0), (4, .k (.int .i64))], [.box [.k (.int .i64), .k (.int .i64), .sl 1 8], .row [.int .i64, .int .i64, .int .i64, .int .i64, .bool, .int .i64, .int .i64, .ro [.int .i64, .int .i64, .int .i64]]])])]
def l4_13 : LSig := mkLS [0, 3, 4, 5, 6, 7] [(84, [(0, .k (.ro [.int .i64])), (3, .ptr 0 3 0 0), (4, .k (.int .i64)), (5, .k (.int .i64)), (6, .ptr 1 8 0 0), (7, .k (.int .i64))], [.box [.k (.int .i64), .k (.int .i64), .nils], .box [.k (.int .i64), .k (.int .i64), .k (.int .i64), .k (.int .i64), .k .bool, .k (.int .i64), .k (.int .i64), .nils]]), (84, [(0, .k (.ro [.int .i64])), (3, .ptr 0 3 0 0), (4, .k (.int .i64)), (5, .k (.int .i64)), (6, .ptr 1 8 0 0), (7, .k (.int .i64))], [.box [.k (.int .i64), .k (.int .i64), .nils], .box [.k (.int .i64), .k (.int .i64), .k (.int .i64), .k (.int .i64), .k .bool, .k (.int .i64), .k (.int .i64), .sl 2 3], .row [.int .i64, .int .i64, .int .i64]]), (84, [(0, .k (.ro [.int .i64])), (3, .ptr 0 3 0 0), (4, .k (.int .i64)), (5, .k (.int .i64)), (6, .ptr 1 8 0 0), (7, .k (.int .i64))], [.box [.k (.int .i64), .k (.int .i64), .sl 2 8], .box [.k (.int .i64), .k (.int .i64), .k (.int .i64), .k (.int .i64), .k .bool, .k (.int .i64), .k (.int .i64), .nils], .row [.int .i64, .int .i64, .int .i64, .int .i64, .bool, .int .i64, .int .i64, .ro [.int .i64, .int .i64, .int .i64]]]), (84, [(0, .k (.ro [.int .i64])), (3, .ptr 0 3 0 0), (4, .k (.int .i64)), (5, .k (.int .i64)), (6, .ptr 1 8 0 0), (7, .k (.int .i64))], [.box [.k (.int .i64), .k (.int .i64), .sl 2 8], .box [.k (.int .i64), .k (.int .i64), .k (.int .i64), .k (.int .i64), .k .bool, .k (.int .i64), .k (.int .i64), .sl 3 3], .row [.int .i64, .int .i64, .int .i64, .int .i64, .bool, .int .i64, .int .i64, .ro [.int .i64, .int .i64, .int .i64]], .row [.int .i64, .int .i64, .int .i64]])] [(.exit 2, [0, 3, 4, 5, 6], [(84, [(0, .k (.ro [.int .i64])), (3, .ptr 0 3 0 0), (4, .k (.int .i64)), (5, .k (.int .i64)), (6, .ptr 1 8 0 0)], [.box [.k (.int .i64), .k (.int .i64), .nils], .box [.k (.int .i64), .k (.int .i64), .k (.int .i64), .k (.int .i64), .k .bool, .k (.int .i64), .k (.int .i64), .nils]]), (84, [(0, .k (.ro [.int .i64])), (3, .ptr 0 3 0 0), (4, .k (.int .i64)), (5, .k (.int .i64)), (6, .ptr 1 8 0 0)], [.box [.k (.int .i64), .k (.int .i64), .nils], .box [.k (.int .i64), .k (.int .i64), .k (.int .i64), .k (.int .i64), .k .bool, .k (.int .i64), .k (.int .i64), .sl 2 3], .row [.int .i64, .int .i64, .int .i64]]), (84, [(0, .k (.ro [.int .i64])), (3, .ptr 0 3 0 0), (4, .k (.int .i64)), (5, .k (.int .i64)), (6, .ptr 1 8 0 0)], [.box [.k (.int .i64), .k (.int .i64), .sl 2 8], .box [.k (.int .i64), .k (.int .i64), .k (.int .i64), .k (.int .i64), .k .bool, .k (.int .i64), .k (.int .i64), .nils], .row [.int .i64, .int .i64, .int .i64, .int .i64, .bool, .int .i64, .int .i64, .ro [.int .i64, .int .i64, .int .i64]]]), (84, [(0, .k (.ro [.int .i64])), (3, .ptr 0 3 0 0), (4, .k (.int .i64)), (5, .k (.int .i64)), (6, .ptr 1 8 0 0)], [.box [.k (.int .i64), .k (.int .i64), .sl 2 8], .box [.k (.int .i64), .k (.int .i64), .k (.int .i64), .k (.int .i64), .k .bool, .k (.int .i64), .k (.int .i64), .sl 3 3], .row [.int .i64, .int .i64, .int .i64, .int .i64, .bool, .int .i64, .int .i64, .ro [.int .i64, .int .i64, .int .i64]], .row [.int .i64, .int .i64, .int .i64]])])]
end Go.Proofs.Ytipbcpobnciccaa
namespace Go.Proofs.Ytipbcpobnciccaa
open Go.Lite
noncomputable section
def hrsT (n : Nat) : List (List D) := List.replicate n [.i 0, .i 100, .i 5]
def wayT (k : Int) : List D := [.i 10, .i 0, .i 0, .i 1, .b false, .i 0, .i 0, .l (hrsT k.toNat)]
def rowsT (l : List (List D)) (n : Nat) : List (List D) := (List.range n).map fun j => wayT (rg l j)
def prodT (l : List (List D)) : Nat → Nat
  | 0 => 1
  | k + 1 => prodT l k * (rg l k).toNat
end
section
variable {c f : Int} {w : List (List D)}
theorem make_tries (hd : ∀ ch, carOK w ch → duesOk c f w ch = false) : ∀ (n : Nat) {ch : List (List D)}, carOK w ch → (makeF c f w n ch).1 = if restC w ch ≤ n then 5 else 9
  | 0, ch, h => by
    have := rest_pos h
    rw [if_neg (by omega)]
    rfl
  | n + 1, ch, h => by
    simp only [makeF, hd ch h, Bool.false_eq_true, if_false]
    by_cases hn : (carryF w w.length ch).2 < 0
    · rw [if_pos hn, rest_last h hn, if_pos (by omega)]
    · rw [if_neg hn, make_tries hd n (step_ok h (by omega)), rest_step h (by omega)]
      by_cases hr : restC w (stepC (carryF w w.length ch)) ≤ n
      · rw [if_pos hr, if_pos (by omega)]
      · rw [if_neg hr, if_neg (by omega)]
end
section
variable {l : List (List D)} {n : Nat}
theorem rowsT_length : (rowsT l n).length = n := by simp [rowsT]
theorem rowsT_get {j : Nat} (h : j < n) : (rowsT l n).getD j [] = wayT (rg l j) := by simp [rowsT, List.getD_eq_getElem?_getD, h]
theorem rowsT_succ : rowsT l (n + 1) = rowsT l n ++ [wayT (rg l n)] := by simp [rowsT, List.range_succ]
theorem hrsT_get {m j : Nat} (h : j < m) : (hrsT m).getD j [] = [.i 0, .i 100, .i 5] := by simp [hrsT, List.getD_eq_getElem?_getD, h]
theorem hrsT_length {m : Nat} : (hrsT m).length = m := by simp [hrsT]
theorem hrs_ok (m : Nat) : hours (hrsT m) = true := by
  unfold hours
  rw [allFrom_iff]
  intro j _ hj
  rw [hrsT_length, Nat.zero_add] at hj
  unfold hourB
  rw [hrsT_get hj]
  decide
theorem way_ok {k : Int} (h : 1 ≤ k ∧ k ≤ 10) (b : Bool) {g : Int} (hg : b = true ∨ g = 1) : wayB (wayT k) b g = true := by
  have e : lx (wayT k) 7 = hrsT k.toNat := rfl
  unfold wayB
  rw [e, hrs_ok, Bool.and_true, Bool.and_eq_true]
  constructor
  · unfold wayC
    rw [e, hrsT_length]
    have h0 : ix (wayT k) 0 = 10 := rfl
    have h1 : ix (wayT k) 1 = 0 := rfl
    have h2 : ix (wayT k) 2 = 0 := rfl
    have h3 : ix (wayT k) 3 = 1 := rfl
    have h5 : ix (wayT k) 5 = 0 := rfl
    have h6 : ix (wayT k) 6 = 0 := rfl
    rw [h0, h1, h2, h3, h5, h6]
    exact decide_eq_true (by omega)
  · unfold grpC
    have h4 : bx (wayT k) 4 = false := rfl
    have h5 : ix (wayT k) 5 = 0 := rfl
    have h6 : ix (wayT k) 6 = 0 := rfl
    have h3 : ix (wayT k) 3 = 1 := rfl
    rw [h4, h5, h6, h3]
    rcases hg with hg | hg
    · simp [hg]
    · simp [hg]
theorem plan_tries (h1 : 1 ≤ n) (h5 : n ≤ 5) (h : ∀ j, j < n → 1 ≤ rg l j ∧ rg l j ≤ 10) : planB 1 10 (rowsT l n) = true := by
  unfold planB planH
  rw [rowsT_length, Bool.and_eq_true, allFrom_iff]
  refine ⟨decide_eq_true (by omega), fun j _ hj => ?_⟩
  rw [Nat.zero_add] at hj
  unfold wayL
  rw [rowsT_get hj]
  refine way_ok (h j hj) _ ?_
  by_cases e : j = 0
  · exact .inl (by simp [e])
  · right
    rw [rowsT_get (by omega)]
    rfl
theorem hours_tries {j : Nat} (hj : j < n) : hoursN (rowsT l n) j = ((rg l j).toNat : Int) := by
  unfold hoursN
  rw [rowsT_get hj]
  show ((hrsT (rg l j).toNat).length : Int) = _
  rw [hrsT_length]
theorem prod_tries (h : ∀ j, j < n → 1 ≤ rg l j ∧ rg l j ≤ 10) : ∀ k, k ≤ n → prodF (rowsT l n) k = prodT l k
  | 0, _ => rfl
  | k + 1, hk => by
    have := h k (by omega)
    simp only [prodF, prodT]
    rw [prod_tries h k (by omega), hours_tries (by omega), show (max 1 ((rg l k).toNat : Int)).toNat = (rg l k).toNat by omega]
theorem prod_le (h : ∀ j, j < n → 1 ≤ rg l j ∧ rg l j ≤ 10) : ∀ k, k ≤ n → 1 ≤ prodT l k ∧ prodT l k ≤ 10 ^ k
  | 0, _ => by simp [prodT]
  | k + 1, hk => by
    have h1 := h k (by omega)
    obtain ⟨h2, h3⟩ := prod_le h k (by omega)
    simp only [prodT, Nat.pow_succ]
    refine ⟨Nat.mul_pos h2 (by omega), Nat.mul_le_mul h3 (by omega)⟩
theorem dues_tries (h1 : 1 ≤ n) (h : ∀ j, j < n → 1 ≤ rg l j ∧ rg l j ≤ 10) {ch : List (List D)} (hc : carOK (rowsT l n) ch) : duesOk 1 10 (rowsT l n) ch = false := by
  unfold duesOk
  have h0 := h 0 (by omega)
  have hd := digit_of hc.1 (j := 0) (by rw [rowsT_length]; omega)
  rw [hours_tries (by omega)] at hd
  have hr : 0 ≤ rg ch 0 ∧ rg ch 0 < ((rg l 0).toNat : Int) := by omega
  have hl : limJ 1 (rowsT l n) ch 0 = false := by
    unfold limJ
    refine decide_eq_false fun hh => ?_
    have := hh hr.1
    unfold winF at this
    rw [rowsT_get (by omega)] at this
    have e : lx (wayT (rg l 0)) 7 = hrsT (rg l 0).toNat := rfl
    rw [e, hrsT_get (by omega)] at this
    have e1 : ix (wayT (rg l 0)) 1 = 0 := rfl
    have e2 : busyF 1 (wayT (rg l 0)) = 10 := rfl
    have e3 : ix [D.i 0, D.i 100, D.i 5] 2 = 5 := rfl
    rw [e1, e2, e3] at this
    omega
  have hb : limB 1 (rowsT l n) ch = false := by
    unfold limB
    rw [rowsT_length, show n = (n - 1) + 1 by omega]
    simp only [allFrom]
    rw [show n - 1 + 1 = n by omega, hl]
    rfl
  rw [hb]
  rfl
theorem found_tries (h1 : 1 ≤ n) (h : ∀ j, j < n → 1 ≤ rg l j ∧ rg l j ≤ 10) : (foundC 1 10 (rowsT l n)).1 = if prodT l n ≤ 20000 then 5 else 9 := by
  have := make_tries (c := 1) (f := 10) (w := rowsT l n) (fun ch hc => dues_tries h1 h hc) triesN first_ok
  rw [rest_first, rowsT_length, prod_tries h n (Nat.le_refl _)] at this
  exact this
end
end Go.Proofs.Ytipbcpobnciccaa
namespace Go.Proofs.Ytipbcpobnciccaa
open Go.Lite
noncomputable section
def winT (l : List (List D)) (j : Nat) : Bool := within (rg l j) 1 10
def inT (l : List (List D)) (i : Int) : Prop := (0 ≤ i ∧ i < l.length ∧ l.length ≤ 5) ∧ 1 ≤ rg l i.toNat ∧ rg l i.toNat ≤ 10
def G4_13 (ds : List D) : T (Ex × List D) := match ds with
  | [z, l, all, i, k, c, f, a0, a1, a2, a3, a4, a5, a6] => .need (yes (z.I = 0 ∧ k.I = 0 ∧ inT l.L i.I))
      (.leaf (.exit 2, [.i 1, .l l.L, .i all.I, .i i.I, .i c.I, .i f.I, .i a0.I, .i a1.I, .i a2.I, .i a3.I, .b a4.B, .i a5.I, .i a6.I, .i (rg l.L i.I.toNat), .l (hrsT (rg l.L i.I.toNat).toNat)]))
  | [z, l, all, i, k, c, f, x0, x1, x2, x3, x4, x5, x6, x7, h] => .need (yes (inT l.L i.I ∧ (z.I = 1 ∧ 1 ≤ k.I ∧ k.I ≤ rg l.L i.I.toNat ∧ x7.I = k.I ∧ h.L = hrsT k.I.toNat ∨ z.I = 2 ∧ k.I = 0 ∧ x0.I = h.L.length)))
      (.ite (decide (z.I = 1))
        (.leaf (.exit 2, [.i 1, .l l.L, .i all.I, .i i.I, .i c.I, .i f.I, .i x0.I, .i x1.I, .i x2.I, .i x3.I, .b x4.B, .i x5.I, .i x6.I, .i (rg l.L i.I.toNat), .l (hrsT (rg l.L i.I.toNat).toNat)]))
        (.leaf (.exit 2, [.i 3, .l l.L, .i all.I, .i i.I, .i c.I, .i f.I, .i h.L.length, .i x1.I, .i x2.I, .i x3.I, .i x4.I, .b x5.B, .i x6.I, .i x7.I, .i (rg l.L i.I.toNat), .l h.L, .l (hrsT (rg l.L i.I.toNat).toNat)])))
  | [z, l, all, i, k, c, f, s, a0, a1, a2, a3, a4, a5, a6, t, w, h] => .need (yes (inT l.L i.I ∧ z.I = 3 ∧ 1 ≤ k.I ∧ k.I ≤ rg l.L i.I.toNat ∧ t.I = k.I ∧ h.L = hrsT k.I.toNat ∧ s.I = w.L.length))
      (.leaf (.exit 2, [.i 3, .l l.L, .i all.I, .i i.I, .i c.I, .i f.I, .i w.L.length, .i a0.I, .i a1.I, .i a2.I, .i a3.I, .b a4.B, .i a5.I, .i a6.I, .i (rg l.L i.I.toNat), .l w.L, .l (hrsT (rg l.L i.I.toNat).toNat)]))
  | _ => .fail
def G4_6 (ds : List D) : T (Ex × List D) := match ds with
  | [z, l, all, i, c, f] => .need (yes (z.I = 0 ∧ i.I = 0 ∧ all.I = 1 ∧ 1 ≤ l.L.length ∧ l.L.length ≤ 5))
      (.ite (allFrom (winT l.L) 0 l.L.length) (.leaf (.exit 0, [.i 1, .i (prodT l.L l.L.length : Nat), .i c.I, .i f.I, .i l.L.length, .l (rowsT l.L l.L.length)])) (.leaf (.ret, [.b true])))
  | [z, l, all, i, c, f, s, w] => .need (yes (z.I = 1 ∧ 1 ≤ i.I ∧ i.I ≤ l.L.length ∧ l.L.length ≤ 5 ∧ all.I = (prodT l.L i.I.toNat : Nat) ∧ (∀ j, j < i.I.toNat → 1 ≤ rg l.L j ∧ rg l.L j ≤ 10) ∧ s.I = i.I ∧ w.L = rowsT l.L i.I.toNat))
      (.ite (allFrom (winT l.L) i.I.toNat (l.L.length - i.I.toNat)) (.leaf (.exit 0, [.i 1, .i (prodT l.L l.L.length : Nat), .i c.I, .i f.I, .i l.L.length, .l (rowsT l.L l.L.length)])) (.leaf (.ret, [.b true])))
  | _ => .fail
end
end Go.Proofs.Ytipbcpobnciccaa
namespace Go.Proofs.Ytipbcpobnciccaa
open Go.Lite
noncomputable def sp4 : SpL := [(16, mkF s16 G16), (23, mkF s23 G2023), (24, mkF s24 G24)]
noncomputable def lp4 : LpL := [(6, mkL l4_6 G4_6), (13, mkL l4_13 G4_13)]
noncomputable def sw4 : SwL := []
noncomputable def tab4 : Tab := mkTab sp4 lp4 sw4
end Go.Proofs.Ytipbcpobnciccaa
namespace Go.Proofs.Ytipbcpobnciccaa
open Go.Lite
set_option linter.unusedVariables false
set_option maxRecDepth 100000
theorem t4 (a : D) : fnT C tab4 4 s4 [a] =
  T.ite (decide ((a.L.length : Int) < (1 : Int))) (T.leaf [D.b true]) (T.ite (decide ((a.L.length : Int) > (5 : Int))) (T.leaf [D.b true]) (T.need (yes ((↑0 : Int) = (0 : Int) ∧ (0 : Int) = (0 : Int) ∧ (1 : Int) = (1 : Int) ∧ 1 ≤ a.L.length ∧ a.L.length ≤ 5)) (T.ite (allFrom (winT a.L) 0 a.L.length) (T.ite (decide ((↑(prodT a.L a.L.length) : Int) > (20000 : Int))) (T.need (decide (Int.toNat (a.L.length : Int) ≤ List.length (rowsT a.L a.L.length))) (T.ite (planB (1 : Int) (10 : Int) (List.take (Int.toNat (a.L.length : Int)) (rowsT a.L a.L.length))) (T.need (yes (fewC (List.take (Int.toNat (a.L.length : Int)) (rowsT a.L a.L.length)))) (T.ite (decide ((foundC (1 : Int) (10 : Int) (List.take (Int.toNat (a.L.length : Int)) (rowsT a.L a.L.length))).fst = (0 : Int))) (T.ite false (T.need (decide (Int.toNat (1 : Int) + Int.toNat (↑(List.length (List.take (Int.toNat (a.L.length : Int)) (rowsT a.L a.L.length)) + 1) : Int) ≤ List.length (rowP (1 : Int) (10 : Int) (List.take (Int.toNat (a.L.length : Int)) (rowsT a.L a.L.length)) (foundC (1 : Int) (10 : Int) (List.take (Int.toNat (a.L.length : Int)) (rowsT a.L a.L.length))).snd))) (T.need (decide (Int.toNat (↑(List.length (List.take (Int.toNat (a.L.length : Int)) (rowsT a.L a.L.length))) : Int) ≤ List.length (clR (1 : Int) (10 : Int) (List.take (Int.toNat (a.L.length : Int)) (rowsT a.L a.L.length)) (foundC (1 : Int) (10 : Int) (List.take (Int.toNat (a.L.length : Int)) (rowsT a.L a.L.length))).snd))) (T.need (decide (Int.toNat (↑(List.length (List.take (Int.toNat (a.L.length : Int)) (rowsT a.L a.L.length))) : Int) ≤ List.length (opR (1 : Int) (10 : Int) (List.take (Int.toNat (a.L.length : Int)) (rowsT a.L a.L.length)) (foundC (1 : Int) (10 : Int) (List.take (Int.toNat (a.L.length : Int)) (rowsT a.L a.L.length))).snd))) (T.need (decide (Int.toNat (↑(List.length (List.take (Int.toNat (a.L.length : Int)) (rowsT a.L a.L.length))) : Int) ≤ List.length (foundC (1 : Int) (10 : Int) (List.take (Int.toNat (a.L.length : Int)) (rowsT a.L a.L.length))).snd)) (T.need (yes (List.length (List.take (Int.toNat (↑(List.length (List.take (Int.toNat (a.L.length : Int)) (rowsT a.L a.L.length)) + 1) : Int)) (List.drop (Int.toNat (1 : Int)) (rowP (1 : Int) (10 : Int) (List.take (Int.toNat (a.L.length : Int)) (rowsT a.L a.L.length)) (foundC (1 : Int) (10 : Int) (List.take (Int.toNat (a.L.length : Int)) (rowsT a.L a.L.length))).snd))) ≤ 1000000000 ∧ List.length (List.take (Int.toNat (↑(List.length (List.take (Int.toNat (a.L.length : Int)) (rowsT a.L a.L.length))) : Int)) (clR (1 : Int) (10 : Int) (List.take (Int.toNat (a.L.length : Int)) (rowsT a.L a.L.length)) (foundC (1 : Int) (10 : Int) (List.take (Int.toNat (a.L.length : Int)) (rowsT a.L a.L.length))).snd)) ≤ 1000000000 ∧ List.length (List.take (Int.toNat (↑(List.length (List.take (Int.toNat (a.L.length : Int)) (rowsT a.L a.L.length))) : Int)) (opR (1 : Int) (10 : Int) (List.take (Int.toNat (a.L.length : Int)) (rowsT a.L a.L.length)) (foundC (1 : Int) (10 : Int) (List.take (Int.toNat (a.L.length : Int)) (rowsT a.L a.L.length))).snd)) ≤ 1000000000 ∧ List.length (List.take (Int.toNat (↑(List.length (List.take (Int.toNat (a.L.length : Int)) (rowsT a.L a.L.length))) : Int)) (foundC (1 : Int) (10 : Int) (List.take (Int.toNat (a.L.length : Int)) (rowsT a.L a.L.length))).snd) ≤ 1000000000)) (T.ite (decide (List.length (List.take (Int.toNat (↑(List.length (List.take (Int.toNat (a.L.length : Int)) (rowsT a.L a.L.length)) + 1) : Int)) (List.drop (Int.toNat (1 : Int)) (rowP (1 : Int) (10 : Int) (List.take (Int.toNat (a.L.length : Int)) (rowsT a.L a.L.length)) (foundC (1 : Int) (10 : Int) (List.take (Int.toNat (a.L.length : Int)) (rowsT a.L a.L.length))).snd))) + List.length (List.take (Int.toNat (↑(List.length (List.take (Int.toNat (a.L.length : Int)) (rowsT a.L a.L.length))) : Int)) (clR (1 : Int) (10 : Int) (List.take (Int.toNat (a.L.length : Int)) (rowsT a.L a.L.length)) (foundC (1 : Int) (10 : Int) (List.take (Int.toNat (a.L.length : Int)) (rowsT a.L a.L.length))).snd)) + List.length (List.take (Int.toNat (↑(List.length (List.take (Int.toNat (a.L.length : Int)) (rowsT a.L a.L.length))) : Int)) (opR (1 : Int) (10 : Int) (List.take (Int.toNat (a.L.length : Int)) (rowsT a.L a.L.length)) (foundC (1 : Int) (10 : Int) (List.take (Int.toNat (a.L.length : Int)) (rowsT a.L a.L.length))).snd)) + List.length (List.take (Int.toNat (↑(List.length (List.take (Int.toNat (a.L.length : Int)) (rowsT a.L a.L.length))) : Int)) (foundC (1 : Int) (10 : Int) (List.take (Int.toNat (a.L.length : Int)) (rowsT a.L a.L.length))).snd) = 0)) (T.leaf [D.b true]) (T.leaf [D.b false]))))))) (T.leaf [D.b false])) (T.ite (decide ((foundC (1 : Int) (10 : Int) (List.take (Int.toNat (a.L.length : Int)) (rowsT a.L a.L.length))).fst = (5 : Int))) (T.ite false (T.need (yes (List.length ([] : List (List D)) ≤ 1000000000 ∧ List.length ([] : List (List D)) ≤ 1000000000 ∧ List.length ([] : List (List D)) ≤ 1000000000 ∧ List.length ([] : List (List D)) ≤ 1000000000)) (T.ite true (T.leaf [D.b true]) (T.leaf [D.b false]))) (T.leaf [D.b false])) (T.ite true (T.need (yes (List.length ([] : List (List D)) ≤ 1000000000 ∧ List.length ([] : List (List D)) ≤ 1000000000 ∧ List.length ([] : List (List D)) ≤ 1000000000 ∧ List.length ([] : List (List D)) ≤ 1000000000)) (T.ite true (T.leaf [D.b true]) (T.leaf [D.b false]))) (T.leaf [D.b false]))))) (T.ite false (T.need (yes (List.length ([] : List (List D)) ≤ 1000000000 ∧ List.length ([] : List (List D)) ≤ 1000000000 ∧ List.length ([] : List (List D)) ≤ 1000000000 ∧ List.length ([] : List (List D)) ≤ 1000000000)) (T.ite true (T.leaf [D.b true]) (T.leaf [D.b false]))) (T.leaf [D.b false])))) (T.need (decide (Int.toNat (a.L.length : Int) ≤ List.length (rowsT a.L a.L.length))) (T.ite (planB (1 : Int) (10 : Int) (List.take (Int.toNat (a.L.length : Int)) (rowsT a.L a.L.length))) (T.need (yes (fewC (List.take (Int.toNat (a.L.length : Int)) (rowsT a.L a.L.length)))) (T.ite (decide ((foundC (1 : Int) (10 : Int) (List.take (Int.toNat (a.L.length : Int)) (rowsT a.L a.L.length))).fst = (0 : Int))) (T.ite false (T.need (decide (Int.toNat (1 : Int) + Int.toNat (↑(List.length (List.take (Int.toNat (a.L.length : Int)) (rowsT a.L a.L.length)) + 1) : Int) ≤ List.length (rowP (1 : Int) (10 : Int) (List.take (Int.toNat (a.L.length : Int)) (rowsT a.L a.L.length)) (foundC (1 : Int) (10 : Int) (List.take (Int.toNat (a.L.length : Int)) (rowsT a.L a.L.length))).snd))) (T.need (decide (Int.toNat (↑(List.length (List.take (Int.toNat (a.L.length : Int)) (rowsT a.L a.L.length))) : Int) ≤ List.length (clR (1 : Int) (10 : Int) (List.take (Int.toNat (a.L.length : Int)) (rowsT a.L a.L.length)) (foundC (1 : Int) (10 : Int) (List.take (Int.toNat (a.L.length : Int)) (rowsT a.L a.L.length))).snd))) (T.need (decide (Int.toNat (↑(List.length (List.take (Int.toNat (a.L.length : Int)) (rowsT a.L a.L.length))) : Int) ≤ List.length (opR (1 : Int) (10 : Int) (List.take (Int.toNat (a.L.length : Int)) (rowsT a.L a.L.length)) (foundC (1 : Int) (10 : Int) (List.take (Int.toNat (a.L.length : Int)) (rowsT a.L a.L.length))).snd))) (T.need (decide (Int.toNat (↑(List.length (List.take (Int.toNat (a.L.length : Int)) (rowsT a.L a.L.length))) : Int) ≤ List.length (foundC (1 : Int) (10 : Int) (List.take (Int.toNat (a.L.length : Int)) (rowsT a.L a.L.length))).snd)) (T.need (yes (List.length (List.take (Int.toNat (↑(List.length (List.take (Int.toNat (a.L.length : Int)) (rowsT a.L a.L.length)) + 1) : Int)) (List.drop (Int.toNat (1 : Int)) (rowP (1 : Int) (10 : Int) (List.take (Int.toNat (a.L.length : Int)) (rowsT a.L a.L.length)) (foundC (1 : Int) (10 : Int) (List.take (Int.toNat (a.L.length : Int)) (rowsT a.L a.L.length))).snd))) ≤ 1000000000 ∧ List.length (List.take (Int.toNat (↑(List.length (List.take (Int.toNat (a.L.length : Int)) (rowsT a.L a.L.length))) : Int)) (clR (1 : Int) (10 : Int) (List.take (Int.toNat (a.L.length : Int)) (rowsT a.L a.L.length)) (foundC (1 : Int) (10 : Int) (List.take (Int.toNat (a.L.length : Int)) (rowsT a.L a.L.length))).snd)) ≤ 1000000000 ∧ List.length (List.take (Int.toNat (↑(List.length (List.take (Int.toNat (a.L.length : Int)) (rowsT a.L a.L.length))) : Int)) (opR (1 : Int) (10 : Int) (List.take (Int.toNat (a.L.length : Int)) (rowsT a.L a.L.length)) (foundC (1 : Int) (10 : Int) (List.take (Int.toNat (a.L.length : Int)) (rowsT a.L a.L.length))).snd)) ≤ 1000000000 ∧ List.length (List.take (Int.toNat (↑(List.length (List.take (Int.toNat (a.L.length : Int)) (rowsT a.L a.L.length))) : Int)) (foundC (1 : Int) (10 : Int) (List.take (Int.toNat (a.L.length : Int)) (rowsT a.L a.L.length))).snd) ≤ 1000000000)) (T.ite (decide (List.length (List.take (Int.toNat (↑(List.length (List.take (Int.toNat (a.L.length : Int)) (rowsT a.L a.L.length)) + 1) : Int)) (List.drop (Int.toNat (1 : Int)) (rowP (1 : Int) (10 : Int) (List.take (Int.toNat (a.L.length : Int)) (rowsT a.L a.L.length)) (foundC (1 : Int) (10 : Int) (List.take (Int.toNat (a.L.length : Int)) (rowsT a.L a.L.length))).snd))) + List.length (List.take (Int.toNat (↑(List.length (List.take (Int.toNat (a.L.length : Int)) (rowsT a.L a.L.length))) : Int)) (clR (1 : Int) (10 : Int) (List.take (Int.toNat (a.L.length : Int)) (rowsT a.L a.L.length)) (foundC (1 : Int) (10 : Int) (List.take (Int.toNat (a.L.length : Int)) (rowsT a.L a.L.length))).snd)) + List.length (List.take (Int.toNat (↑(List.length (List.take (Int.toNat (a.L.length : Int)) (rowsT a.L a.L.length))) : Int)) (opR (1 : Int) (10 : Int) (List.take (Int.toNat (a.L.length : Int)) (rowsT a.L a.L.length)) (foundC (1 : Int) (10 : Int) (List.take (Int.toNat (a.L.length : Int)) (rowsT a.L a.L.length))).snd)) + List.length (List.take (Int.toNat (↑(List.length (List.take (Int.toNat (a.L.length : Int)) (rowsT a.L a.L.length))) : Int)) (foundC (1 : Int) (10 : Int) (List.take (Int.toNat (a.L.length : Int)) (rowsT a.L a.L.length))).snd) = 0)) (T.leaf [D.b true]) (T.leaf [D.b false]))))))) (T.leaf [D.b false])) (T.ite (decide ((foundC (1 : Int) (10 : Int) (List.take (Int.toNat (a.L.length : Int)) (rowsT a.L a.L.length))).fst = (5 : Int))) (T.ite true (T.need (yes (List.length ([] : List (List D)) ≤ 1000000000 ∧ List.length ([] : List (List D)) ≤ 1000000000 ∧ List.length ([] : List (List D)) ≤ 1000000000 ∧ List.length ([] : List (List D)) ≤ 1000000000)) (T.ite true (T.leaf [D.b true]) (T.leaf [D.b false]))) (T.leaf [D.b false])) (T.ite false (T.need (yes (List.length ([] : List (List D)) ≤ 1000000000 ∧ List.length ([] : List (List D)) ≤ 1000000000 ∧ List.length ([] : List (List D)) ≤ 1000000000 ∧ List.length ([] : List (List D)) ≤ 1000000000)) (T.ite true (T.leaf [D.b true]) (T.leaf [D.b false]))) (T.leaf [D.b false]))))) (T.ite false (T.need (yes (List.length ([] : List (List D)) ≤ 1000000000 ∧ List.length ([] : List (List D)) ≤ 1000000000 ∧ List.length ([] : List (List D)) ≤ 1000000000 ∧ List.length ([] : List (List D)) ≤ 1000000000)) (T.ite true (T.leaf [D.b true]) (T.leaf [D.b false]))) (T.leaf [D.b false]))))) (T.leaf [D.b true])))) := by kernel_rfl
theorem t4_6_0 (a b c d e : D) : roundT C tab4 4 (loopOf C.P 4 6) l4_6 [.i 0, a, b, c, d, e] =
  T.ite (decide (c.I < (a.L.length : Int))) (T.need (decide ((0 : Int) ≤ c.I ∧ c.I < (a.L.length : Int))) (T.ite (decide (D.I (List.getD (List.getD a.L c.I.toNat []) 0 default) < (1 : Int))) (T.leaf (Rd.out Ex.ret [D.b true])) (T.need (decide ((0 : Int) ≤ c.I ∧ c.I < (a.L.length : Int))) (T.ite (decide (D.I (List.getD (List.getD a.L c.I.toNat []) 0 default) > (10 : Int))) (T.leaf (Rd.out Ex.ret [D.b true])) (T.need (decide ((0 : Int) ≤ c.I ∧ c.I < (a.L.length : Int))) (T.need (yes ((↑0 : Int) = (0 : Int) ∧ (0 : Int) = (0 : Int) ∧ inT a.L c.I)) (T.need (decide (Int.toNat (rg a.L c.I.toNat) ≤ List.length (hrsT (Int.toNat (rg a.L c.I.toNat))))) (T.need true (T.ite false (T.leaf (Rd.again [D.i 0, D.l a.L, D.i (IntKind.wrap IntKind.i64 (b.I * D.I (List.getD (List.getD a.L c.I.toNat []) 0 default))), D.i (IntKind.wrap IntKind.i64 (c.I + (1 : Int))), D.i d.I, D.i e.I])) (T.need true (T.leaf (Rd.again [D.i 1, D.l a.L, D.i (IntKind.wrap IntKind.i64 (b.I * D.I (List.getD (List.getD a.L c.I.toNat []) 0 default))), D.i (IntKind.wrap IntKind.i64 (c.I + (1 : Int))), D.i d.I, D.i e.I, D.i 1, D.l [[D.i 10, D.i 0, D.i 0, D.i 1, D.b false, D.i 0, D.i 0, D.l (List.take (Int.toNat (rg a.L c.I.toNat)) (hrsT (Int.toNat (rg a.L c.I.toNat))))]]])))))))))))) (T.leaf (Rd.out (Ex.exit 0) [D.i 0, D.i b.I, D.i d.I, D.i e.I])) := by kernel_rfl
theorem t4_6_1 (a b c d e f g : D) : roundT C tab4 4 (loopOf C.P 4 6) l4_6 [.i 1, a, b, c, d, e, f, g] =
  T.ite (decide (c.I < (a.L.length : Int))) (T.need (decide ((0 : Int) ≤ c.I ∧ c.I < (a.L.length : Int))) (T.ite (decide (D.I (List.getD (List.getD a.L c.I.toNat []) 0 default) < (1 : Int))) (T.leaf (Rd.out Ex.ret [D.b true])) (T.need (decide ((0 : Int) ≤ c.I ∧ c.I < (a.L.length : Int))) (T.ite (decide (D.I (List.getD (List.getD a.L c.I.toNat []) 0 default) > (10 : Int))) (T.leaf (Rd.out Ex.ret [D.b true])) (T.need (decide ((0 : Int) ≤ c.I ∧ c.I < (a.L.length : Int))) (T.need (yes (inT a.L c.I ∧ ((↑(0 + 1 + 1) : Int) = (1 : Int) ∧ (1 : Int) ≤ (0 : Int) ∧ (0 : Int) ≤ rg a.L c.I.toNat ∧ (0 : Int) = (0 : Int) ∧ g.L = hrsT (Int.toNat (0 : Int)) ∨ (↑(0 + 1 + 1) : Int) = (2 : Int) ∧ (0 : Int) = (0 : Int) ∧ (f.I.toNat : Int) = (g.L.length : Int)))) (T.ite false (T.need (decide (Int.toNat (rg a.L c.I.toNat) ≤ List.length (hrsT (Int.toNat (rg a.L c.I.toNat))))) (T.need true (T.ite false (T.leaf (Rd.again [D.i 0, D.l a.L, D.i (IntKind.wrap IntKind.i64 (b.I * D.I (List.getD (List.getD a.L c.I.toNat []) 0 default))), D.i (IntKind.wrap IntKind.i64 (c.I + (1 : Int))), D.i d.I, D.i e.I])) (T.need true (T.leaf (Rd.again [D.i 1, D.l a.L, D.i (IntKind.wrap IntKind.i64 (b.I * D.I (List.getD (List.getD a.L c.I.toNat []) 0 default))), D.i (IntKind.wrap IntKind.i64 (c.I + (1 : Int))), D.i d.I, D.i e.I, D.i 1, D.l [[D.i (f.I.toNat : Int), D.i 10, D.i 0, D.i 0, D.b false, D.i 0, D.i 0, D.l (List.take (Int.toNat (rg a.L c.I.toNat)) (hrsT (Int.toNat (rg a.L c.I.toNat))))]]])))))) (T.need (decide (Int.toNat (rg a.L c.I.toNat) ≤ List.length (hrsT (Int.toNat (rg a.L c.I.toNat))))) (T.need true (T.ite false (T.leaf (Rd.again [D.i 1, D.l a.L, D.i (IntKind.wrap IntKind.i64 (b.I * D.I (List.getD (List.getD a.L c.I.toNat []) 0 default))), D.i (IntKind.wrap IntKind.i64 (c.I + (1 : Int))), D.i d.I, D.i e.I, D.i (↑(Int.toNat (g.L.length : Int)) : Int), D.l g.L])) (T.need (decide (Int.toNat (g.L.length : Int) ≤ g.L.length ∧ Int.toNat (g.L.length : Int) + 1 ≤ 2 ^ 62 ∧ (Int.toNat (g.L.length : Int) + 1) * Try.prog.types[41].bytes ≤ 2 ^ 47)) (T.leaf (Rd.again [D.i 1, D.l a.L, D.i (IntKind.wrap IntKind.i64 (b.I * D.I (List.getD (List.getD a.L c.I.toNat []) 0 default))), D.i (IntKind.wrap IntKind.i64 (c.I + (1 : Int))), D.i d.I, D.i e.I, D.i (↑(Int.toNat (g.L.length : Int) + 1) : Int), D.l (List.take (Int.toNat (g.L.length : Int)) g.L ++ List.take (List.length [[D.i 10, D.i 0, D.i 0, D.i 1, D.b false, D.i 0, D.i 0, D.l (List.take (Int.toNat (rg a.L c.I.toNat)) (hrsT (Int.toNat (rg a.L c.I.toNat))))]]) [[D.i 10, D.i 0, D.i 0, D.i 1, D.b false, D.i 0, D.i 0, D.l (List.take (Int.toNat (rg a.L c.I.toNat)) (hrsT (Int.toNat (rg a.L c.I.toNat))))]])]))))))))))))) (T.leaf (Rd.out (Ex.exit 0) [D.i 1, D.i b.I, D.i d.I, D.i e.I, D.i (f.I.toNat : Int), D.l g.L])) := by kernel_rfl
theorem t4_13_0 (a b c d e f g h i j k l m : D) : roundT C tab4 4 (loopOf C.P 4 13) l4_13 [.i 0, a, b, c, d, e, f, g, h, i, j, k, l, m] =
  T.need (decide ((0 : Int) ≤ c.I ∧ c.I < (a.L.length : Int))) (T.ite (decide (d.I < D.I (List.getD (List.getD a.L c.I.toNat []) 0 default))) (T.need true (T.ite false (T.leaf (Rd.again [D.i 0, D.l a.L, D.i b.I, D.i c.I, D.i (IntKind.wrap IntKind.i64 (d.I + (1 : Int))), D.i e.I, D.i f.I, D.i g.I, D.i h.I, D.i i.I, D.i j.I, D.b k.B, D.i l.I, D.i m.I])) (T.need true (T.leaf (Rd.again [D.i 1, D.l a.L, D.i b.I, D.i c.I, D.i (IntKind.wrap IntKind.i64 (d.I + (1 : Int))), D.i e.I, D.i f.I, D.i g.I, D.i h.I, D.i i.I, D.i j.I, D.b k.B, D.i l.I, D.i m.I, D.i 1, D.l [[D.i 0, D.i 100, D.i 5]]]))))) (T.leaf (Rd.out (Ex.exit 2) [D.i 0, D.l a.L, D.i b.I, D.i c.I, D.i e.I, D.i f.I, D.i g.I, D.i h.I, D.i i.I, D.i j.I, D.b k.B, D.i l.I, D.i m.I]))) := by kernel_rfl
theorem t4_13_1 (a b c d e f g h i j k l m n o : D) : roundT C tab4 4 (loopOf C.P 4 13) l4_13 [.i 1, a, b, c, d, e, f, g, h, i, j, k, l, m, n, o] =
  T.need (decide ((0 : Int) ≤ c.I ∧ c.I < (a.L.length : Int))) (T.ite (decide (d.I < D.I (List.getD (List.getD a.L c.I.toNat []) 0 default))) (T.need true (T.ite false (T.leaf (Rd.again [D.i 1, D.l a.L, D.i b.I, D.i c.I, D.i (IntKind.wrap IntKind.i64 (d.I + (1 : Int))), D.i e.I, D.i f.I, D.i g.I, D.i h.I, D.i i.I, D.i j.I, D.b k.B, D.i l.I, D.i m.I, D.i (n.I.toNat : Int), D.l o.L])) (T.need (decide (n.I.toNat ≤ o.L.length ∧ n.I.toNat + 1 ≤ 2 ^ 62 ∧ (n.I.toNat + 1) * Try.prog.types[43].bytes ≤ 2 ^ 47)) (T.leaf (Rd.again [D.i 1, D.l a.L, D.i b.I, D.i c.I, D.i (IntKind.wrap IntKind.i64 (d.I + (1 : Int))), D.i e.I, D.i f.I, D.i g.I, D.i h.I, D.i i.I, D.i j.I, D.b k.B, D.i l.I, D.i m.I, D.i (↑(n.I.toNat + 1) : Int), D.l (List.take n.I.toNat o.L ++ List.take (List.length [[D.i 0, D.i 100, D.i 5]]) [[D.i 0, D.i 100, D.i 5]])]))))) (T.leaf (Rd.out (Ex.exit 2) [D.i 1, D.l a.L, D.i b.I, D.i c.I, D.i e.I, D.i f.I, D.i g.I, D.i h.I, D.i i.I, D.i j.I, D.b k.B, D.i l.I, D.i m.I, D.i (n.I.toNat : Int), D.l o.L]))) := by kernel_rfl
theorem t4_13_2 (a b c d e f g h i j k l m n o : D) : roundT C tab4 4 (loopOf C.P 4 13) l4_13 [.i 2, a, b, c, d, e, f, g, h, i, j, k, l, m, n, o] =
  T.need (decide ((0 : Int) ≤ c.I ∧ c.I < (a.L.length : Int))) (T.ite (decide (d.I < D.I (List.getD (List.getD a.L c.I.toNat []) 0 default))) (T.need true (T.ite false (T.leaf (Rd.again [D.i 2, D.l a.L, D.i b.I, D.i c.I, D.i (IntKind.wrap IntKind.i64 (d.I + (1 : Int))), D.i e.I, D.i f.I, D.i (g.I.toNat : Int), D.i h.I, D.i i.I, D.i j.I, D.i k.I, D.b l.B, D.i m.I, D.i n.I, D.l o.L])) (T.need true (T.leaf (Rd.again [D.i 3, D.l a.L, D.i b.I, D.i c.I, D.i (IntKind.wrap IntKind.i64 (d.I + (1 : Int))), D.i e.I, D.i f.I, D.i (g.I.toNat : Int), D.i h.I, D.i i.I, D.i j.I, D.i k.I, D.b l.B, D.i m.I, D.i n.I, D.i 1, D.l o.L, D.l [[D.i 0, D.i 100, D.i 5]]]))))) (T.leaf (Rd.out (Ex.exit 2) [D.i 2, D.l a.L, D.i b.I, D.i c.I, D.i e.I, D.i f.I, D.i (g.I.toNat : Int), D.i h.I, D.i i.I, D.i j.I, D.i k.I, D.b l.B, D.i m.I, D.i n.I, D.l o.L]))) := by kernel_rfl
theorem t4_13_3 (a b c d e f g h i j k l m n o p q : D) : roundT C tab4 4 (loopOf C.P 4 13) l4_13 [.i 3, a, b, c, d, e, f, g, h, i, j, k, l, m, n, o, p, q] =
  T.need (decide ((0 : Int) ≤ c.I ∧ c.I < (a.L.length : Int))) (T.ite (decide (d.I < D.I (List.getD (List.getD a.L c.I.toNat []) 0 default))) (T.need true (T.ite false (T.leaf (Rd.again [D.i 3, D.l a.L, D.i b.I, D.i c.I, D.i (IntKind.wrap IntKind.i64 (d.I + (1 : Int))), D.i e.I, D.i f.I, D.i (g.I.toNat : Int), D.i h.I, D.i i.I, D.i j.I, D.i k.I, D.b l.B, D.i m.I, D.i n.I, D.i (o.I.toNat : Int), D.l p.L, D.l q.L])) (T.need (decide (o.I.toNat ≤ q.L.length ∧ o.I.toNat + 1 ≤ 2 ^ 62 ∧ (o.I.toNat + 1) * Try.prog.types[43].bytes ≤ 2 ^ 47)) (T.leaf (Rd.again [D.i 3, D.l a.L, D.i b.I, D.i c.I, D.i (IntKind.wrap IntKind.i64 (d.I + (1 : Int))), D.i e.I, D.i f.I, D.i (g.I.toNat : Int), D.i h.I, D.i i.I, D.i j.I, D.i k.I, D.b l.B, D.i m.I, D.i n.I, D.i (↑(o.I.toNat + 1) : Int), D.l p.L, D.l (List.take o.I.toNat q.L ++ List.take (List.length [[D.i 0, D.i 100, D.i 5]]) [[D.i 0, D.i 100, D.i 5]])]))))) (T.leaf (Rd.out (Ex.exit 2) [D.i 3, D.l a.L, D.i b.I, D.i c.I, D.i e.I, D.i f.I, D.i (g.I.toNat : Int), D.i h.I, D.i i.I, D.i j.I, D.i k.I, D.b l.B, D.i m.I, D.i n.I, D.i (o.I.toNat : Int), D.l p.L, D.l q.L]))) := by kernel_rfl
end Go.Proofs.Ytipbcpobnciccaa
