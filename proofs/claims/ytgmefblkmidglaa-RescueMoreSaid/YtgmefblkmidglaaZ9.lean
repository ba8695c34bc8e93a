/-
  What the claim rescue_more rests on, part 9.
-/
import Derived.Test.YtgmefblkmidglaaZ8
import Derived.Test.YtgmefblkmidglaaRows
namespace Go.Proofs.Ytgmefblkmidglaa
open Go.Lite Go.ChangeShapes Go.WideShapes Go.ChangeAt Go.RowKit
theorem kids : Kids Try.prog (· < Try.prog.types.size) := kids_rows (by kernel_rfl) (by kernel_rfl)
theorem full : ∀ t e, t < Try.prog.types.size → Try.prog.underlying t = some (.slice e) → 0 < Try.prog.cellsOf e := slices_full_of Try.prog (by kernel_rfl)
end Go.Proofs.Ytgmefblkmidglaa
namespace Go.Proofs.Ytgmefblkmidglaa
open Go.Lite Go.ChangeShapes Go.WideShapes Go.ChangeAt Go.RowKit
def rescueMoreLaw : Prop := ∀ xs : List AV, ArgsShape Try.prog 12 [24, 47, 48, 3, 60, 3] xs → ∃ n h', callA C n Unit none 8 xs [] () = some (.bool true, h', ())
theorem rescueMore_plain : ∀ t ∈ [24, 47, 48, 3, 60, 3], plainTy Try.prog 12 t = true := by
  intro t ht
  have h : [24, 47, 48, 3, 60, 3].all (plainTy Try.prog 12) = true := by kernel_rfl
  exact List.all_eq_true.1 h t ht
set_option maxRecDepth 100000 in
theorem rescueMore_lifted (law : rescueMoreLaw) (os : Os) (started : os.Started) (H : Type) (enc : TypeId × Value → H) :
    ReturnsInHanded {} Try.checked os 8 .any (Rows.rescueMoreSpec.pre6 enc Try.prog Try.f8 Rows.rescueMoreRow.domain false) (Rows.rescueMoreSpec.post enc Try.prog Try.f8 false true false false) := by
  refine returnsInHanded_of_change (C := Try.checked) own started (by kernel_rfl) Try.func8
    (ChangeSpec.witness6 (enc := enc) (C := Try.checked) false ⟨#[], #[.agg #[.int .i64 0, .slice none 0 0], .slice none 0 0, .slice none 0 0, .int .i64 0, .agg #[.int .i64 0, .int .i64 0, .int .i64 0, .int .i64 0], .int .i64 0], []⟩ 8 (by kernel_rfl) (by kernel_rfl) (by kernel_rfl) (by kernel_rfl)) ?_
  intro W base args ds gs before hval0 hW hcnd _
  have hval : ∀ (j : Nat) t v, Try.f8.params[j]? = some t → args[j]? = some v → Value.okWide Try.prog W .any base t v := hval0
  have hW' := hW
  obtain ⟨p, q, hA0, hV, rfl, hfz, hnd⟩ := hW
  have hA : DataW.TrodAll enc Try.prog W 0 (fun _ => true) true Try.f8.params.toList args.toList ds p := hA0
  have hAk := hA
  rw [Try.params8] at hA hval
  obtain ⟨xs, hs, hr⟩ := args_shape (J := fun _ => False) (d := 12) (fun t ht => rescueMore_plain t (by simpa using ht)) (fun j t v h1 h2 => hval j t v (by simpa using h1) (by simpa using h2)) hA
  obtain ⟨n, h', hc⟩ := law xs hs
  obtain ⟨v0, vs0, d0, ds0, p0, q0, hargs, rfl, rfl, h0, r0⟩ := trodAll_cons hA
  obtain ⟨v1, vs1, d1, ds1, p1, q1, rfl, rfl, rfl, h1, r1⟩ := trodAll_cons r0
  obtain ⟨v2, vs2, d2, ds2, p2, q2, rfl, rfl, rfl, h2, r2⟩ := trodAll_cons r1
  obtain ⟨v3, vs3, d3, ds3, p3, q3, rfl, rfl, rfl, h3, r3⟩ := trodAll_cons r2
  obtain ⟨v4, vs4, d4, ds4, p4, q4, rfl, rfl, rfl, h4, r4⟩ := trodAll_cons r3
  obtain ⟨v5, vs5, d5, ds5, p5, q5, rfl, rfl, rfl, h5, r5⟩ := trodAll_cons r4
  obtain ⟨rfl, rfl, rfl⟩ := trodAll_nil r5
  obtain rfl : args = #[v0, v1, v2, v3, v4, v5] := by cases args; simp_all
  obtain ⟨rfl, rfl⟩ := trodVars_none hV
  clear hA0 hval0
  simp only [List.append_nil] at hW'
  refine (law_calls (callsOk n) hc hr).mono fun e W' ⟨he, h1, h2, hk⟩ => ?_
  subst he
  have hlt : ∀ x ∈ p0 ++ p1 ++ p2 ++ p3 ++ p4 ++ p5, x.block < W.heap.size := fun x hx => hW'.lt x (by simpa [List.append_assoc] using hx)
  exact ⟨_, rfl, post_of_kept (pa := p0 ++ p1 ++ p2 ++ p3 ++ p4 ++ p5) (pv := []) hW' (fun _ _ _ => trodAll_mk1 (shut_bool Try.underlying4 _))
    (fun sp hsp => trodAll_carry (DataW.TrodAll.respare kids full (by rw [Try.params8]; decide) (by simpa [List.append_assoc, Rows.rescueMoreSpec] using hAk) (fun x hx => hsp x (by simpa [List.append_assoc] using hx))) (fun x hx => sameAt_of (hk _ (hlt x hx))))
    (fun _ _ => rfl) (by simp [List.append_assoc]) h1 h2 hk (ok_one (by kernel_rfl) rfl (okWide_bool_mk Try.underlying4 _))⟩
theorem rescueMore_over (law : rescueMoreLaw) : Rows.RescueMoreSaid :=
  OpenClaim.holds_of_wide 8 Try.f8 rfl rfl rfl rfl rfl rfl rfl ⟨rfl, rfl, rfl, rfl, rfl⟩ rfl rfl rfl rfl rfl (by kernel_rfl) Try.func8 (by kernel_rfl)
    (of_decide_eq_true (by kernel_rfl)) (by unfold Func.isWrapper; first | (rw [if_pos (by decide +kernel)]; kernel_rfl) | (rw [if_neg (by decide +kernel)]; exact ⟨rfl, rfl⟩))
    (fun os started H enc _ => rescueMore_lifted law os started H enc)
end Go.Proofs.Ytgmefblkmidglaa
namespace Go.Proofs.Ytgmefblkmidglaa
open Go.Lite
set_option maxRecDepth 100000
theorem take_app {α : Type} (a b : List α) : List.take (a.length + b.length) (a ++ b) = a ++ b := List.take_of_length_le (by simp)
theorem str_full (a : Int) (v : List (List D)) : strF a v 0 v.length [] = strL a v := by
  rw [str_all a v v.length 0 [] (by omega)]
  rfl
structure MoreOK (a e : Int) (b c d w g h : List (List D)) : Prop where
  c1 : coverB a b c 60 d e = true
  c2 : coverB a b w 60 d e = true
  t1 : tidyB g d.length e = true
  t2 : tidyB h d.length e = true
  i1 : allFrom (insB g h) 0 h.length = true
  z1 : allFrom (zonQ g c d e) 0 d.length = true
  l1 : g.length ≤ 10000000
  l2 : h.length ≤ 10000000
theorem more_ok {a e j : Int} {b c d : List (List D)} {m : List D} (hN : netB a b = true) (hc : c.length ≤ 10) (hd : d.length ≤ 5) (hv : vehs a (c ++ [m]) = true) (hz : zons a d = true) (he0 : 0 ≤ e) (he1 : e ≤ 2000) (hj : 0 ≤ j ∧ j ≤ 65535) :
    MoreOK a e b c d (strL j c ++ [m]) (gapsA a b c d e) (gapsA a b (strL j c ++ [m]) d e) := by
  obtain ⟨hv1, hv2⟩ := str_vehs hv hj
  have hl : (strL j c ++ [m]).length = c.length + 1 := by simp [strL]
  have c1 : coverB a b c 60 d e = true := by
    unfold coverB
    rw [hN, hv1, hz, decide_eq_true (by omega)]
    rfl
  have c2 : coverB a b (strL j c ++ [m]) 60 d e = true := by
    unfold coverB
    rw [hN, hv2, hz, decide_eq_true (by omega)]
    rfl
  have hG := cover_parts (by omega) c1
  have hG' := cover_parts (by omega) c2
  exact ⟨c1, c2, tidy_of (gaps_of hG), tidy_of (gaps_of hG'), ins_all hG hG' fun i hi u _ _ h => str_secs hv1 (zon_of hz hi) hj h, zon_all hG, gaps_len hG, gaps_len hG'⟩
theorem law8 (a b c d e f g h i j : D) : (fnT C (mkTab sp8 lp8 sw8) 8 s8 [a, b, c, d, e, f, g, h, i, j]).run = some [D.b true] := by
  have hb := big_eq
  refine (t8 a b c d e f g h i j).trans ?_
  simp only [List.take_length, Int.toNat_natCast, Int.toNat_zero, Nat.sub_zero, str_full, take_app, bytes60]
  refine go_not (fun _ => rfl) fun h1 => go_if (fun _ => rfl) fun h2 => go_if (fun _ => rfl) fun h3 => go_not (fun _ => rfl) fun hN => ?_
  obtain ⟨p1, p2, p3⟩ := net_parts hN
  have hf : fewVZ c.L d.L := ⟨by omega, by omega⟩
  generalize hm : [D.i f.I, D.i g.I, D.i h.I, D.i i.I] = m
  have hl1 : ∀ x : List D, [x].length = 1 := fun _ => rfl
  refine go_ite (fun hc => ?_) fun hc => ?_
  · have hc : c.L = [] := by simpa using hc
    have hc0 : c.L.length = 0 := by rw [hc]; rfl
    refine go_yes ⟨p1, by rw [hl1]; omega⟩ (go_not (fun _ => rfl) fun hv => go_yes ⟨p1, by omega⟩ (go_not (fun _ => rfl) fun hz => go_if (fun _ => rfl) fun e1 => go_if (fun _ => rfl) fun e2 => go_if (fun _ => rfl) fun e3 => go_if (fun _ => rfl) fun e4 => ?_))
    rw [Bool.and_eq_true] at hz
    have hX : strL j.I c.L ++ [m] = [m] := by rw [hc]; rfl
    have M := more_ok (j := j.I) (m := m) hN hf.1 hf.2 (by rw [hc]; exact hv) hz.1 (by omega) (by omega : e.I ≤ 2000) ⟨by omega, by omega⟩
    rw [hX] at M
    generalize gapsA a.I b.L c.L d.L e.I = G at M ⊢
    generalize gapsA a.I b.L [m] d.L e.I = H at M ⊢
    obtain ⟨c1, c2, t1, t2, i1, z1, l1, l2⟩ := M
    have he : 0 ≤ e.I := by omega
    refine go_yes c1 (go_ite (fun g0 => ?_) fun g0 => ?_)
    · have g0 : G = [] := by simpa using g0
      subst g0
      refine go_yes ⟨by first | trivial | rfl, by omega, by first | trivial | rfl⟩ (go_pos hc0 (go_yes c2 (go_ite (fun h0 => ?_) fun h0 => ?_)))
      · exact go_yes (by simp; omega) (go_yes (by simp; omega) (go_yes (by simp) (go_yes ⟨by first | trivial | rfl, hf, he, by first | trivial | omega, by omega⟩ (go_true z1 rfl))))
      · exact go_yes (by simp; omega) (go_dec (by first | trivial | omega) (go_yes (by omega) (go_notT t2 (go_yes ⟨by first | trivial | rfl, by omega, by first | trivial | omega, by omega⟩ (go_true i1 (go_yes ⟨by first | trivial | rfl, hf, he, by first | trivial | omega, by omega⟩ (go_true z1 rfl)))))))
    · refine go_yes ⟨by omega, by first | trivial | rfl, by first | trivial | rfl⟩ (go_pos hc0 (go_yes c2 (go_ite (fun h0 => ?_) fun h0 => ?_)))
      · exact go_dec (by first | trivial | omega) (go_yes (by omega) (go_notT t1 (go_yes (by simp; omega) (go_yes (by simp) (go_yes ⟨by first | trivial | rfl, by first | trivial | rfl, by omega, hf, he, by first | trivial | omega, by omega⟩ (go_true z1 rfl))))))
      · exact go_dec (by first | trivial | omega) (go_yes (by omega) (go_notT t1 (go_dec (by first | trivial | omega) (go_yes (by omega) (go_notT t2 (go_yes ⟨by first | trivial | rfl, by first | trivial | rfl, by first | trivial | rfl, by omega, by omega, by first | trivial | omega, by omega⟩ (go_true i1 (go_yes ⟨by first | trivial | rfl, by first | trivial | rfl, by omega, hf, he, by first | trivial | omega, by omega⟩ (go_true z1 rfl)))))))))
  · have hc0 : ¬ c.L.length = 0 := fun h => by
      have : c.L = [] := List.length_eq_zero_iff.1 h
      rw [this] at hc
      cases hc
    have hsl : (strL j.I c.L).length = c.L.length := by simp [strL]
    simp only [hl1, List.length_append, hsl]
    refine go_dec (by omega) (go_dec (by omega) (go_dec (by omega) (go_yes ⟨p1, by omega⟩ (go_not (fun _ => rfl) fun hv => go_yes ⟨p1, by omega⟩ (go_not (fun _ => rfl) fun hz => go_if (fun _ => rfl) fun e1 => go_if (fun _ => rfl) fun e2 => go_if (fun _ => rfl) fun e3 => go_if (fun _ => rfl) fun e4 => ?_)))))
    rw [Bool.and_eq_true] at hz
    have M := more_ok (j := j.I) (m := m) hN hf.1 hf.2 hv hz.1 (by omega) (by omega : e.I ≤ 2000) ⟨by omega, by omega⟩
    generalize gapsA a.I b.L c.L d.L e.I = G at M ⊢
    obtain ⟨c1, c2, t1, t2, i1, z1, l1, l2⟩ := M
    have he : 0 ≤ e.I := by omega
    refine go_yes c1 (go_ite (fun g0 => ?_) fun g0 => ?_)
    · have g0 : G = [] := by simpa using g0
      subst g0
      refine go_yes ⟨by first | trivial | rfl, by omega, by first | trivial | rfl⟩ (go_neg hc0 (go_dec (by omega) (go_dec (by omega) (go_yes c2 ?_))))
      generalize gapsA a.I b.L (strL j.I c.L ++ [m]) d.L e.I = H at t2 i1 l2 ⊢
      refine go_ite (fun h0 => ?_) fun h0 => ?_
      · exact go_yes (by simp; omega) (go_yes (by simp; omega) (go_yes (by simp) (go_yes ⟨by first | trivial | rfl, hf, he, by first | trivial | omega, by omega⟩ (go_true z1 rfl))))
      · exact go_yes (by simp; omega) (go_dec (by first | trivial | omega) (go_yes (by omega) (go_notT t2 (go_yes ⟨by first | trivial | rfl, by omega, by first | trivial | omega, by omega⟩ (go_true i1 (go_yes ⟨by first | trivial | rfl, hf, he, by first | trivial | omega, by omega⟩ (go_true z1 rfl)))))))
    · refine go_yes ⟨by omega, by first | trivial | rfl, by first | trivial | rfl⟩ (go_neg hc0 (go_dec (by omega) (go_dec (by omega) (go_yes c2 ?_))))
      generalize gapsA a.I b.L (strL j.I c.L ++ [m]) d.L e.I = H at t2 i1 l2 ⊢
      refine go_ite (fun h0 => ?_) fun h0 => ?_
      · exact go_dec (by first | trivial | omega) (go_yes (by omega) (go_notT t1 (go_yes (by simp; omega) (go_yes (by simp) (go_yes ⟨by first | trivial | rfl, by first | trivial | rfl, by omega, hf, he, by first | trivial | omega, by omega⟩ (go_true z1 rfl))))))
      · exact go_dec (by first | trivial | omega) (go_yes (by omega) (go_notT t1 (go_dec (by first | trivial | omega) (go_yes (by omega) (go_notT t2 (go_yes ⟨by first | trivial | rfl, by first | trivial | rfl, by first | trivial | rfl, by omega, by omega, by first | trivial | omega, by omega⟩ (go_true i1 (go_yes ⟨by first | trivial | rfl, by first | trivial | rfl, by omega, hf, he, by first | trivial | omega, by omega⟩ (go_true z1 rfl)))))))))
theorem rescueMore_law : rescueMoreLaw := fun xs hx =>
  law_true_wfW hC (sp := sp8) (lp := lp8) (sw := sw8) (n := 12) all8 trivial (by kernel_rfl) [6, 15, 25] (by kernel_rfl) (by kernel_rfl) (fun k hk L hL => by
      simp at hk
      rcases hk with rfl | rfl | rfl
      · cases hL; exact ok8_6
      · cases hL; exact ok8_15
      · cases hL; exact ok8_25)
    (ts := [24, 47, 48, 3, 60, 3]) (ks := s8.args) (by kernel_rfl) (of_decide_eq_true (by kernel_rfl)) (m := 10) (by kernel_rfl) (fun ds hl _ => by
      match ds, hl with
      | [a, b, c, d, e, f, g, h, i, j], _ => exact law8 a b c d e f g h i j) 12 xs hx
theorem rescue_more : Rows.RescueMoreSaid := rescueMore_over rescueMore_law
end Go.Proofs.Ytgmefblkmidglaa
