/-
  Shapes of arguments, results and loops. Written by program.
  What the loop of the statement about timetables and proofs comes to.
  Tables. Written by program.
  What the rounds and the functions come to. Written by program.
  The statement of TimetableKeeps follows once the law is reckoned to be true for arguments of the right shapes.
  The law of timetables and proofs holds for every input.
-/
import Derived.Test.YtipbcpobnciccaaTimGD
import Derived.Test.YtipbcpobnciccaaOver
import Derived.Test.YtipbcpobnciccaaKnown
namespace Go.Proofs.Ytipbcpobnciccaa
open Go.Lite
def s6 : Sig := ⟨[.k (.int .i64), .k (.ro [.int .i64, .int .i64, .int .i64])], [(.k .bool, [])]⟩
def s7 : Sig := ⟨[.k (.int .i64), .k (.ro [.int .i64, .int .i64, .int .i64]), .k (.ro [.int .i64]), .k (.ro [.int .i64])], [(.k .bool, [])]⟩
def l7_8 : LSig := mkLS [0, 1, 2, 3, 9, 10, 11] [(77, [(0, .k (.int .i64)), (1, .k (.ro [.int .i64, .int .i64, .int .i64])), (2, .k (.ro [.int .i64])), (3, .k (.ro [.int .i64])), (9, .k .bool), (10, .k .bool), (11, .k (.int .i64))], [])] [(.ret, [8], [(77, [(8, .k .bool)], [])]), (.exit 0, [0, 1, 2, 3, 9, 10], [(77, [(0, .k (.int .i64)), (1, .k (.ro [.int .i64, .int .i64, .int .i64])), (2, .k (.ro [.int .i64])), (3, .k (.ro [.int .i64])), (9, .k .bool), (10, .k .bool)], [])])]
end Go.Proofs.Ytipbcpobnciccaa

namespace Go.Proofs.Ytipbcpobnciccaa
open Go.Lite
def s16 : Sig := ⟨[], [(.k .bool, [])]⟩
noncomputable section
def G7_8 (ds : List D) : T (Ex × List D) := match ds with
  | [n, l, t, c, k, p, i] => .need (yes (t.L.length ≤ 60 ∧ 0 ≤ i.I ∧ i.I ≤ t.L.length))
      (.ite (allFrom (fun j => decide (rg t.L j ≤ 1099511627776)) i.I.toNat (t.L.length - i.I.toNat)) (.leaf (.exit 0, [.i n.I, .l l.L, .l t.L, .l c.L, .b k.B, .b p.B])) (.leaf (.ret, [.b true])))
  | _ => .fail
end
end Go.Proofs.Ytipbcpobnciccaa

namespace Go.Proofs.Ytipbcpobnciccaa
open Go.Lite
noncomputable def sp6 : SpL := [(15, mkF s15 G15), (16, mkF s16 G16), (28, mkF s28 G28), (18, mkF s18 G18), (19, mkF s19 G19), (29, mkF s29 G29), (30, mkF s30 G30), (21, mkF s21 G21), (31, mkF s31 G31)]
noncomputable def lp6 : LpL := []
noncomputable def sw6 : SwL := []
noncomputable def tab6 : Tab := mkTab sp6 lp6 sw6
noncomputable def sp7 : SpL := [(15, mkF s15 G15), (16, mkF s16 G16), (31, mkF s31 G31), (30, mkF s30 G30), (18, mkF s18 G18), (32, mkF s32 G32), (29, mkF s29 G29)]
noncomputable def lp7 : LpL := [(8, mkL l7_8 G7_8)]
noncomputable def sw7 : SwL := []
noncomputable def tab7 : Tab := mkTab sp7 lp7 sw7
end Go.Proofs.Ytipbcpobnciccaa

namespace Go.Proofs.Ytipbcpobnciccaa
open Go.Lite
set_option linter.unusedVariables false
set_option maxRecDepth 100000
theorem t6 (a b : D) : fnT C tab6 6 s6 [a, b] =
  T.ite (!fewB (D.I a) (D.L b)) (T.leaf [D.b true]) (T.need (yes (List.length (D.L b) < big)) (T.ite (netOk (D.I a) (D.L b)) (T.ite (decide ((pushR (D.I a) (allL (D.I a) (D.L b)) (zeros (D.I a))).snd.snd < (0 : Int))) (T.need (yes (List.length (D.L b) < big)) (T.ite (!netOk (D.I a) (D.L b)) (T.ite false (T.ite (IntKind.wrap IntKind.i64 ((↑(Int.toNat (D.I a)) : Int) + (↑0 : Int)) == (0 : Int)) (T.leaf [D.b true]) (T.leaf [D.b false])) (T.leaf [D.b false])) (T.need (yes (netP (D.I a) (D.L b))) (T.ite (!refOk (D.I a) (D.L b) (zeros (D.I a))) (T.ite false (T.ite ((↑(Int.toNat (D.I a)) : Int) == (0 : Int)) (T.need (yes (netP (D.I a) (D.L b))) (T.ite false (T.need (yes (List.length (D.L b) < big)) (T.ite (netOk (D.I a) (D.L b) && provesB (D.I a) (allL (D.I a) (D.L b)) []) (T.leaf [D.b true]) (T.leaf [D.b false]))) (T.leaf [D.b false]))) (T.leaf [D.b false])) (T.leaf [D.b false])) (T.ite true (T.ite true (T.need (decide (Int.toNat (D.I a) ≤ List.length (pushR (D.I a) (allL (D.I a) (D.L b)) (zeros (D.I a))).fst)) (T.need (decide (Int.toNat (D.I a) ≤ List.length (refR (D.I a) (D.L b) (zeros (D.I a))).fst)) (T.need (yes (List.length (List.take (Int.toNat (D.I a)) (pushR (D.I a) (allL (D.I a) (D.L b)) (zeros (D.I a))).fst) < big)) (T.ite (sameR (List.take (Int.toNat (D.I a)) (pushR (D.I a) (allL (D.I a) (D.L b)) (zeros (D.I a))).fst) (List.take (Int.toNat (D.I a)) (refR (D.I a) (D.L b) (zeros (D.I a))).fst)) (T.need (decide (Int.toNat (D.I a) ≤ List.length (pushR (D.I a) (allL (D.I a) (D.L b)) (zeros (D.I a))).fst)) (T.need (yes (List.length (D.L b) < big ∧ List.length (List.take (Int.toNat (D.I a)) (pushR (D.I a) (allL (D.I a) (D.L b)) (zeros (D.I a))).fst) < big ∧ ∀ (j : Nat), rg (List.take (Int.toNat (D.I a)) (pushR (D.I a) (allL (D.I a) (D.L b)) (zeros (D.I a))).fst) j < (9223372036854775808 : Int))) (T.ite (netOk (D.I a) (D.L b) && keepsB (D.I a) (D.L b) (List.take (Int.toNat (D.I a)) (pushR (D.I a) (allL (D.I a) (D.L b)) (zeros (D.I a))).fst)) (T.leaf [D.b true]) (T.leaf [D.b false])))) (T.leaf [D.b false]))))) (T.leaf [D.b false])) (T.leaf [D.b false])))))) (T.need (yes (List.length (D.L b) < big)) (T.ite (!netOk (D.I a) (D.L b)) (T.ite false (T.ite (IntKind.wrap IntKind.i64 ((↑0 : Int) + (↑(Int.toNat (↑(List.length (proofR (D.I a) (allL (D.I a) (D.L b)))) : Int)) : Int)) == (0 : Int)) (T.leaf [D.b true]) (T.leaf [D.b false])) (T.leaf [D.b false])) (T.need (yes (netP (D.I a) (D.L b))) (T.ite (!refOk (D.I a) (D.L b) (zeros (D.I a))) (T.ite true (T.ite true (T.need (decide (Int.toNat (↑(List.length (proofR (D.I a) (allL (D.I a) (D.L b)))) : Int) ≤ List.length (proofR (D.I a) (allL (D.I a) (D.L b))))) (T.need (yes (netP (D.I a) (D.L b))) (T.ite (provesB (D.I a) (allL (D.I a) (D.L b)) (List.take (Int.toNat (↑(List.length (proofR (D.I a) (allL (D.I a) (D.L b)))) : Int)) (proofR (D.I a) (allL (D.I a) (D.L b))))) (T.need (decide (Int.toNat (↑(List.length (proofR (D.I a) (allL (D.I a) (D.L b)))) : Int) ≤ List.length (proofR (D.I a) (allL (D.I a) (D.L b))))) (T.need (yes (List.length (D.L b) < big)) (T.ite (netOk (D.I a) (D.L b) && provesB (D.I a) (allL (D.I a) (D.L b)) (List.take (Int.toNat (↑(List.length (proofR (D.I a) (allL (D.I a) (D.L b)))) : Int)) (proofR (D.I a) (allL (D.I a) (D.L b))))) (T.leaf [D.b true]) (T.leaf [D.b false])))) (T.leaf [D.b false])))) (T.leaf [D.b false])) (T.leaf [D.b false])) (T.ite false (T.ite ((↑(Int.toNat (↑(List.length (proofR (D.I a) (allL (D.I a) (D.L b)))) : Int)) : Int) == (0 : Int)) (T.need (decide (Int.toNat (D.I a) ≤ List.length (refR (D.I a) (D.L b) (zeros (D.I a))).fst)) (T.need (yes (List.length ([] : List (List D)) < big)) (T.ite (sameR [] (List.take (Int.toNat (D.I a)) (refR (D.I a) (D.L b) (zeros (D.I a))).fst)) (T.need (yes (List.length (D.L b) < big ∧ List.length ([] : List (List D)) < big ∧ ∀ (j : Nat), rg [] j < (9223372036854775808 : Int))) (T.ite (netOk (D.I a) (D.L b) && keepsB (D.I a) (D.L b) []) (T.leaf [D.b true]) (T.leaf [D.b false]))) (T.leaf [D.b false])))) (T.leaf [D.b false])) (T.leaf [D.b false]))))))) (T.need (yes (List.length (D.L b) < big)) (T.ite (!netOk (D.I a) (D.L b)) (T.ite true (T.ite true (T.leaf [D.b true]) (T.leaf [D.b false])) (T.leaf [D.b false])) (T.need (yes (netP (D.I a) (D.L b))) (T.ite (!refOk (D.I a) (D.L b) (zeros (D.I a))) (T.ite false (T.ite true (T.need (yes (netP (D.I a) (D.L b))) (T.ite false (T.need (yes (List.length (D.L b) < big)) (T.ite (netOk (D.I a) (D.L b) && provesB (D.I a) (allL (D.I a) (D.L b)) []) (T.leaf [D.b true]) (T.leaf [D.b false]))) (T.leaf [D.b false]))) (T.leaf [D.b false])) (T.leaf [D.b false])) (T.ite false (T.ite true (T.need (decide (Int.toNat (D.I a) ≤ List.length (refR (D.I a) (D.L b) (zeros (D.I a))).fst)) (T.need (yes (List.length ([] : List (List D)) < big)) (T.ite (sameR [] (List.take (Int.toNat (D.I a)) (refR (D.I a) (D.L b) (zeros (D.I a))).fst)) (T.need (yes (List.length (D.L b) < big ∧ List.length ([] : List (List D)) < big ∧ ∀ (j : Nat), rg [] j < (9223372036854775808 : Int))) (T.ite (netOk (D.I a) (D.L b) && keepsB (D.I a) (D.L b) []) (T.leaf [D.b true]) (T.leaf [D.b false]))) (T.leaf [D.b false])))) (T.leaf [D.b false])) (T.leaf [D.b false])))))))) := by kernel_rfl
theorem t7 (a b c d : D) : fnT C tab7 7 s7 [a, b, c, d] =
  T.ite (!fewB (D.I a) (D.L b)) (T.leaf [D.b true]) (T.ite (decide ((↑(List.length (D.L c)) : Int) > (60 : Int))) (T.leaf [D.b true]) (T.ite (decide ((↑(List.length (D.L d)) : Int) > (60 : Int))) (T.leaf [D.b true]) (T.need (yes (List.length (D.L b) < big ∧ List.length (D.L c) < big ∧ ∀ (j : Nat), rg (D.L c) j < (9223372036854775808 : Int))) (T.need (yes (List.length (D.L b) < big)) (T.need (yes (List.length (D.L b) < big)) (T.ite (!netOk (D.I a) (D.L b)) (T.ite (!(netOk (D.I a) (D.L b) && keepsB (D.I a) (D.L b) (D.L c))) (T.ite (!(netOk (D.I a) (D.L b) && provesB (D.I a) (allL (D.I a) (D.L b)) (D.L d))) (T.leaf [D.b true]) (T.leaf [D.b false])) (T.leaf [D.b false])) (T.need (yes (List.length (D.L c) ≤ 60 ∧ (0 : Int) ≤ (0 : Int) ∧ (0 : Int) ≤ (↑(List.length (D.L c)) : Int))) (T.ite (allFrom (fun j => decide (rg (D.L c) j ≤ (1099511627776 : Int))) (Int.toNat (0 : Int)) (List.length (D.L c) - Int.toNat (0 : Int))) (T.need (yes (netP (D.I a) (D.L b))) (T.ite ((netOk (D.I a) (D.L b) && keepsB (D.I a) (D.L b) (D.L c)) == keepsR (D.I a) (D.L b) (D.L c)) (T.need (yes (netP (D.I a) (D.L b))) (T.ite ((netOk (D.I a) (D.L b) && provesB (D.I a) (allL (D.I a) (D.L b)) (D.L d)) == provesB (D.I a) (allL (D.I a) (D.L b)) (D.L d)) (T.leaf [D.b true]) (T.leaf [D.b false]))) (T.leaf [D.b false]))) (T.leaf [D.b true]))))))))) := by kernel_rfl
theorem t7_8 (a b c d e f g : D) : roundT C tab7 7 (loopOf C.P 7 8) l7_8 [a, b, c, d, e, f, g] =
  T.ite (decide (D.I g < (↑(List.length (D.L c)) : Int))) (T.need (decide ((0 : Int) ≤ D.I g ∧ D.I g < (↑(List.length (D.L c)) : Int))) (T.ite (decide (D.I (List.getD (List.getD (D.L c) (Int.toNat (D.I g)) []) 0 default) > (1099511627776 : Int))) (T.leaf (Rd.out Ex.ret [D.b true])) (T.leaf (Rd.again [D.i (D.I a), D.l (D.L b), D.l (D.L c), D.l (D.L d), D.b (D.B e), D.b (D.B f), D.i (IntKind.wrap IntKind.i64 (D.I g + (1 : Int)))])))) (T.leaf (Rd.out (Ex.exit 0) [D.i (D.I a), D.l (D.L b), D.l (D.L c), D.l (D.L d), D.b (D.B e), D.b (D.B f)])) := by kernel_rfl
end Go.Proofs.Ytipbcpobnciccaa

namespace Go.Proofs.Ytipbcpobnciccaa
open Go.Lite Go.ChangeShapes Go.WideShapes Go.ChangeAt Go.RowKit

def timetableKeepsLaw : Prop := ∀ xs : List AV, ArgsShape Try.prog 12 [3, 22, 25, 25] xs → ∃ n h', callA C n Unit none 7 xs [] () = some (.bool true, h', ())
theorem timetableKeeps_plain : ∀ t ∈ [3, 22, 25, 25], plainTy Try.prog 12 t = true := by
  intro t ht
  have h : [3, 22, 25, 25].all (plainTy Try.prog 12) = true := by kernel_rfl
  exact List.all_eq_true.1 h t ht
set_option maxRecDepth 100000 in
theorem timetableKeeps_lifted (law : timetableKeepsLaw) (os : Os) (started : os.Started) (H : Type) (enc : TypeId × Value → H) :
    ReturnsInHanded {} Try.checked os 7 .any (Rows.timetableKeepsSpec.pre6 enc Try.prog Try.f7 Rows.timetableKeepsRow.domain false) (Rows.timetableKeepsSpec.post enc Try.prog Try.f7 false true false false) := by
  refine returnsInHanded_of_change (C := Try.checked) own started (by kernel_rfl) Try.func7
    (ChangeSpec.witness6 (enc := enc) (C := Try.checked) false ⟨#[], #[.int .i64 0, .slice none 0 0, .slice none 0 0, .slice none 0 0], []⟩ 8 (by kernel_rfl) (by kernel_rfl) (by kernel_rfl) (by kernel_rfl)) ?_
  intro W base args ds gs before hval0 hW hcnd _
  have hval : ∀ (j : Nat) t v, Try.f7.params[j]? = some t → args[j]? = some v → Value.okWide Try.prog W .any base t v := hval0
  have hW' := hW
  obtain ⟨p, q, hA0, hV, rfl, hfz, hnd⟩ := hW
  have hA : DataW.TrodAll enc Try.prog W 0 (fun _ => true) true Try.f7.params.toList args.toList ds p := hA0
  have hAk := hA
  rw [Try.params7] at hA hval
  obtain ⟨xs, hs, hr⟩ := args_shape (J := fun _ => False) (d := 12) (fun t ht => timetableKeeps_plain t (by simpa using ht)) (fun j t v h1 h2 => hval j t v (by simpa using h1) (by simpa using h2)) hA
  obtain ⟨n, h', hc⟩ := law xs hs
  obtain ⟨v0, vs0, d0, ds0, p0, q0, hargs, rfl, rfl, h0, r0⟩ := trodAll_cons hA
  obtain ⟨v1, vs1, d1, ds1, p1, q1, rfl, rfl, rfl, h1, r1⟩ := trodAll_cons r0
  obtain ⟨v2, vs2, d2, ds2, p2, q2, rfl, rfl, rfl, h2, r2⟩ := trodAll_cons r1
  obtain ⟨v3, vs3, d3, ds3, p3, q3, rfl, rfl, rfl, h3, r3⟩ := trodAll_cons r2
  obtain ⟨rfl, rfl, rfl⟩ := trodAll_nil r3
  obtain rfl : args = #[v0, v1, v2, v3] := by cases args; simp_all
  obtain ⟨rfl, rfl⟩ := trodVars_none hV
  clear hA0 hval0
  simp only [List.append_nil] at hW'
  refine (law_calls (callsOk n) hc hr).mono fun e W' ⟨he, h1, h2, hk⟩ => ?_
  subst he
  have hlt : ∀ x ∈ p0 ++ p1 ++ p2 ++ p3, x.block < W.heap.size := fun x hx => hW'.lt x (by simpa [List.append_assoc] using hx)
  exact ⟨_, rfl, post_of_kept (pa := p0 ++ p1 ++ p2 ++ p3) (pv := []) hW' (fun _ _ _ => trodAll_mk1 (shut_bool Try.underlying4 _))
    (fun sp hsp => trodAll_carry (DataW.TrodAll.respare kids full (by rw [Try.params7]; decide) (by simpa [List.append_assoc, Rows.timetableKeepsSpec] using hAk) (fun x hx => hsp x (by simpa [List.append_assoc] using hx))) (fun x hx => sameAt_of (hk _ (hlt x hx))))
    (fun _ _ => rfl) (by simp [List.append_assoc]) h1 h2 hk (ok_one (by kernel_rfl) rfl (okWide_bool_mk Try.underlying4 _))⟩
theorem timetableKeeps_over (law : timetableKeepsLaw) : Rows.TimetableKeepsSaid :=
  OpenClaim.holds_of_wide 7 Try.f7 rfl rfl rfl rfl rfl rfl rfl ⟨rfl, rfl, rfl, rfl, rfl⟩ rfl rfl rfl rfl rfl (by kernel_rfl) Try.func7 (by kernel_rfl)
    (of_decide_eq_true (by kernel_rfl)) (by unfold Func.isWrapper; first | (rw [if_pos (by decide +kernel)]; kernel_rfl) | (rw [if_neg (by decide +kernel)]; exact ⟨rfl, rfl⟩))
    (fun os started H enc _ => timetableKeeps_lifted law os started H enc)
end Go.Proofs.Ytipbcpobnciccaa

namespace Go.Proofs.Ytipbcpobnciccaa
open Go.Lite
set_option maxRecDepth 100000
theorem kept_all {n : Int} {l t : List (List D)} {j : Nat} (h : j < l.length) : keptF (allL n l) t j = keptF l t j := by
  unfold keptF lkW lkT lkF
  rw [allL_get1 h]
theorem keeps_eq {n : Int} {l t : List (List D)} (ht : ∀ j, j < t.length → rg t j ≤ 1099511627776) : keepsB n l t = keepsR n l t := by
  rw [Bool.eq_iff_iff]
  unfold keepsB keepsR
  simp only [Bool.and_eq_true, decide_eq_true_eq, allFrom_iff, beq_iff_eq]
  constructor
  · rintro ⟨e, p1, z, kk⟩
    refine ⟨e, z, fun j h1 h2 => ?_, fun j h1 h2 => ?_⟩
    · unfold timeB
      rw [Bool.and_eq_true, decide_eq_true_eq, decide_eq_true_eq]
      have := of_decide_eq_false (bnot_t (p1 j h1 h2))
      exact ⟨by omega, ht j (by omega)⟩
    · have := kk j h1 (by rw [len_allL]; omega)
      rw [kept_all (by omega)] at this
      exact this
  · rintro ⟨e, z, p1, kk⟩
    have hpos : ∀ j, j < t.length → 0 ≤ rg t j := fun j hj => by
      have := p1 j (Nat.zero_le _) (by omega)
      unfold timeB at this
      rw [Bool.and_eq_true, decide_eq_true_eq, decide_eq_true_eq] at this
      exact this.1
    refine ⟨e, fun j h1 h2 => ?_, z, fun j h1 h2 => ?_⟩
    · have := hpos j (by omega)
      rw [decide_eq_false (by omega)]
      rfl
    · rw [len_allL] at h2
      by_cases hj : j < l.length
      · rw [kept_all hj]
        exact kk j h1 (by omega)
      · obtain ⟨i, rfl⟩ : ∃ i, j = l.length + i := ⟨j - l.length, by omega⟩
        unfold keptF lkW lkT lkF
        rw [allL_get2 (by omega)]
        simp only [ix, List.getD_cons_zero, List.getD_cons_succ, D.I, decide_eq_true_eq, Int.toNat_natCast, Int.toNat_zero, z]
        have := hpos i (by omega)
        omega
theorem few_lt {n : Int} {l : List (List D)} (h : fewB n l = true) : l.length < big := by
  unfold fewB at h
  simp only [Bool.and_eq_true, Bool.or_eq_true, decide_eq_true_eq] at h
  rw [big_eq]
  omega
theorem rg_lt {t : List (List D)} (h : ∀ c ∈ t, WfC [.int .i64] c 0) (j : Nat) : rg t j < 9223372036854775808 := by
  by_cases hj : j < t.length
  · have h1 := h (t.getD j []) (by rw [List.getD_eq_getElem?_getD, List.getElem?_eq_getElem hj]; exact List.getElem_mem hj)
    simp only [WfC, WfK] at h1
    have h2 : (Lit.int .i64 (rg t j)).wf = true := h1.1
    unfold Lit.wf at h2
    simp [IntKind.min, IntKind.max, IntKind.signed, IntKind.bits] at h2
    omega
  · rw [rg_ge (by omega)]
    omega
set_option maxRecDepth 100000 in
theorem law7 (a b c d : D) (hc : ∀ j, rg c.L j < 9223372036854775808) : (fnT C tab7 7 s7 [a, b, c, d]).run = some [D.b true] := by
  have hbig := big_eq
  refine (congrArg T.run (t7 a b c d)).trans ?_
  refine go_not (fun _ => rfl) fun hf => ?_
  have hb := few_lt hf
  refine go_if (fun _ => rfl) fun c60 => go_if (fun _ => rfl) fun d60 => go_yes ⟨hb, by omega, hc⟩ (go_yes hb (go_yes hb (go_not (fun hn => ?_) fun hn => ?_)))
  · exact go_notF (by rw [hn, Bool.false_and]) (go_notF (by rw [hn, Bool.false_and]) rfl)
  · have hp : netP a.I b.L := hn
    refine go_yes ⟨by omega, by omega, by omega⟩ (go_ite (fun h5 => ?_) fun _ => rfl)
    simp only [Int.toNat_zero, Nat.sub_zero, allFrom_iff, decide_eq_true_eq] at h5
    refine go_yes hp (go_true ?_ (go_yes hp (go_true ?_ rfl)))
    · rw [hn, Bool.true_and, keeps_eq (fun j hj => h5 j (Nat.zero_le _) (by omega))]
      exact beq_self_eq_true _
    · rw [hn, Bool.true_and]
      exact beq_self_eq_true _
theorem ok16 : FnOK C 12 16 (mkF s16 G16) := by
  intro args v hb h avs hv
  unfold mkF at h
  split at h
  · rename_i ds hds
    have ha : args = [] := by
      cases args with
      | nil => rfl
      | cons x y => simp [s16, fitsVs] at hds
    subst ha
    simp only [VRL] at hv
    subst hv
    simp only [s16, fitsVs, Option.some.injEq] at hds
    subst hds
    simp only [G16, T.run_map, run_leaf, Option.map_some, Option.some.injEq] at h
    obtain ⟨rfl, rfl⟩ := Prod.mk.inj h
    exact ⟨_, _, known0, rfl, rfl, fun i => by cases i <;> exact trivial⟩
  · cases h
theorem ok7_8 : LoopSim C 12 7 (loopOf C.P 7 8) (mkL l7_8 G7_8) := by
  refine loop_ofK hC (sp := sp7) (lp := lp7) (sw := sw7) ⟨ok15 11, ok16, ok31 6, ok30 6, ok18 10, ok32 10, ok29 9, trivial⟩ trivial 0 [] (by kernel_rfl) rfl (fun k hk => by cases hk) (by kernel_rfl) (fun ds => (((ds.getD 2 default).L.length : Int) - (ds.getD 6 default).I).toNat) fun ds rr h => ?_
  unfold G7_8 at h
  split at h
  · rename_i n l t c k p i
    obtain ⟨hp, h⟩ := need_some h
    rw [yes_iff] at hp
    obtain ⟨h1, h2, h3⟩ := hp
    have hb := big_eq
    refine ⟨by rw [fuelC]; simp; omega, ?_⟩
    rw [show roundTK C (mkTab sp7 lp7 sw7) 7 (loopOf C.P 7 8) 0 l7_8 [n, l, t, c, k, p, i] = _ from t7_8 n l t c k p i]
    obtain ⟨q, hq⟩ : ∃ q : Nat, i.I = q := ⟨i.I.toNat, by omega⟩
    simp only [hq, Int.toNat_natCast, rg_def] at h h3 ⊢
    refine rd_if (fun hlt => ?_) fun hge => rd_out (all_end h (by omega))
    have hql : q < t.L.length := by omega
    obtain ⟨s1, s2⟩ := all_step h hql
    refine rd_dec ⟨by omega, by omega⟩ (rd_if (fun c => rd_out (s1 (decide_eq_false (by omega)))) fun c => ?_)
    rw [wrap_succ (by omega)]
    exact rd_again ((need_yes ⟨h1, by simp only [I_i]; omega, by simp only [I_i, L_l]; omega⟩).trans (s2 (decide_eq_true (by omega)))) (show ((t.L.length : Int) - ((q + 1 : Nat) : Int)).toNat < ((t.L.length : Int) - i.I).toNat by omega)
  · cases h
theorem kinds7 : [3, 22, 25, 25].flatMap (kindsL C.P) = [.int .i64, .ro [.int .i64, .int .i64, .int .i64], .ro [.int .i64], .ro [.int .i64]] := by kernel_rfl
set_option maxRecDepth 100000 in
theorem timetableKeeps_law : timetableKeepsLaw := fun xs hx =>
  law_true_wf hC (sp := sp7) (lp := lp7) (n := 12) ⟨ok15 11, ok16, ok31 6, ok30 6, ok18 10, ok32 10, ok29 9, trivial⟩ (by kernel_rfl) [8] (by kernel_rfl) (by kernel_rfl) (fun k hk L hL => by simp at hk; subst hk; cases hL; exact ok7_8)
    (ts := [3, 22, 25, 25]) (ks := s7.args) (by kernel_rfl) (of_decide_eq_true (by kernel_rfl)) (m := 4) (by kernel_rfl) (fun ds hl hw => by
      match ds, hl with
      | [a, b, c, d], _ =>
        rw [kinds7] at hw
        simp only [WfC, WfK] at hw
        exact law7 a b c d (rg_lt hw.2.2.1.2)) 12 xs hx
theorem timetable_keeps : Rows.TimetableKeepsSaid := timetableKeeps_over timetableKeeps_law
end Go.Proofs.Ytipbcpobnciccaa
