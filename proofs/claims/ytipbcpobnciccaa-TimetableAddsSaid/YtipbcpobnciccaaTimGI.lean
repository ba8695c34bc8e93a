/-
  What the rounds and the functions come to. Written by program.
  The function that pushes times computes what its word says.
  Shapes of arguments, results and loops. Written by program.
  Tables. Written by program.
  What the rounds and the functions come to. Written by program.
  The statement of TimetablePushes follows once the law is reckoned to be true for arguments of the right shapes.
  Raising ends where there are times that keep all links.
  The law of pushing holds for every input.
-/
import Derived.Test.YtipbcpobnciccaaTimGH
import Derived.Test.YtipbcpobnciccaaOver
import Derived.Test.YtipbcpobnciccaaTimGF
namespace Go.Proofs.Ytipbcpobnciccaa
open Go.Lite
set_option linter.unusedVariables false
set_option maxRecDepth 100000
theorem t67 (a : D) : fnT C tab67 67 s67 [a] =
  T.need (!List.isEmpty (D.L a)) (T.ite (List.isEmpty (D.L a)) (T.leaf [D.i (1 : Int)]) (T.need (decide (List.length (D.L a) ≤ 2 ^ 62 ∧ List.length (D.L a) * Try.prog.types[3].bytes ≤ 2 ^ 47)) (T.leaf [D.i (0 : Int), D.i (↑(List.length (D.L a)) : Int), D.l (D.L a)]))) := by kernel_rfl
end Go.Proofs.Ytipbcpobnciccaa

namespace Go.Proofs.Ytipbcpobnciccaa
open Go.Lite
set_option maxRecDepth 100000
theorem ok67 (n : Nat) : FnOK C (n + 1) 67 (mkF s67 Gcl1) := by
  refine fn_ofS hC (sp := sp67) (lp := lp67) (sw := sw67) trivial trivial (by kernel_rfl) [] (by kernel_rfl) rfl (fun k hk => by cases hk) fun ds rr h => ?_
  unfold Gcl1 at h
  split at h
  · rename_i l
    obtain ⟨hp, h⟩ := need_some h
    rw [yes_iff] at hp
    obtain ⟨h1, h2⟩ := hp
    refine (congrArg T.run (t67 l)).trans ?_
    have hne : l.L.isEmpty = false := by cases hl : l.L with
      | nil => exact absurd hl h1
      | cons c cs => rfl
    have b3 : Try.prog.types[3].bytes = 8 := by kernel_rfl
    rw [b3]
    refine go_need (by rw [hne]; rfl) (go_false hne (go_dec (by omega) h))
  · cases h
theorem run_true {α : Type} {a b : T α} : (T.ite true a b).run = a.run := rfl
theorem run_false {α : Type} {a b : T α} : (T.ite false a b).run = b.run := rfl
theorem times_of {n : Int} {t : List (List D)} (h : timesB n t = true) : (t.length : Int) = n ∧ rg t 0 = 0 ∧ ∀ j, 0 ≤ rg t j ∧ rg t j ≤ 1000000000 := by
  unfold timesB at h
  simp only [Bool.and_eq_true, allFrom_iff, decide_eq_true_eq, beq_iff_eq] at h
  refine ⟨h.2.1, h.2.2, fun j => ?_⟩
  by_cases hj : j < t.length
  · exact Lite.within_iff.1 (h.1 j (Nat.zero_le _) (by omega))
  · rw [rg_ge (by omega)]; omega
theorem ok34 (n : Nat) : FnOK C (n + 6) 34 (mkF s34 G34) := by
  refine fn_ofS hC (sp := sp34) (lp := lp34) (sw := sw34) ⟨ok47 n, ok1061 (n + 1), ok67 (n + 4), ok49 (n + 3), trivial⟩ ⟨ok68 (n + 4), trivial⟩ (by kernel_rfl) [] (by kernel_rfl) rfl (fun k hk => by cases hk) fun ds rr h => ?_
  unfold G34 at h
  split at h
  · rename_i n l t
    obtain ⟨hp, h⟩ := need_some h
    rw [yes_iff] at hp
    obtain ⟨h1, h2⟩ := hp
    refine (congrArg T.run (t34 n l t)).trans ?_
    rw [← h]
    have hb := big_eq
    refine go_yes h1 (go_not (fun hn => by rw [hn, Bool.false_and]; rfl) fun hn => ?_)
    have hp : netP n.I l.L := hn
    obtain ⟨k1, k2, k3, k4⟩ := net_of hp
    rw [hn, Bool.true_and]
    by_cases e1 : (t.L.length : Int) = n.I
    case neg =>
      have e2 : timesB n.I t.L = false := by
        unfold timesB
        rw [decide_eq_false e1, Bool.false_and, Bool.and_false]
      rw [e2]
      exact go_true (bne_iff_ne.2 e1) rfl
    refine go_false (by rw [e1]; exact bne_self_eq_false _) (go_dec (by omega) ?_)
    simp only [rg_def, Int.toNat_zero]
    by_cases e2 : rg t.L 0 = 0
    case neg =>
      have e3 : timesB n.I t.L = false := by
        unfold timesB
        rw [show (rg t.L 0 == 0) = false from beq_eq_false_iff_ne.2 e2, Bool.and_false, Bool.and_false]
      rw [e3]
      exact go_true (bne_iff_ne.2 e2) rfl
    refine go_false (by rw [e2]; rfl) (go_yes h2 (go_not (fun c => ?_) fun c => ?_))
    · have e3 : timesB n.I t.L = false := by
        unfold timesB
        rw [c, Bool.false_and]
      rw [e3]
      rfl
    have e3 : timesB n.I t.L = true := by
      unfold timesB
      rw [c, decide_eq_true e1, e2]
      rfl
    rw [e3, run_true]
    obtain ⟨-, -, hr⟩ := times_of e3
    have hg := good_all hp
    have hla := len_allL n.I l.L
    simp only [Int.toNat_natCast, List.take_length]
    have hlen : (pushR n.I (allL n.I l.L) t.L).1.length = t.L.length := (len_roundsR _ _ _).1
    refine go_yes ⟨fun e => by rw [e] at e1; simp at e1; omega, by omega⟩ (go_yes hp (go_dec (Nat.le_refl _) (go_yes ⟨hg, e1, e1, fun j => by have := hr j; omega⟩ ?_)))
    by_cases e4 : (pushR n.I (allL n.I l.L) t.L).2.2 < 0
    case neg =>
      rw [decide_eq_false e4, Bool.false_and]
      exact go_pos (by omega) rfl
    rw [decide_eq_true e4, Bool.true_and]
    refine go_neg (by omega) (go_dec (by omega) (go_dec (by omega) ?_))
    rw [e1]
    by_cases e5 : rg (pushR n.I (allL n.I l.L) t.L).1 0 = 0
    · rw [e5]
      exact go_false rfl rfl
    · rw [show (rg (pushR n.I (allL n.I l.L) t.L).1 0 == 0) = false from beq_eq_false_iff_ne.2 e5]
      exact go_true (bne_iff_ne.2 e5) rfl
  · cases h
end Go.Proofs.Ytipbcpobnciccaa

namespace Go.Proofs.Ytipbcpobnciccaa
open Go.Lite
def s10 : Sig := ⟨[.k (.int .i64), .k (.ro [.int .i64, .int .i64, .int .i64]), .k (.ro [.int .i64])], [(.k .bool, [])]⟩
end Go.Proofs.Ytipbcpobnciccaa

namespace Go.Proofs.Ytipbcpobnciccaa
open Go.Lite
noncomputable def sp10 : SpL := [(15, mkF s15 G15), (16, mkF s16 G16), (34, mkF s34 G34), (18, mkF s18 G18), (35, mkF s35 G35), (19, mkF s19 G19), (36, mkF s36 G36), (21, mkF s21 G21)]
noncomputable def lp10 : LpL := []
noncomputable def sw10 : SwL := []
noncomputable def tab10 : Tab := mkTab sp10 lp10 sw10
end Go.Proofs.Ytipbcpobnciccaa

namespace Go.Proofs.Ytipbcpobnciccaa
open Go.Lite
set_option linter.unusedVariables false
set_option maxRecDepth 100000
theorem t10 (a b c : D) : fnT C tab10 10 s10 [a, b, c] =
  T.ite (!fewB (D.I a) (D.L b)) (T.leaf [D.b true]) (T.ite (decide ((↑(List.length (D.L c)) : Int) > (60 : Int))) (T.leaf [D.b true]) (T.need (yes (List.length (D.L b) < big ∧ List.length (D.L c) < big)) (T.ite (netOk (D.I a) (D.L b) && timesB (D.I a) (D.L c)) (T.ite (decide ((pushR (D.I a) (allL (D.I a) (D.L b)) (D.L c)).snd.snd < (0 : Int)) && rg (pushR (D.I a) (allL (D.I a) (D.L b)) (D.L c)).fst 0 == (0 : Int)) (T.need (yes (List.length (D.L b) < big)) (T.ite (!netOk (D.I a) (D.L b)) (T.ite false (T.ite ((↑(Int.toNat (D.I a)) : Int) == (0 : Int)) (T.leaf [D.b true]) (T.leaf [D.b false])) (T.leaf [D.b false])) (T.need (yes (List.length (D.L c) < big ∧ (1 : Int) ≤ D.I a)) (T.ite (!timesB (D.I a) (D.L c)) (T.ite false (T.ite ((↑(Int.toNat (D.I a)) : Int) == (0 : Int)) (T.leaf [D.b true]) (T.leaf [D.b false])) (T.leaf [D.b false])) (T.need (yes (netP (D.I a) (D.L b))) (T.ite (!refOk (D.I a) (D.L b) (zeros (D.I a))) (T.ite false (T.ite ((↑(Int.toNat (D.I a)) : Int) == (0 : Int)) (T.leaf [D.b true]) (T.leaf [D.b false])) (T.leaf [D.b false])) (T.need (yes (netP (D.I a) (D.L b) ∧ (↑(List.length (D.L c)) : Int) = D.I a ∧ bndR (D.L c) (1099511627776 : Int))) (T.ite (!refOk (D.I a) (D.L b) (D.L c)) (T.ite false (T.ite ((↑(Int.toNat (D.I a)) : Int) == (0 : Int)) (T.leaf [D.b true]) (T.leaf [D.b false])) (T.leaf [D.b false])) (T.ite true (T.need (decide (Int.toNat (D.I a) ≤ List.length (pushR (D.I a) (allL (D.I a) (D.L b)) (D.L c)).fst)) (T.need (decide (Int.toNat (D.I a) ≤ List.length (refR (D.I a) (D.L b) (D.L c)).fst)) (T.need (yes (List.length (List.take (Int.toNat (D.I a)) (pushR (D.I a) (allL (D.I a) (D.L b)) (D.L c)).fst) < big)) (T.ite (sameR (List.take (Int.toNat (D.I a)) (pushR (D.I a) (allL (D.I a) (D.L b)) (D.L c)).fst) (List.take (Int.toNat (D.I a)) (refR (D.I a) (D.L b) (D.L c)).fst)) (T.leaf [D.b true]) (T.leaf [D.b false]))))) (T.leaf [D.b false])))))))))) (T.need (yes (List.length (D.L b) < big)) (T.ite (!netOk (D.I a) (D.L b)) (T.ite false (T.ite true (T.leaf [D.b true]) (T.leaf [D.b false])) (T.leaf [D.b false])) (T.need (yes (List.length (D.L c) < big ∧ (1 : Int) ≤ D.I a)) (T.ite (!timesB (D.I a) (D.L c)) (T.ite false (T.ite true (T.leaf [D.b true]) (T.leaf [D.b false])) (T.leaf [D.b false])) (T.need (yes (netP (D.I a) (D.L b))) (T.ite (!refOk (D.I a) (D.L b) (zeros (D.I a))) (T.ite true (T.ite true (T.leaf [D.b true]) (T.leaf [D.b false])) (T.leaf [D.b false])) (T.need (yes (netP (D.I a) (D.L b) ∧ (↑(List.length (D.L c)) : Int) = D.I a ∧ bndR (D.L c) (1099511627776 : Int))) (T.ite (!refOk (D.I a) (D.L b) (D.L c)) (T.ite true (T.ite true (T.leaf [D.b true]) (T.leaf [D.b false])) (T.leaf [D.b false])) (T.ite false (T.need (decide (Int.toNat (D.I a) ≤ List.length (refR (D.I a) (D.L b) (D.L c)).fst)) (T.need (yes (List.length ([] : List (List D)) < big)) (T.ite (sameR [] (List.take (Int.toNat (D.I a)) (refR (D.I a) (D.L b) (D.L c)).fst)) (T.leaf [D.b true]) (T.leaf [D.b false])))) (T.leaf [D.b false]))))))))))) (T.need (yes (List.length (D.L b) < big)) (T.ite (!netOk (D.I a) (D.L b)) (T.ite true (T.ite true (T.leaf [D.b true]) (T.leaf [D.b false])) (T.leaf [D.b false])) (T.need (yes (List.length (D.L c) < big ∧ (1 : Int) ≤ D.I a)) (T.ite (!timesB (D.I a) (D.L c)) (T.ite true (T.ite true (T.leaf [D.b true]) (T.leaf [D.b false])) (T.leaf [D.b false])) (T.need (yes (netP (D.I a) (D.L b))) (T.ite (!refOk (D.I a) (D.L b) (zeros (D.I a))) (T.ite false (T.ite true (T.leaf [D.b true]) (T.leaf [D.b false])) (T.leaf [D.b false])) (T.need (yes (netP (D.I a) (D.L b) ∧ (↑(List.length (D.L c)) : Int) = D.I a ∧ bndR (D.L c) (1099511627776 : Int))) (T.ite (!refOk (D.I a) (D.L b) (D.L c)) (T.ite false (T.ite true (T.leaf [D.b true]) (T.leaf [D.b false])) (T.leaf [D.b false])) (T.ite false (T.need (decide (Int.toNat (D.I a) ≤ List.length (refR (D.I a) (D.L b) (D.L c)).fst)) (T.need (yes (List.length ([] : List (List D)) < big)) (T.ite (sameR [] (List.take (Int.toNat (D.I a)) (refR (D.I a) (D.L b) (D.L c)).fst)) (T.leaf [D.b true]) (T.leaf [D.b false])))) (T.leaf [D.b false]))))))))))))) := by kernel_rfl
end Go.Proofs.Ytipbcpobnciccaa

namespace Go.Proofs.Ytipbcpobnciccaa
open Go.Lite Go.ChangeShapes Go.WideShapes Go.ChangeAt Go.RowKit

def timetablePushesLaw : Prop := ∀ xs : List AV, ArgsShape Try.prog 12 [3, 22, 25] xs → ∃ n h', callA C n Unit none 10 xs [] () = some (.bool true, h', ())
theorem timetablePushes_plain : ∀ t ∈ [3, 22, 25], plainTy Try.prog 12 t = true := by
  intro t ht
  have h : [3, 22, 25].all (plainTy Try.prog 12) = true := by kernel_rfl
  exact List.all_eq_true.1 h t ht
set_option maxRecDepth 100000 in
theorem timetablePushes_lifted (law : timetablePushesLaw) (os : Os) (started : os.Started) (H : Type) (enc : TypeId × Value → H) :
    ReturnsInHanded {} Try.checked os 10 .any (Rows.timetablePushesSpec.pre6 enc Try.prog Try.f10 Rows.timetablePushesRow.domain false) (Rows.timetablePushesSpec.post enc Try.prog Try.f10 false true false false) := by
  refine returnsInHanded_of_change (C := Try.checked) own started (by kernel_rfl) Try.func10
    (ChangeSpec.witness6 (enc := enc) (C := Try.checked) false ⟨#[], #[.int .i64 0, .slice none 0 0, .slice none 0 0], []⟩ 8 (by kernel_rfl) (by kernel_rfl) (by kernel_rfl) (by kernel_rfl)) ?_
  intro W base args ds gs before hval0 hW hcnd _
  have hval : ∀ (j : Nat) t v, Try.f10.params[j]? = some t → args[j]? = some v → Value.okWide Try.prog W .any base t v := hval0
  have hW' := hW
  obtain ⟨p, q, hA0, hV, rfl, hfz, hnd⟩ := hW
  have hA : DataW.TrodAll enc Try.prog W 0 (fun _ => true) true Try.f10.params.toList args.toList ds p := hA0
  have hAk := hA
  rw [Try.params10] at hA hval
  obtain ⟨xs, hs, hr⟩ := args_shape (J := fun _ => False) (d := 12) (fun t ht => timetablePushes_plain t (by simpa using ht)) (fun j t v h1 h2 => hval j t v (by simpa using h1) (by simpa using h2)) hA
  obtain ⟨n, h', hc⟩ := law xs hs
  obtain ⟨v0, vs0, d0, ds0, p0, q0, hargs, rfl, rfl, h0, r0⟩ := trodAll_cons hA
  obtain ⟨v1, vs1, d1, ds1, p1, q1, rfl, rfl, rfl, h1, r1⟩ := trodAll_cons r0
  obtain ⟨v2, vs2, d2, ds2, p2, q2, rfl, rfl, rfl, h2, r2⟩ := trodAll_cons r1
  obtain ⟨rfl, rfl, rfl⟩ := trodAll_nil r2
  obtain rfl : args = #[v0, v1, v2] := by cases args; simp_all
  obtain ⟨rfl, rfl⟩ := trodVars_none hV
  clear hA0 hval0
  simp only [List.append_nil] at hW'
  refine (law_calls (callsOk n) hc hr).mono fun e W' ⟨he, h1, h2, hk⟩ => ?_
  subst he
  have hlt : ∀ x ∈ p0 ++ p1 ++ p2, x.block < W.heap.size := fun x hx => hW'.lt x (by simpa [List.append_assoc] using hx)
  exact ⟨_, rfl, post_of_kept (pa := p0 ++ p1 ++ p2) (pv := []) hW' (fun _ _ _ => trodAll_mk1 (shut_bool Try.underlying4 _))
    (fun sp hsp => trodAll_carry (DataW.TrodAll.respare kids full (by rw [Try.params10]; decide) (by simpa [List.append_assoc, Rows.timetablePushesSpec] using hAk) (fun x hx => hsp x (by simpa [List.append_assoc] using hx))) (fun x hx => sameAt_of (hk _ (hlt x hx))))
    (fun _ _ => rfl) (by simp [List.append_assoc]) h1 h2 hk (ok_one (by kernel_rfl) rfl (okWide_bool_mk Try.underlying4 _))⟩
theorem timetablePushes_over (law : timetablePushesLaw) : Rows.TimetablePushesSaid :=
  OpenClaim.holds_of_wide 10 Try.f10 rfl rfl rfl rfl rfl rfl rfl ⟨rfl, rfl, rfl, rfl, rfl⟩ rfl rfl rfl rfl rfl (by kernel_rfl) Try.func10 (by kernel_rfl)
    (of_decide_eq_true (by kernel_rfl)) (by unfold Func.isWrapper; first | (rw [if_pos (by decide +kernel)]; kernel_rfl) | (rw [if_neg (by decide +kernel)]; exact ⟨rfl, rfl⟩))
    (fun os started H enc _ => timetablePushes_lifted law os started H enc)
end Go.Proofs.Ytipbcpobnciccaa

namespace Go.Lite
theorem Net.rounds_done {E : Net} (hE : E.OK) (hm : 0 < E.m) {p : Nat → Int} (hp : E.kept p) (t : Nat → Int) : (E.rounds 1 (E.n + 1) (Rz.start t)).r < 0 := by
  apply Classical.byContradiction
  intro hr
  obtain ⟨ρ', -, I, hI⟩ := Net.rounds_inv hE (E.n + 1) 1 (Rz.start t) (by omega) (Rz.start_inv _) (by omega)
  obtain ⟨hρ, v, hv1, hv2, hv3⟩ := hI (by omega)
  clear hI
  generalize E.rounds 1 (E.n + 1) (Rz.start t) = s at *
  obtain ⟨k, k0, k1, k2, k3⟩ := I.circle (d := fun _ => 0) hE (fun _ _ => hm) hv3 hv2 (by omega) (K := E.n + 1) rfl
  have hW := I.weighs k0 k2 k3
  generalize iter (fun x => E.f (E.back s.b (fun _ => 0) x)) (E.n + 1) v = y at *
  have hle : sumTo (fun j => E.w (E.back s.b (fun _ => 0) (iter (fun x => E.f (E.back s.b (fun _ => 0) x)) j y))) k ≤ sumTo (fun j => p (iter (fun x => E.f (E.back s.b (fun _ => 0) x)) j y) - p (iter (fun x => E.f (E.back s.b (fun _ => 0) x)) (j + 1) y)) k := by
    refine sumTo_le fun j _ => ?_
    rw [iter_succ]
    have h0 := k3 j
    generalize iter (fun x => E.f (E.back s.b (fun _ => 0) x)) j y = u at h0 ⊢
    obtain ⟨e, e1, e2, e3, -⟩ := I.by_ u h0
    have hb : E.back s.b (fun _ => 0) u = e := by unfold Net.back; rw [if_neg (by omega), e1]; rfl
    have := hp e e2
    simp only [hb]
    rw [e3] at this
    omega
  rw [sumTo_tele (fun j => p (iter (fun x => E.f (E.back s.b (fun _ => 0) x)) j y)) k, k2] at hle
  simp only [iter] at hle
  omega
end Go.Lite
namespace Go.Proofs.Ytipbcpobnciccaa
open Go.Lite
theorem push_done {n : Int} {l t : List (List D)} (hl : goodL n l) (h0 : 0 < l.length) (ht : t.length = n.toNat) {p : Nat → Int} (hp : (netN n l).kept p) : (pushR n l t).2.2 < 0 := by
  rw [← (sim_push hl ht).r]
  exact Net.rounds_done (E := netN n l) (netN_ok hl) h0 hp (rg t)
theorem ref_pushT {n : Int} {l : List (List D)} (hp : netP n l) (t : List (List D)) : (refR n l t).1 = (pushR n (allL n l) t).1 ∧ ((refR n l t).2.2 < 0 ↔ (pushR n (allL n l) t).2.2 < 0) := by
  have hl := good_all hp
  obtain ⟨e1, e2⟩ := rounds_last (l := allL n l) (t, List.replicate n.toNat [.i (-1)], -1) (t, [], 0) rfl hl n.toNat
  exact ⟨e1.symm, e2.symm⟩
/-- Times that keep all links and begin at 0 are not before the earliest ones, and there are earliest ones. -/
theorem push_least {n : Int} {l : List (List D)} (hp : netP n l) {p : Nat → Int} (hk : (netN n (allL n l)).kept p) (h0 : ∀ j, 0 ≤ p j) : (pushR n (allL n l) (zeros n)).2.2 < 0 ∧ ∀ j, rg (pushR n (allL n l) (zeros n)).1 j ≤ p j := by
  have hl := good_all hp
  have hla := len_allL n l
  have hn := (net_of hp).1
  exact ⟨push_done hl (by omega) (len_zeros n) hk, fun j => push_ub hl (len_zeros n) hk (fun j => by rw [rg_zeros]; exact h0 j) j⟩
end Go.Proofs.Ytipbcpobnciccaa

namespace Go.Proofs.Ytipbcpobnciccaa
open Go.Lite
set_option maxRecDepth 100000
theorem law10 (a b c : D) : (fnT C tab10 10 s10 [a, b, c]).run = some [D.b true] := by
  have hbig := big_eq
  refine (congrArg T.run (t10 a b c)).trans ?_
  refine go_not (fun _ => rfl) fun hf => ?_
  have hb := few_lt hf
  refine go_if (fun _ => rfl) fun c60 => go_yes ⟨hb, by omega⟩ ?_
  by_cases hn : netOk a.I b.L = true
  case neg =>
    have hn' : netOk a.I b.L = false := by simpa using hn
    exact go_false (by rw [hn', Bool.false_and]) (go_yes hb (go_notF hn' (go_true rfl (go_true rfl rfl))))
  have hp : netP a.I b.L := hn
  obtain ⟨k1, k2, k3, k4⟩ := net_of hp
  by_cases ht : timesB a.I c.L = true
  case neg =>
    have ht' : timesB a.I c.L = false := by simpa using ht
    exact go_false (by rw [ht', Bool.and_false]) (go_yes hb (go_notT hn (go_yes ⟨by omega, k1⟩ (go_notF ht' (go_true rfl (go_true rfl rfl))))))
  refine go_true (by rw [hn, ht]; rfl) ?_
  obtain ⟨e1, e2, hr⟩ := times_of ht
  have hl := good_all hp
  have hla := len_allL a.I b.L
  have htl : c.L.length = a.I.toNat := by omega
  have hlen : (pushR a.I (allL a.I b.L) c.L).1.length = a.I.toNat := (sim_push hl htl).l1
  obtain ⟨r1, r2⟩ := ref_pushT hp c.L
  obtain ⟨z1, z2⟩ := ref_push hp
  have hbn : bndR c.L 1099511627776 := fun j => by have := hr j; omega
  by_cases ho : (pushR a.I (allL a.I b.L) c.L).2.2 < 0 ∧ rg (pushR a.I (allL a.I b.L) c.L).1 0 = 0
  · obtain ⟨o1, o2⟩ := ho
    have hk := kept_push hl htl o1
    have hle := push_le hl htl
    have hz := (push_least hp hk (fun j => by have := hle j; have := hr j; omega)).1
    refine go_true (by rw [decide_eq_true o1, o2]; rfl) (go_yes hb (go_notT hn (go_yes ⟨by omega, k1⟩ (go_notT ht (go_yes hp (go_notT (by rw [z2]; exact decide_eq_true hz) (go_yes ⟨hp, e1, hbn⟩ (go_notT ?_ (go_true rfl ?_)))))))))
    · unfold refOk
      rw [r1, o2, decide_eq_true (r2.2 o1)]
      rfl
    · rw [r1]
      refine go_dec (by omega) (go_dec (by omega) ?_)
      have htk : List.take a.I.toNat (pushR a.I (allL a.I b.L) c.L).1 = (pushR a.I (allL a.I b.L) c.L).1 := List.take_of_length_le (by omega)
      rw [htk]
      exact go_yes (by omega) (go_true (sameR_refl _) rfl)
  · have hf2 : (decide ((pushR a.I (allL a.I b.L) c.L).2.2 < 0) && rg (pushR a.I (allL a.I b.L) c.L).1 0 == 0) = false := by
      rw [← Bool.not_eq_true, Bool.and_eq_true, decide_eq_true_eq, beq_iff_eq]
      exact ho
    have hrf : refOk a.I b.L c.L = false := by
      unfold refOk
      rw [r1, ← Bool.not_eq_true, Bool.and_eq_true, decide_eq_true_eq, beq_iff_eq, r2]
      exact ho
    refine go_false hf2 (go_yes hb (go_notT hn (go_yes ⟨by omega, k1⟩ (go_notT ht (go_yes hp (go_not (fun _ => go_true rfl (go_true rfl rfl)) fun _ => go_yes ⟨hp, e1, hbn⟩ (go_notF hrf (go_true rfl (go_true rfl rfl)))))))))
set_option maxRecDepth 100000 in
theorem timetablePushes_law : timetablePushesLaw := fun xs hx =>
  law_true_wf hC (sp := sp10) (lp := lp10) (n := 12) ⟨ok15 11, ok16, ok34 6, ok18 10, ok35 11, ok19 8, ok36 9, ok21 11, trivial⟩ (by kernel_rfl) [] (by kernel_rfl) rfl (fun k hk => by cases hk)
    (ts := [3, 22, 25]) (ks := s10.args) (by kernel_rfl) (of_decide_eq_true (by kernel_rfl)) (m := 3) (by kernel_rfl) (fun ds hl _ => by
      match ds, hl with
      | [a, b, c], _ => exact law10 a b c) 12 xs hx
theorem timetable_pushes : Rows.TimetablePushesSaid := timetablePushes_over timetablePushes_law
end Go.Proofs.Ytipbcpobnciccaa
