/-
  Proofs by cases: in one case, a function answers in one shape; and a law is walked by its cases, each with tables of its own.
  Shapes of arguments, results and loops. Written by program.
  What functions of latest timetables come to in each case, and the loop of their law.
  Tables. Written by program.
  What the rounds and the functions come to. Written by program.
  The statement of TimetableLatest follows once the law is reckoned to be true for arguments of the right shapes.
  The law of latest timetables holds for every input.
-/
import Derived.Test.YtipbcpobnciccaaTimGA
import Derived.Test.YtipbcpobnciccaaTimGL
import Derived.Test.YtipbcpobnciccaaOver
import Derived.Test.YtipbcpobnciccaaTimGI
namespace Go.Proofs.Ytipbcpobnciccaa
open Go.Lite
theorem fn_cut {C : Cfg} {n : Nat} {f : FuncId} {ar : List SK} {rs : List (SK × List BK)} {G G' : List D → T (List D)} {q : SK × List BK} (k : Nat) (h : FnOK C n f (mkF ⟨ar, rs⟩ G)) (hl : 2 ≤ rs.length) (hk : rs[k]? = some q)
    (hg : ∀ ds r, (G' ds).run = some r → (G ds).run = some (.i k :: r)) : FnOK C n f (mkF ⟨ar, [q]⟩ G') := by
  intro args v hb h1 avs hv
  refine h args v hb ?_ avs hv
  unfold mkF at h1 ⊢
  dsimp only at h1 ⊢
  split at h1
  · rename_i ds hds
    rw [T.run_map, Option.map_eq_some_iff] at h1 ⊢
    obtain ⟨r, e1, e2⟩ := h1
    refine ⟨.i k :: r, hg ds r e1, ?_⟩
    rw [← e2]
    match rs, hl with
    | a :: b :: c, _ =>
      simp only [headR, List.headD_cons, List.tail_cons, D.I, Int.toNat_natCast, List.getD_eq_getElem?_getD, hk, Option.getD_some]
  · cases h1
theorem fn_mono {C : Cfg} {n : Nat} {f : FuncId} {s : Sig} {G G' : List D → T (List D)} (h : FnOK C n f (mkF s G)) (hg : ∀ ds r, (G' ds).run = some r → (G ds).run = some r) : FnOK C n f (mkF s G') := by
  intro args v hb h1 avs hv
  refine h args v hb ?_ avs hv
  unfold mkF at h1 ⊢
  split at h1
  · rw [T.run_map, Option.map_eq_some_iff] at h1 ⊢
    obtain ⟨r, e1, e2⟩ := h1
    exact ⟨r, hg _ r e1, e2⟩
  · cases h1
/-- In this case the law answers true, with tables of its own. -/
def CaseOK (f : FuncId) (ks : List SK) (ds : List D) : Prop :=
  ∃ n sp lp sw, AllOK C n sp ∧ AllOKW C n sw ∧ LoopsOK C (mkTab sp lp sw) n f (bodyAt C.P f) ∧ (fnT C (mkTab sp lp sw) f ⟨ks, [(.k .bool, [])]⟩ ds).run = some [D.b true]
theorem case_of {f : FuncId} {ks : List SK} {ds : List D} {sp : SpL} {lp : LpL} {sw : SwL} (n : Nat) (hsp : AllOK C n sp) (hsw : AllOKW C n sw) (keys : List Nat) (h1 : Lite.loopsIn (bodyAt C.P f) = keys.map (loopOf C.P f)) (h2 : keys.map (fun k => Lite.keyOf (loopOf C.P f k)) = keys)
    (hl : ∀ k ∈ keys, ∀ L, lpOf lp k = some L → LoopSim C n f (loopOf C.P f k) L) (hr : (fnT C (mkTab sp lp sw) f ⟨ks, [(.k .bool, [])]⟩ ds).run = some [D.b true]) : CaseOK f ks ds :=
  ⟨n, sp, lp, sw, hsp, hsw, loops_of keys h1 h2 hl, hr⟩
theorem law_cases {f : FuncId} (hf : hasBody C.P f = true) {ts : List TypeId} {ks : List SK} (hks : ks = ts.map (argSK C.P)) (hfit : ∀ t ∈ ts, argFit C.P t = true) {m : Nat} (hm : (ts.map (kindsN C.P)).sum = m)
    (hrun : ∀ ds : List D, ds.length = m → WfC (ts.flatMap (kindsL C.P)) ds 0 → CaseOK f ks ds) (d : Nat) (xs : List AV) (hx : ArgsShape C.P d ts xs) : ∃ n h', callA C n Unit none f xs [] () = some (.bool true, h', ()) := by
  obtain ⟨ds, hlen, hv, -, hwf⟩ := args_enc C.P d ts xs [] hx hfit
  rw [List.append_nil, ← hks] at hv
  obtain ⟨n, sp, lp, sw, hsp, hsw, hlo, hr⟩ := hrun ds (hlen.trans hm) hwf
  unfold fnT at hr
  rw [T.run_bind, Option.bind_eq_some_iff] at hr
  obtain ⟨⟨v0, h0⟩, hc, hfr⟩ := hr
  rw [T.run_ofO] at hfr
  obtain ⟨fn, h3, h4⟩ := hasBody_spec hf
  obtain ⟨v', h', h5, h6, h7⟩ := call_sim hC (spOK_ofW hsp hsw) h3 h4 hlo _ _ _ hc xs hv
  have h8 := (fitsR_sim hfr h6 h7).1
  refine ⟨n + 1, h', ?_⟩
  rw [h5]
  have : v' = .bool true := h8
  rw [this]
end Go.Proofs.Ytipbcpobnciccaa

namespace Go.Proofs.Ytipbcpobnciccaa
open Go.Lite
def s1033 : Sig := ⟨[.k (.int .i64), .k (.ro [.int .i64, .int .i64, .int .i64]), .k (.int .i64)], [(.tup [.sl 0 1, .k (.int .i64)], [.row [.int .i64]])]⟩
def s2033 : Sig := ⟨[.k (.int .i64), .k (.ro [.int .i64, .int .i64, .int .i64]), .k (.int .i64)], [(.tup [.nils, .k (.int .i64)], [])]⟩
def s1039 : Sig := ⟨[.k (.int .i64), .k (.ro [.int .i64, .int .i64, .int .i64]), .k (.int .i64)], [(.tup [.sl 0 1, .k (.int .i64)], [.row [.int .i64]])]⟩
def s2039 : Sig := ⟨[.k (.int .i64), .k (.ro [.int .i64, .int .i64, .int .i64]), .k (.int .i64)], [(.tup [.nils, .k (.int .i64)], [])]⟩
def s1040 : Sig := ⟨[.k (.int .i64), .k (.ro [.int .i64, .int .i64, .int .i64]), .k (.int .i64)], [(.tup [.sl 0 1, .k .bool], [.row [.int .i64]])]⟩
def s1012 : Sig := ⟨[.k (.int .i64), .k (.ro [.int .i64, .int .i64, .int .i64]), .k (.int .i64)], [(.k .bool, [])]⟩
def l1012_14 : LSig := mkLS [0, 2, 7, 9, 11, 13, 15] [(156, [(0, .k (.int .i64)), (2, .k (.int .i64)), (7, .sl 0 1), (9, .sl 1 1), (11, .sl 2 1), (13, .sl 3 1), (15, .k (.int .i64))], [.row [.int .i64], .row [.int .i64], .row [.int .i64], .row [.int .i64]])] [(.exit 0, [], [(156, [], [])]), (.ret, [6], [(156, [(6, .k .bool)], [])])]
def s2012 : Sig := ⟨[.k (.int .i64), .k (.ro [.int .i64, .int .i64, .int .i64]), .k (.int .i64)], [(.k .bool, [])]⟩
end Go.Proofs.Ytipbcpobnciccaa

namespace Go.Proofs.Ytipbcpobnciccaa
open Go.Lite
noncomputable section
def latOk (n : Int) (l : List (List D)) (x : Int) : Bool := (netOk n l && Lite.within x 0 1000000000) && bothB n l x
def latErr (n : Int) (l : List (List D)) (x : Int) : Int := if (netOk n l && Lite.within x 0 1000000000) = true then 5 else 2
def G1033 (ds : List D) : T (List D) := match ds with
  | [n, l, x] => .need (yes (l.L.length < big ∧ latOk n.I l.L x.I = true)) (.leaf [.i n.I, .i 0, .l (latR n.I (allL n.I l.L) x.I).1])
  | _ => .fail
def G2033 (ds : List D) : T (List D) := match ds with
  | [n, l, x] => .need (yes (l.L.length < big ∧ latOk n.I l.L x.I = false)) (.leaf [.i (latErr n.I l.L x.I)])
  | _ => .fail
def G1039 (ds : List D) : T (List D) := match ds with
  | [n, l, x] => .need (yes (l.L.length < big ∧ latOk n.I l.L x.I = true)) (.leaf [.i n.I, .i 0, .l (subR (pushR n.I (allL n.I l.L) (zeros n.I)).1 0 n.I.toNat (latR n.I (allL n.I l.L) x.I).1)])
  | _ => .fail
def G2039 (ds : List D) : T (List D) := match ds with
  | [n, l, x] => .need (yes (l.L.length < big ∧ latOk n.I l.L x.I = false)) (.leaf [.i (latErr n.I l.L x.I)])
  | _ => .fail
def G1040 (ds : List D) : T (List D) := match ds with
  | [n, l, x] => .need (yes (netP n.I l.L ∧ 0 ≤ x.I ∧ x.I ≤ 1000000000 ∧ (latR n.I (allL n.I l.L) x.I).2 = false)) (.leaf [.i n.I, .b (rg (latR n.I (allL n.I l.L) x.I).1 0 == 0), .l (latR n.I (allL n.I l.L) x.I).1])
  | _ => .fail
def slackB (x : Int) (t s w f : List (List D)) (j : Nat) : Bool := (rg s j == rg w j - rg f j) && (decide (0 ≤ rg s j) && decide (rg t j ≤ x))
def G1012_14 (ds : List D) : T (Ex × List D) := match ds with
  | [n, x, q1, q2, q3, q4, i, t, s, w, f] => .need (yes (0 ≤ n.I ∧ n.I ≤ 500 ∧ q1.I = n.I ∧ q2.I = n.I ∧ q3.I = n.I ∧ q4.I = n.I ∧ (t.L.length : Int) = n.I ∧ (s.L.length : Int) = n.I ∧ (w.L.length : Int) = n.I ∧ (f.L.length : Int) = n.I ∧
      bndR w.L 1099511627776 ∧ bndR f.L 1099511627776 ∧ 0 ≤ i.I ∧ i.I ≤ n.I))
      (.ite (allFrom (slackB x.I t.L s.L w.L f.L) i.I.toNat (n.I.toNat - i.I.toNat)) (.leaf (.exit 0, [])) (.leaf (.ret, [.b false])))
  | _ => .fail
end
end Go.Proofs.Ytipbcpobnciccaa

namespace Go.Proofs.Ytipbcpobnciccaa
open Go.Lite
noncomputable def sp1012 : SpL := [(15, mkF s15 G15), (16, mkF s16 G16), (33, mkF s1033 G1033), (39, mkF s1039 G1039), (18, mkF s18 G18), (40, mkF s1040 G1040), (19, mkF s19 G19), (21, mkF s21 G21), (31, mkF s31 G31)]
noncomputable def lp1012 : LpL := [(14, mkL l1012_14 G1012_14)]
noncomputable def sw1012 : SwL := []
noncomputable def tab1012 : Tab := mkTab sp1012 lp1012 sw1012
noncomputable def sp2012 : SpL := [(15, mkF s15 G15), (16, mkF s16 G16), (33, mkF s2033 G2033), (39, mkF s2039 G2039), (18, mkF s18 G18), (40, mkF s40 G40), (19, mkF s19 G19), (21, mkF s21 G21), (31, mkF s31 G31)]
noncomputable def lp2012 : LpL := []
noncomputable def sw2012 : SwL := []
noncomputable def tab2012 : Tab := mkTab sp2012 lp2012 sw2012
end Go.Proofs.Ytipbcpobnciccaa

namespace Go.Proofs.Ytipbcpobnciccaa
open Go.Lite
set_option linter.unusedVariables false
set_option maxRecDepth 100000
theorem t1012 (a b c : D) : fnT C tab1012 12 s1012 [a, b, c] =
  T.ite (!fewB (D.I a) (D.L b)) (T.leaf [D.b true]) (T.need (yes (List.length (D.L b) < big ∧ latOk (D.I a) (D.L b) (D.I c) = true)) (T.need (yes (List.length (D.L b) < big ∧ latOk (D.I a) (D.L b) (D.I c) = true)) (T.need (yes (List.length (D.L b) < big)) (T.ite (!netOk (D.I a) (D.L b)) (T.ite false (T.ite false (T.ite (IntKind.wrap IntKind.i64 ((↑(Int.toNat (D.I a)) : Int) + (↑(Int.toNat (D.I a)) : Int)) == (0 : Int)) (T.leaf [D.b true]) (T.leaf [D.b false])) (T.leaf [D.b false])) (T.leaf [D.b false])) (T.ite (decide (D.I c < (0 : Int))) (T.ite false (T.ite false (T.ite (IntKind.wrap IntKind.i64 ((↑(Int.toNat (D.I a)) : Int) + (↑(Int.toNat (D.I a)) : Int)) == (0 : Int)) (T.leaf [D.b true]) (T.leaf [D.b false])) (T.leaf [D.b false])) (T.leaf [D.b false])) (T.ite (decide (D.I c > (1000000000 : Int))) (T.ite false (T.ite false (T.ite (IntKind.wrap IntKind.i64 ((↑(Int.toNat (D.I a)) : Int) + (↑(Int.toNat (D.I a)) : Int)) == (0 : Int)) (T.leaf [D.b true]) (T.leaf [D.b false])) (T.leaf [D.b false])) (T.leaf [D.b false])) (T.need (yes (netP (D.I a) (D.L b) ∧ (0 : Int) ≤ D.I c ∧ D.I c ≤ (1000000000 : Int) ∧ (latR (D.I a) (allL (D.I a) (D.L b)) (D.I c)).snd = false)) (T.ite (!rg (latR (D.I a) (allL (D.I a) (D.L b)) (D.I c)).fst 0 == (0 : Int)) (T.ite false (T.ite false (T.ite (IntKind.wrap IntKind.i64 ((↑(Int.toNat (D.I a)) : Int) + (↑(Int.toNat (D.I a)) : Int)) == (0 : Int)) (T.leaf [D.b true]) (T.leaf [D.b false])) (T.leaf [D.b false])) (T.leaf [D.b false])) (T.need (yes (netP (D.I a) (D.L b))) (T.ite false (T.leaf [D.b false]) (T.ite false (T.leaf [D.b false]) (T.need (decide (Int.toNat (D.I a) ≤ List.length (latR (D.I a) (allL (D.I a) (D.L b)) (D.I c)).fst)) (T.need (decide (Int.toNat (D.I a) ≤ List.length (latR (D.I a) (allL (D.I a) (D.L b)) (D.I c)).fst)) (T.need (yes (List.length (List.take (Int.toNat (D.I a)) (latR (D.I a) (allL (D.I a) (D.L b)) (D.I c)).fst) < big)) (T.ite (!sameR (List.take (Int.toNat (D.I a)) (latR (D.I a) (allL (D.I a) (D.L b)) (D.I c)).fst) (List.take (Int.toNat (D.I a)) (latR (D.I a) (allL (D.I a) (D.L b)) (D.I c)).fst)) (T.leaf [D.b false]) (T.need (decide (Int.toNat (D.I a) ≤ List.length (latR (D.I a) (allL (D.I a) (D.L b)) (D.I c)).fst)) (T.need (yes (List.length (D.L b) < big ∧ List.length (List.take (Int.toNat (D.I a)) (latR (D.I a) (allL (D.I a) (D.L b)) (D.I c)).fst) < big ∧ ∀ (j : Nat), rg (List.take (Int.toNat (D.I a)) (latR (D.I a) (allL (D.I a) (D.L b)) (D.I c)).fst) j < (9223372036854775808 : Int))) (T.ite (!(netOk (D.I a) (D.L b) && keepsB (D.I a) (D.L b) (List.take (Int.toNat (D.I a)) (latR (D.I a) (allL (D.I a) (D.L b)) (D.I c)).fst))) (T.leaf [D.b false]) (T.ite ((↑(Int.toNat (D.I a)) : Int) != D.I a) (T.leaf [D.b false]) (T.need (yes ((0 : Int) ≤ D.I a ∧ D.I a ≤ (500 : Int) ∧ (↑(Int.toNat (D.I a)) : Int) = D.I a ∧ (↑(Int.toNat (D.I a)) : Int) = D.I a ∧ (↑(Int.toNat (D.I a)) : Int) = D.I a ∧ (↑(Int.toNat (D.I a)) : Int) = D.I a ∧ (↑(List.length (latR (D.I a) (allL (D.I a) (D.L b)) (D.I c)).fst) : Int) = D.I a ∧ (↑(List.length (subR (pushR (D.I a) (allL (D.I a) (D.L b)) (zeros (D.I a))).fst 0 (Int.toNat (D.I a)) (latR (D.I a) (allL (D.I a) (D.L b)) (D.I c)).fst)) : Int) = D.I a ∧ (↑(List.length (latR (D.I a) (allL (D.I a) (D.L b)) (D.I c)).fst) : Int) = D.I a ∧ (↑(List.length (refR (D.I a) (D.L b) (zeros (D.I a))).fst) : Int) = D.I a ∧ bndR (latR (D.I a) (allL (D.I a) (D.L b)) (D.I c)).fst (1099511627776 : Int) ∧ bndR (refR (D.I a) (D.L b) (zeros (D.I a))).fst (1099511627776 : Int) ∧ (0 : Int) ≤ (0 : Int) ∧ (0 : Int) ≤ D.I a)) (T.ite (allFrom (slackB (D.I c) (latR (D.I a) (allL (D.I a) (D.L b)) (D.I c)).fst (subR (pushR (D.I a) (allL (D.I a) (D.L b)) (zeros (D.I a))).fst 0 (Int.toNat (D.I a)) (latR (D.I a) (allL (D.I a) (D.L b)) (D.I c)).fst) (latR (D.I a) (allL (D.I a) (D.L b)) (D.I c)).fst (refR (D.I a) (D.L b) (zeros (D.I a))).fst) (Int.toNat (0 : Int)) (Int.toNat (D.I a) - Int.toNat (0 : Int))) (T.leaf [D.b true]) (T.leaf [D.b false])))))))))))))))))))))) := by kernel_rfl
theorem t1012_14 (a b c d e f g h i j k : D) : roundT C tab1012 12 (loopOf C.P 12 14) l1012_14 [a, b, c, d, e, f, g, h, i, j, k] =
  T.ite (decide (D.I g < D.I a)) (T.need (decide ((0 : Int) ≤ D.I g ∧ D.I g < (↑(Int.toNat (D.I d)) : Int))) (T.need (decide (Int.toNat (D.I g) < List.length (D.L i))) (T.need (decide ((0 : Int) ≤ D.I g ∧ D.I g < (↑(Int.toNat (D.I e)) : Int))) (T.need (decide (Int.toNat (D.I g) < List.length (D.L j))) (T.need (decide ((0 : Int) ≤ D.I g ∧ D.I g < (↑(Int.toNat (D.I f)) : Int))) (T.need (decide (Int.toNat (D.I g) < List.length (D.L k))) (T.ite (D.I (List.getD (List.getD (D.L i) (Int.toNat (D.I g)) []) 0 default) != IntKind.wrap IntKind.i64 (D.I (List.getD (List.getD (D.L j) (Int.toNat (D.I g)) []) 0 default) - D.I (List.getD (List.getD (D.L k) (Int.toNat (D.I g)) []) 0 default))) (T.leaf (Rd.out Ex.ret [D.b false])) (T.need (decide ((0 : Int) ≤ D.I g ∧ D.I g < (↑(Int.toNat (D.I d)) : Int))) (T.need (decide (Int.toNat (D.I g) < List.length (D.L i))) (T.ite (decide (D.I (List.getD (List.getD (D.L i) (Int.toNat (D.I g)) []) 0 default) < (0 : Int))) (T.leaf (Rd.out Ex.ret [D.b false])) (T.need (decide ((0 : Int) ≤ D.I g ∧ D.I g < (↑(Int.toNat (D.I c)) : Int))) (T.need (decide (Int.toNat (D.I g) < List.length (D.L h))) (T.ite (decide (D.I (List.getD (List.getD (D.L h) (Int.toNat (D.I g)) []) 0 default) > D.I b)) (T.leaf (Rd.out Ex.ret [D.b false])) (T.leaf (Rd.again [D.i (D.I a), D.i (D.I b), D.i (↑(Int.toNat (D.I c)) : Int), D.i (↑(Int.toNat (D.I d)) : Int), D.i (↑(Int.toNat (D.I e)) : Int), D.i (↑(Int.toNat (D.I f)) : Int), D.i (IntKind.wrap IntKind.i64 (D.I g + (1 : Int))), D.l (D.L h), D.l (D.L i), D.l (D.L j), D.l (D.L k)]))))))))))))))) (T.leaf (Rd.out (Ex.exit 0) [])) := by kernel_rfl
theorem t2012 (a b c : D) : fnT C tab2012 12 s2012 [a, b, c] =
  T.ite (!fewB (D.I a) (D.L b)) (T.leaf [D.b true]) (T.need (yes (List.length (D.L b) < big ∧ latOk (D.I a) (D.L b) (D.I c) = false)) (T.need (yes (List.length (D.L b) < big ∧ latOk (D.I a) (D.L b) (D.I c) = false)) (T.need (yes (List.length (D.L b) < big)) (T.ite (!netOk (D.I a) (D.L b)) (T.ite (latErr (D.I a) (D.L b) (D.I c) == (2 : Int)) (T.ite (latErr (D.I a) (D.L b) (D.I c) == (2 : Int)) (T.ite true (T.leaf [D.b true]) (T.leaf [D.b false])) (T.leaf [D.b false])) (T.leaf [D.b false])) (T.ite (decide (D.I c < (0 : Int))) (T.ite (latErr (D.I a) (D.L b) (D.I c) == (2 : Int)) (T.ite (latErr (D.I a) (D.L b) (D.I c) == (2 : Int)) (T.ite true (T.leaf [D.b true]) (T.leaf [D.b false])) (T.leaf [D.b false])) (T.leaf [D.b false])) (T.ite (decide (D.I c > (1000000000 : Int))) (T.ite (latErr (D.I a) (D.L b) (D.I c) == (2 : Int)) (T.ite (latErr (D.I a) (D.L b) (D.I c) == (2 : Int)) (T.ite true (T.leaf [D.b true]) (T.leaf [D.b false])) (T.leaf [D.b false])) (T.leaf [D.b false])) (T.need (yes (netP (D.I a) (D.L b) ∧ (0 : Int) ≤ D.I c ∧ D.I c ≤ (1000000000 : Int))) (T.ite (latR (D.I a) (allL (D.I a) (D.L b)) (D.I c)).snd (T.ite true (T.ite (latErr (D.I a) (D.L b) (D.I c) == (5 : Int)) (T.ite (latErr (D.I a) (D.L b) (D.I c) == (5 : Int)) (T.ite true (T.leaf [D.b true]) (T.leaf [D.b false])) (T.leaf [D.b false])) (T.leaf [D.b false])) (T.need (yes (netP (D.I a) (D.L b))) (T.ite (latErr (D.I a) (D.L b) (D.I c) != (0 : Int)) (T.leaf [D.b false]) (T.ite (latErr (D.I a) (D.L b) (D.I c) != (0 : Int)) (T.leaf [D.b false]) (T.need (yes (List.length ([] : List (List D)) < big)) (T.ite false (T.leaf [D.b false]) (T.need (yes (List.length (D.L b) < big ∧ List.length ([] : List (List D)) < big ∧ ∀ (j : Nat), rg [] j < (9223372036854775808 : Int))) (T.ite (!(netOk (D.I a) (D.L b) && keepsB (D.I a) (D.L b) [])) (T.leaf [D.b false]) (T.ite ((↑0 : Int) != D.I a) (T.leaf [D.b false]) T.fail))))))))) (T.ite (!rg (latR (D.I a) (allL (D.I a) (D.L b)) (D.I c)).fst 0 == (0 : Int)) (T.ite (latErr (D.I a) (D.L b) (D.I c) == (5 : Int)) (T.ite (latErr (D.I a) (D.L b) (D.I c) == (5 : Int)) (T.ite true (T.leaf [D.b true]) (T.leaf [D.b false])) (T.leaf [D.b false])) (T.leaf [D.b false])) (T.need (yes (netP (D.I a) (D.L b))) (T.ite (latErr (D.I a) (D.L b) (D.I c) != (0 : Int)) (T.leaf [D.b false]) (T.ite (latErr (D.I a) (D.L b) (D.I c) != (0 : Int)) (T.leaf [D.b false]) (T.need (decide (Int.toNat (D.I a) ≤ List.length (latR (D.I a) (allL (D.I a) (D.L b)) (D.I c)).fst)) (T.need (yes (List.length ([] : List (List D)) < big)) (T.ite (!sameR [] (List.take (Int.toNat (D.I a)) (latR (D.I a) (allL (D.I a) (D.L b)) (D.I c)).fst)) (T.leaf [D.b false]) (T.need (yes (List.length (D.L b) < big ∧ List.length ([] : List (List D)) < big ∧ ∀ (j : Nat), rg [] j < (9223372036854775808 : Int))) (T.ite (!(netOk (D.I a) (D.L b) && keepsB (D.I a) (D.L b) [])) (T.leaf [D.b false]) (T.ite ((↑0 : Int) != D.I a) (T.leaf [D.b false]) T.fail)))))))))))))))))) := by kernel_rfl
end Go.Proofs.Ytipbcpobnciccaa

namespace Go.Proofs.Ytipbcpobnciccaa
open Go.Lite Go.ChangeShapes Go.WideShapes Go.ChangeAt Go.RowKit

def timetableLatestLaw : Prop := ∀ xs : List AV, ArgsShape Try.prog 12 [3, 22, 3] xs → ∃ n h', callA C n Unit none 12 xs [] () = some (.bool true, h', ())
theorem timetableLatest_plain : ∀ t ∈ [3, 22, 3], plainTy Try.prog 12 t = true := by
  intro t ht
  have h : [3, 22, 3].all (plainTy Try.prog 12) = true := by kernel_rfl
  exact List.all_eq_true.1 h t ht
set_option maxRecDepth 100000 in
theorem timetableLatest_lifted (law : timetableLatestLaw) (os : Os) (started : os.Started) (H : Type) (enc : TypeId × Value → H) :
    ReturnsInHanded {} Try.checked os 12 .any (Rows.timetableLatestSpec.pre6 enc Try.prog Try.f12 Rows.timetableLatestRow.domain false) (Rows.timetableLatestSpec.post enc Try.prog Try.f12 false true false false) := by
  refine returnsInHanded_of_change (C := Try.checked) own started (by kernel_rfl) Try.func12
    (ChangeSpec.witness6 (enc := enc) (C := Try.checked) false ⟨#[], #[.int .i64 0, .slice none 0 0, .int .i64 0], []⟩ 8 (by kernel_rfl) (by kernel_rfl) (by kernel_rfl) (by kernel_rfl)) ?_
  intro W base args ds gs before hval0 hW hcnd _
  have hval : ∀ (j : Nat) t v, Try.f12.params[j]? = some t → args[j]? = some v → Value.okWide Try.prog W .any base t v := hval0
  have hW' := hW
  obtain ⟨p, q, hA0, hV, rfl, hfz, hnd⟩ := hW
  have hA : DataW.TrodAll enc Try.prog W 0 (fun _ => true) true Try.f12.params.toList args.toList ds p := hA0
  have hAk := hA
  rw [Try.params12] at hA hval
  obtain ⟨xs, hs, hr⟩ := args_shape (J := fun _ => False) (d := 12) (fun t ht => timetableLatest_plain t (by simpa using ht)) (fun j t v h1 h2 => hval j t v (by simpa using h1) (by simpa using h2)) hA
  obtain ⟨n, h', hc⟩ := law xs hs
  obtain ⟨v0, vs0, d0, ds0, p0, q0, hargs, rfl, rfl, h0, r0⟩ := trodAll_cons hA
  obtain ⟨v1, vs1, d1, ds1, p1, q1, rfl, rfl, rfl, h1, r1⟩ := trodAll_cons r0
  obtain ⟨v2, vs2, d2, ds2, p2, q2, rfl, rfl, rfl, h2, r2⟩ := trodAll_cons r1
  obtain ⟨rfl, rfl, rfl⟩ := trodAll_nil r2
  obtain rfl : args = #[v0, v1, v2] := by cases args; simp_all
  obtain ⟨rfl, rfl⟩ := trodVars_none hV
  clear hA0 hval0
  simp only [List.append_nil] at hW'
  refine (law_calls (callsOk n) hc hr).mono fun e W' ⟨he, h1, h2, hk⟩ => ?_
  subst he
  have hlt : ∀ x ∈ p0 ++ p1 ++ p2, x.block < W.heap.size := fun x hx => hW'.lt x (by simpa [List.append_assoc] using hx)
  exact ⟨_, rfl, post_of_kept (pa := p0 ++ p1 ++ p2) (pv := []) hW' (fun _ _ _ => trodAll_mk1 (shut_bool Try.underlying4 _))
    (fun sp hsp => trodAll_carry (DataW.TrodAll.respare kids full (by rw [Try.params12]; decide) (by simpa [List.append_assoc, Rows.timetableLatestSpec] using hAk) (fun x hx => hsp x (by simpa [List.append_assoc] using hx))) (fun x hx => sameAt_of (hk _ (hlt x hx))))
    (fun _ _ => rfl) (by simp [List.append_assoc]) h1 h2 hk (ok_one (by kernel_rfl) rfl (okWide_bool_mk Try.underlying4 _))⟩
theorem timetableLatest_over (law : timetableLatestLaw) : Rows.TimetableLatestSaid :=
  OpenClaim.holds_of_wide 12 Try.f12 rfl rfl rfl rfl rfl rfl rfl ⟨rfl, rfl, rfl, rfl, rfl⟩ rfl rfl rfl rfl rfl (by kernel_rfl) Try.func12 (by kernel_rfl)
    (of_decide_eq_true (by kernel_rfl)) (by unfold Func.isWrapper; first | (rw [if_pos (by decide +kernel)]; kernel_rfl) | (rw [if_neg (by decide +kernel)]; exact ⟨rfl, rfl⟩))
    (fun os started H enc _ => timetableLatest_lifted law os started H enc)
end Go.Proofs.Ytipbcpobnciccaa

namespace Go.Proofs.Ytipbcpobnciccaa
open Go.Lite
set_option maxRecDepth 100000
theorem ok1033 (n : Nat) : FnOK C (n + 7) 33 (mkF s1033 G1033) := fn_cut 1 (ok33 n) (by decide) rfl fun ds r h => by
  unfold G1033 at h
  split at h
  · rename_i n l x
    obtain ⟨hp, h⟩ := need_some h
    rw [yes_iff] at hp
    obtain ⟨h1, h2⟩ := hp
    unfold latOk at h2
    rw [Bool.and_eq_true] at h2
    cases h
    exact go_yes h1 (go_true h2.1 (go_true h2.2 rfl))
  · cases h
theorem ok2033 (n : Nat) : FnOK C (n + 7) 33 (mkF s2033 G2033) := fn_cut 0 (ok33 n) (by decide) rfl fun ds r h => by
  unfold G2033 at h
  split at h
  · rename_i n l x
    obtain ⟨hp, h⟩ := need_some h
    rw [yes_iff] at hp
    obtain ⟨h1, h2⟩ := hp
    unfold latOk at h2
    cases h
    refine go_yes h1 (go_ite (fun c1 => ?_) fun c1 => ?_)
    · rw [c1, Bool.true_and] at h2
      exact go_false h2 (by unfold latErr; rw [c1]; rfl)
    · unfold latErr; rw [c1]; rfl
  · cases h
theorem ok1039 (n : Nat) : FnOK C (n + 7) 39 (mkF s1039 G1039) := fn_cut 1 (ok39 n) (by decide) rfl fun ds r h => by
  unfold G1039 at h
  split at h
  · rename_i n l x
    obtain ⟨hp, h⟩ := need_some h
    rw [yes_iff] at hp
    obtain ⟨h1, h2⟩ := hp
    unfold latOk at h2
    rw [Bool.and_eq_true] at h2
    cases h
    exact go_yes h1 (go_true h2.1 (go_true h2.2 rfl))
  · cases h
theorem ok2039 (n : Nat) : FnOK C (n + 7) 39 (mkF s2039 G2039) := fn_cut 0 (ok39 n) (by decide) rfl fun ds r h => by
  unfold G2039 at h
  split at h
  · rename_i n l x
    obtain ⟨hp, h⟩ := need_some h
    rw [yes_iff] at hp
    obtain ⟨h1, h2⟩ := hp
    unfold latOk at h2
    cases h
    refine go_yes h1 (go_ite (fun c1 => ?_) fun c1 => ?_)
    · rw [c1, Bool.true_and] at h2
      exact go_false h2 (by unfold latErr; rw [c1]; rfl)
    · unfold latErr; rw [c1]; rfl
  · cases h
theorem ok1040 (n : Nat) : FnOK C (n + 2) 40 (mkF s1040 G1040) := fn_cut 1 (ok40 n) (by decide) rfl fun ds r h => by
  unfold G1040 at h
  split at h
  · rename_i n l x
    obtain ⟨hp, h⟩ := need_some h
    rw [yes_iff] at hp
    obtain ⟨h1, h2, h3, h4⟩ := hp
    cases h
    exact go_yes ⟨h1, h2, h3⟩ (go_false h4 rfl)
  · cases h
theorem ok1012_14 : LoopSim C 12 12 (loopOf C.P 12 14) (mkL l1012_14 G1012_14) := by
  refine loop_ofK hC (sp := sp1012) (lp := lp1012) (sw := sw1012) ⟨ok15 11, ok16, ok1033 5, ok1039 5, ok18 10, ok1040 10, ok19 8, ok21 11, ok31 6, trivial⟩ trivial 0 [] (by kernel_rfl) rfl (fun k hk => by cases hk) (by kernel_rfl) (fun ds => ((ds.getD 0 default).I - (ds.getD 6 default).I).toNat) fun ds rr h => ?_
  unfold G1012_14 at h
  split at h
  · rename_i n x q1 q2 q3 q4 i t s w f
    obtain ⟨hp, h⟩ := need_some h
    rw [yes_iff] at hp
    obtain ⟨hn0, hn1, h2, h3, h4, h5, h6, h7, h8, h9, hw, hf, hi0, hi1⟩ := hp
    have hb := big_eq
    refine ⟨by rw [fuelC]; simp; omega, ?_⟩
    rw [show roundTK C (mkTab sp1012 lp1012 sw1012) 12 (loopOf C.P 12 14) 0 l1012_14 [n, x, q1, q2, q3, q4, i, t, s, w, f] = _ from t1012_14 n x q1 q2 q3 q4 i t s w f]
    obtain ⟨j, hj⟩ : ∃ j : Nat, i.I = j := ⟨i.I.toNat, by omega⟩
    obtain ⟨m, hm⟩ : ∃ m : Nat, n.I = m := ⟨n.I.toNat, by omega⟩
    simp only [hj, hm, Int.toNat_natCast, rg_def] at h hn0 hn1 h2 h3 h4 h5 h6 h7 h8 h9 hi0 hi1 ⊢
    refine rd_if (fun hlt => ?_) fun hge => rd_out (all_end h (by omega))
    obtain ⟨z1, z2⟩ := all_step h (by omega)
    have b1 := hw j
    have b2 := hf j
    rw [wrap_succ (by omega), wrap_id (by omega) (by omega)]
    refine rd_dec (by omega) (rd_dec (by omega) (rd_dec (by omega) (rd_dec (by omega) (rd_dec (by omega) (rd_dec (by omega) ?_)))))
    by_cases c1 : rg s.L j = rg w.L j - rg f.L j
    case neg => exact rd_true (bne_iff_ne.2 c1) (rd_out (z1 (by unfold slackB; rw [beq_false_of_ne c1, Bool.false_and])))
    refine rd_false (by rw [bne_eq_false_iff_eq]; exact c1) (rd_dec (by omega) (rd_dec (by omega) (rd_if (fun c2 => rd_out (z1 (by unfold slackB; rw [decide_eq_false (by omega : ¬ 0 ≤ rg s.L j), Bool.false_and, Bool.and_false]))) fun c2 => rd_dec (by omega) (rd_dec (by omega) ?_))))
    refine rd_if (fun c3 => rd_out (z1 (by unfold slackB; rw [decide_eq_false (by omega : ¬ rg t.L j ≤ x.I), Bool.and_false, Bool.and_false]))) fun c3 => ?_
    have z3 := z2 (by unfold slackB; rw [beq_iff_eq.2 c1, decide_eq_true (by omega : 0 ≤ rg s.L j), decide_eq_true (by omega : rg t.L j ≤ x.I)]; rfl)
    refine rd_again ((need_yes ⟨by simp only [I_i]; omega, by simp only [I_i]; omega, by simp only [I_i]; omega, by simp only [I_i]; omega, by simp only [I_i]; omega, by simp only [I_i]; omega, h6, h7, h8, h9, hw, hf, by simp only [I_i]; omega, by simp only [I_i]; omega⟩).trans ?_) ?_
    · simp only [I_i, L_l, Int.toNat_natCast]
      exact z3
    · simp only [List.getD_cons_zero, List.getD_cons_succ, I_i, hj, hm]
      omega
  · cases h
theorem lat_in {a c : D} {l : List (List D)} (h : latOk a.I l c.I = true) : netOk a.I l = true ∧ (0 ≤ c.I ∧ c.I ≤ 1000000000) ∧ bothB a.I l c.I = true := by
  unfold latOk at h
  rw [Bool.and_eq_true, Bool.and_eq_true, within_dec, decide_eq_true_eq] at h
  exact ⟨h.1.1, h.1.2, h.2⟩
theorem law12a {a b c : D} (hc : latOk a.I b.L c.I = true) : (fnT C tab1012 12 s1012 [a, b, c]).run = some [D.b true] := by
  have hbig := big_eq
  refine (congrArg T.run (t1012 a b c)).trans ?_
  refine go_not (fun _ => rfl) fun hf => ?_
  have hb : b.L.length < big := by have := few_lt hf; omega
  obtain ⟨hn, ⟨x0, x1⟩, hB⟩ := lat_in hc
  have hp : netP a.I b.L := hn
  obtain ⟨k1, k2, k3, k4⟩ := net_of hp
  have hl := good_all hp
  have hla := len_allL a.I b.L
  have hll := len_lastR k1 c.I
  have hlat : (latR a.I (allL a.I b.L) c.I).1.length = a.I.toNat := (len_roundsL _ _ _).trans hll
  obtain ⟨y1, y2, y3, y4, y5⟩ := both_lat hp x0 hB
  have hpush : (pushR a.I (allL a.I b.L) (zeros a.I)).2.2 < 0 := by
    unfold bothB at hB
    rw [Bool.and_eq_true, decide_eq_true_eq] at hB
    exact hB.1
  obtain ⟨f0, f1⟩ := push_first hp hpush
  have ht : List.take a.I.toNat (latR a.I (allL a.I b.L) c.I).1 = (latR a.I (allL a.I b.L) c.I).1 := List.take_of_length_le (by omega)
  have hk : keepsB a.I b.L (latR a.I (allL a.I b.L) c.I).1 = true := by
    unfold keepsB
    simp only [Bool.and_eq_true, decide_eq_true_eq, allFrom_iff, beq_iff_eq]
    refine ⟨by omega, fun j _ _ => ?_, y2, fun j _ hj => ?_⟩
    · have := f0 j; have := y3 j
      rw [decide_eq_false (by omega)]; rfl
    · have := y4 j (by show j < (allL a.I b.L).length; omega)
      simp only [netN] at this
      unfold keptF
      exact decide_eq_true (by omega)
  refine go_yes ⟨hb, hc⟩ (go_yes ⟨hb, hc⟩ (go_yes hb (go_notT hn (go_neg (by omega) (go_neg (by omega) (go_yes ⟨hp, x0, x1, y1⟩ ?_))))))
  obtain ⟨z1, z2⟩ := ref_push hp
  have hrb : bndR (refR a.I b.L (zeros a.I)).1 1099511627776 := fun j => by
    rw [z1]; have := f0 j; have := y3 j; have := y5 j; omega
  refine go_notT (beq_iff_eq.2 y2) (go_yes hp (go_false rfl (go_false rfl (go_dec (by omega) (go_dec (by omega) ?_)))))
  rw [ht]
  refine go_yes (by omega) (go_notT (sameR_refl _) (go_dec (by omega) (go_yes ⟨hb, by omega, fun j => by have := y5 j; omega⟩ (go_notT (by rw [hn, hk]; rfl) (go_false (by rw [bne_eq_false_iff_eq]; omega) ?_)))))
  have hsl := len_subR (pushR a.I (allL a.I b.L) (zeros a.I)).1 a.I.toNat 0 (latR a.I (allL a.I b.L) c.I).1
  refine go_yes ⟨by omega, k2, by omega, by omega, by omega, by omega, by omega, by omega, by omega, by rw [z1]; omega, fun j => ?_, hrb, by omega, by omega⟩ (go_true ?_ rfl)
  · have := f0 j; have := y3 j; have := y5 j; omega
  · rw [allFrom_iff]
    intro j _ hj
    have h1 := rg_subR (pushR a.I (allL a.I b.L) (zeros a.I)).1 a.I.toNat 0 (latR a.I (allL a.I b.L) c.I).1 (by omega) j
    rw [if_pos ⟨by omega, by have : (0 : Int).toNat = 0 := rfl; omega⟩] at h1
    have h2 := y3 j
    have h3 := y5 j
    unfold slackB
    rw [z1, h1, beq_self_eq_true, decide_eq_true (by omega), decide_eq_true (by omega)]
    rfl
theorem law12b {a b c : D} (hc : latOk a.I b.L c.I = false) : (fnT C tab2012 12 s2012 [a, b, c]).run = some [D.b true] := by
  have hbig := big_eq
  refine (congrArg T.run (t2012 a b c)).trans ?_
  refine go_not (fun _ => rfl) fun hf => ?_
  have hb : b.L.length < big := by have := few_lt hf; omega
  refine go_yes ⟨hb, hc⟩ (go_yes ⟨hb, hc⟩ (go_yes hb ?_))
  have hc2 := hc
  unfold latOk at hc2
  by_cases hnw : (netOk a.I b.L && Lite.within c.I 0 1000000000) = true
  case neg =>
    have hnw' : (netOk a.I b.L && Lite.within c.I 0 1000000000) = false := by simpa using hnw
    have he : latErr a.I b.L c.I = 2 := by unfold latErr; rw [hnw']; rfl
    rw [he]
    refine go_not (fun _ => go_true rfl (go_true rfl (go_true rfl rfl))) fun hn => ?_
    rw [hn, Bool.true_and] at hnw'
    refine go_if (fun _ => go_true rfl (go_true rfl (go_true rfl rfl))) fun c1 => go_if (fun _ => go_true rfl (go_true rfl (go_true rfl rfl))) fun c2 => ?_
    rw [within_dec, decide_eq_false_iff_not] at hnw'
    exact absurd ⟨by omega, by omega⟩ hnw'
  have he : latErr a.I b.L c.I = 5 := by unfold latErr; rw [hnw]; rfl
  rw [hnw, Bool.true_and] at hc2
  rw [Bool.and_eq_true, within_dec, decide_eq_true_eq] at hnw
  obtain ⟨hn, x0, x1⟩ := hnw
  have hp : netP a.I b.L := hn
  rw [he]
  refine go_notT hn (go_neg (by omega) (go_neg (by omega) (go_yes ⟨hp, x0, x1⟩ ?_)))
  refine go_ite (fun _ => go_true rfl (go_true rfl (go_true rfl (go_true rfl rfl)))) fun d1 => go_not (fun _ => go_true rfl (go_true rfl (go_true rfl rfl))) fun d2 => ?_
  exact absurd (lat_both hp x0 d1 (beq_iff_eq.1 d2)) (by rw [hc2]; decide)
set_option maxRecDepth 100000 in
theorem timetableLatest_law : timetableLatestLaw := fun xs hx =>
  law_cases (f := 12) (ks := s12.args) (by kernel_rfl) (ts := [3, 22, 3]) (by kernel_rfl) (of_decide_eq_true (by kernel_rfl)) (m := 3) (by kernel_rfl) (fun ds hl _ => by
      match ds, hl with
      | [a, b, c], _ =>
        by_cases hc : latOk a.I b.L c.I = true
        · exact case_of (sp := sp1012) (lp := lp1012) (sw := sw1012) 12 ⟨ok15 11, ok16, ok1033 5, ok1039 5, ok18 10, ok1040 10, ok19 8, ok21 11, ok31 6, trivial⟩ trivial [14] (by kernel_rfl) (by kernel_rfl) (fun k hk L hL => by simp at hk; subst hk; cases hL; exact ok1012_14) (law12a hc)
        · exact case_of (sp := sp2012) (lp := lp2012) (sw := sw2012) 12 ⟨ok15 11, ok16, ok2033 5, ok2039 5, ok18 10, ok40 10, ok19 8, ok21 11, ok31 6, trivial⟩ trivial [14] (by kernel_rfl) (by kernel_rfl) (fun k hk L hL => by cases hL) (law12b (by simpa using hc))) 12 xs hx
theorem timetable_latest : Rows.TimetableLatestSaid := timetableLatest_over timetableLatest_law
end Go.Proofs.Ytipbcpobnciccaa
