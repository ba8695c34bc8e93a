/-
  Shapes of arguments, results and loops. Written by program.
  What the functions about timetables and proofs compute.
  Tables. Written by program.
  What the rounds and the functions come to. Written by program.
  The functions about timetables and proofs compute what their words say.
-/
import Derived.Test.YtipbcpobnciccaaTimGC
namespace Go.Proofs.Ytipbcpobnciccaa
open Go.Lite
def s20 : Sig := ⟨[.k (.int .i64), .k (.ro [.int .i64, .int .i64, .int .i64]), .k (.ro [.int .i64]), .k (.int .i64)], [(.tup [.k (.int .i64), .k (.int .i64), .k .bool], [])]⟩
def l20_4 : LSig := mkLS [2, 3, 11, 12, 13] [(64, [(2, .k (.ro [.int .i64])), (3, .k (.int .i64)), (11, .nils), (12, .k (.int .i64)), (13, .k (.int .i64))], []), (64, [(2, .k (.ro [.int .i64])), (3, .k (.int .i64)), (11, .sl 0 3), (12, .k (.int .i64)), (13, .k (.int .i64))], [.row [.int .i64, .int .i64, .int .i64]])] [(.ret, [8, 9, 10], [(64, [(8, .k (.int .i64)), (9, .k (.int .i64)), (10, .k .bool)], [])]), (.exit 0, [3, 12], [(64, [(3, .k (.int .i64)), (12, .k (.int .i64))], [])])]
def s29 : Sig := ⟨[.k (.int .i64), .k (.ro [.int .i64, .int .i64, .int .i64]), .k (.ro [.int .i64])], [(.k .bool, [])]⟩
def s30 : Sig := ⟨[.k (.int .i64), .k (.ro [.int .i64, .int .i64, .int .i64]), .k (.ro [.int .i64])], [(.k .bool, [])]⟩
def l30_6 : LSig := mkLS [2, 7, 8, 25, 26, 27] [(107, [(2, .k (.ro [.int .i64])), (7, .ptr 0 2 0 0), (8, .k (.int .i64)), (25, .k (.ro [.int .i64])), (26, .k (.int .i64)), (27, .k (.int .i64))], [.box [.k (.int .i64), .sl 1 3], .row [.int .i64, .int .i64, .int .i64]]), (107, [(2, .k (.ro [.int .i64])), (7, .ptr 0 2 0 0), (8, .k (.int .i64)), (25, .k (.ro [.int .i64])), (26, .k (.int .i64)), (27, .k (.int .i64))], [.box [.k (.int .i64), .emp 3]])] [(.ret, [6], [(107, [(6, .k .bool)], [])]), (.exit 0, [2, 7, 8], [(107, [(2, .k (.ro [.int .i64])), (7, .ptr 0 2 0 0), (8, .k (.int .i64))], [.box [.k (.int .i64), .sl 1 3], .row [.int .i64, .int .i64, .int .i64]]), (107, [(2, .k (.ro [.int .i64])), (7, .ptr 0 2 0 0), (8, .k (.int .i64))], [.box [.k (.int .i64), .emp 3]])])]
def s21 : Sig := ⟨[.k (.ro [.int .i64]), .k (.ro [.int .i64])], [(.k .bool, [])]⟩
def l21_4 : LSig := mkLS [0, 1, 5] [(26, [(0, .k (.ro [.int .i64])), (1, .k (.ro [.int .i64])), (5, .k (.int .i64))], [])] [(.ret, [4], [(26, [(4, .k .bool)], [])]), (.exit 0, [], [(26, [], [])])]
def s32 : Sig := ⟨[.k (.int .i64), .k (.ro [.int .i64, .int .i64, .int .i64]), .k (.ro [.int .i64])], [(.k .bool, [])]⟩
def l32_4 : LSig := mkLS [0, 1, 2, 7] [(59, [(0, .k (.int .i64)), (1, .k (.ro [.int .i64, .int .i64, .int .i64])), (2, .k (.ro [.int .i64])), (7, .k (.int .i64))], [])] [(.ret, [6], [(59, [(6, .k .bool)], [])]), (.exit 0, [1, 2], [(59, [(1, .k (.ro [.int .i64, .int .i64, .int .i64])), (2, .k (.ro [.int .i64]))], [])])]
def l32_9 : LSig := mkLS [1, 2, 8] [(59, [(1, .k (.ro [.int .i64, .int .i64, .int .i64])), (2, .k (.ro [.int .i64])), (8, .k (.int .i64))], [])] [(.ret, [6], [(59, [(6, .k .bool)], [])]), (.exit 2, [], [(59, [], [])])]
def s15 : Sig := ⟨[.k (.int .i64), .k (.ro [.int .i64, .int .i64, .int .i64])], [(.k .bool, [])]⟩
def s64 : Sig := ⟨[.agg [.k (.int .i64), .k (.int .i64), .k (.int .i64)], .eptr [.k (.ro [.int .i64])]], [(.k .bool, [])]⟩
def s1051 : Sig := ⟨[.k (.ro [.int .i64, .int .i64, .int .i64]), .fn 64 [] [.eptr [.k (.ro [.int .i64])]]], [(.k (.int .i64), [])]⟩
def l1051_2 : LSig := mkLS [0, 1, 7, 8] [(19, [(0, .k (.ro [.int .i64, .int .i64, .int .i64])), (1, .fn 64 [] [.eptr [.k (.ro [.int .i64])]]), (7, .k (.int .i64)), (8, .k (.int .i64))], [])] [(.ret, [4], [(19, [(4, .k (.int .i64))], [])]), (.exit 0, [], [(19, [], [])])]
def s1063 : Sig := ⟨[.k (.ro [.int .i64, .int .i64, .int .i64]), .fn 64 [] [.eptr [.k (.ro [.int .i64])]]], [(.k .bool, [])]⟩
def s62 : Sig := ⟨[.k (.int .i64)], [(.k .bool, [])]⟩
def s80 : Sig := ⟨[.k (.ro [.int .i64]), .fn 62 [] []], [(.k (.int .i64), [])]⟩
def l80_2 : LSig := mkLS [0, 1, 7, 8] [(19, [(0, .k (.ro [.int .i64])), (1, .fn 62 [] []), (7, .k (.int .i64)), (8, .k (.int .i64))], [])] [(.ret, [4], [(19, [(4, .k (.int .i64))], [])]), (.exit 0, [], [(19, [], [])])]
def s61 : Sig := ⟨[.k (.ro [.int .i64]), .fn 62 [] []], [(.k .bool, [])]⟩
def s31 : Sig := ⟨[.k (.int .i64), .k (.ro [.int .i64, .int .i64, .int .i64]), .k (.ro [.int .i64])], [(.k .bool, [])]⟩
end Go.Proofs.Ytipbcpobnciccaa

namespace Go.Proofs.Ytipbcpobnciccaa
open Go.Lite
noncomputable section

/-! ### Chains -/
def weighF (a c : List (List D)) : Nat → Nat → Int → Int → Bool × Int × Int
  | _, 0, s, v => (true, s, v)
  | i, k + 1, s, v => if (0 ≤ rg c i ∧ rg c i ≤ (a.length : Int) - 1) ∧ lkF a (rg c i).toNat = v then weighF a c (i + 1) k (s + lkW a (rg c i).toNat) (lkT a (rg c i).toNat) else (false, 0, 0)
def provesB (n : Int) (a c : List (List D)) : Bool :=
  decide (1 ≤ (c.length : Int) ∧ (c.length : Int) ≤ n) && (decide (0 ≤ rg c 0 ∧ rg c 0 ≤ (a.length : Int) - 1) && ((weighF a c 0 c.length 0 (lkF a (rg c 0).toNat)).1 &&
    ((weighF a c 0 c.length 0 (lkF a (rg c 0).toNat)).2.2 == lkF a (rg c 0).toNat && decide ((weighF a c 0 c.length 0 (lkF a (rg c 0).toNat)).2.1 > 0))))
/-- Where a chain is before a link. -/
def atB (a c : List (List D)) (i : Nat) : Int := if i = 0 then lkF a (rg c 0).toNat else lkT a (rg c (i - 1)).toNat

/-! ### Timetables -/
def keptF (l t : List (List D)) (j : Nat) : Bool := decide (lkW l j ≤ rg t (lkT l j).toNat - rg t (lkF l j).toNat)
def keepsB (n : Int) (l t : List (List D)) : Bool := decide ((t.length : Int) = n) && (allFrom (fun j => !decide (rg t j < 0)) 0 t.length && (rg t 0 == 0 && allFrom (keptF (allL n l) t) 0 (allL n l).length))
def timeB (t : List (List D)) (j : Nat) : Bool := decide (0 ≤ rg t j) && decide (rg t j ≤ 1099511627776)
def keepsR (n : Int) (l t : List (List D)) : Bool := decide ((t.length : Int) = n) && (rg t 0 == 0 && (allFrom (timeB t) 0 t.length && allFrom (keptF l t) 0 l.length))
def sameR (a b : List (List D)) : Bool := decide (a.length = b.length) && allFrom (fun j => rg a j == rg b j) 0 a.length
def fewB (n : Int) (l : List (List D)) : Bool := (decide (n ≤ 12) || decide (n > 500)) && (decide ((l.length : Int) ≤ 30) || (decide ((l.length : Int) > 5000) && decide ((l.length : Int) < 5200)))
def posR (t : List (List D)) : Prop := ∀ j, 0 ≤ rg t j ∧ rg t j < 9223372036854775808

/-! ### The functions -/
def G16 (ds : List D) : T (List D) := match ds with
  | [] => .leaf [.b true]
  | _ => .fail
def G15 (ds : List D) : T (List D) := match ds with
  | [n, l] => .leaf [.b (fewB n.I l.L)]
  | _ => .fail
def G20 (ds : List D) : T (List D) := match ds with
  | [n, l, c, v] => .need (yes (netP n.I l.L ∧ c.L.length ≤ 1000000)) (.leaf [.i (weighF (allL n.I l.L) c.L 0 c.L.length 0 v.I).2.1, .i (weighF (allL n.I l.L) c.L 0 c.L.length 0 v.I).2.2, .b (weighF (allL n.I l.L) c.L 0 c.L.length 0 v.I).1])
  | _ => .fail
def G20_4 (ds : List D) : T (Ex × List D) := match ds with
  | [j, c, v, m, s, i, a] => .need (yes (j.I = 1 ∧ (∃ n, goodL n a.L) ∧ m.I = a.L.length ∧ c.L.length ≤ 1000000 ∧ 0 ≤ i.I ∧ i.I ≤ c.L.length ∧ -1000000 * i.I ≤ s.I ∧ s.I ≤ 1000000 * i.I))
      (.ite (weighF a.L c.L i.I.toNat (c.L.length - i.I.toNat) s.I v.I).1 (.leaf (.exit 0, [.i (weighF a.L c.L i.I.toNat (c.L.length - i.I.toNat) s.I v.I).2.2, .i (weighF a.L c.L i.I.toNat (c.L.length - i.I.toNat) s.I v.I).2.1])) (.leaf (.ret, [.i 0, .i 0, .b false])))
  | _ => .fail
def G29 (ds : List D) : T (List D) := match ds with
  | [n, l, c] => .need (yes (netP n.I l.L)) (.leaf [.b (provesB n.I (allL n.I l.L) c.L)])
  | _ => .fail
def G30 (ds : List D) : T (List D) := match ds with
  | [n, l, c] => .need (yes (l.L.length < big)) (.leaf [.b (netOk n.I l.L && provesB n.I (allL n.I l.L) c.L)])
  | _ => .fail
def G30_6 (ds : List D) : T (Ex × List D) := match ds with
  | [j, c, s, c', k, i, n, m, a] => .need (yes (j.I = 0 ∧ goodL n.I a.L ∧ m.I = a.L.length ∧ c'.L = c.L ∧ k.I = c.L.length ∧ c.L.length ≤ 500 ∧ 0 ≤ i.I ∧ i.I ≤ c.L.length ∧ -1000000 * i.I ≤ s.I ∧ s.I ≤ 1000000 * i.I ∧ (0 < i.I → 0 ≤ rg c.L (i.I.toNat - 1) ∧ rg c.L (i.I.toNat - 1) < a.L.length)))
      (.ite (weighF a.L c.L i.I.toNat (c.L.length - i.I.toNat) s.I (atB a.L c.L i.I.toNat)).1
        (.leaf (.exit 0, [.i 0, .l c.L, .i (weighF a.L c.L i.I.toNat (c.L.length - i.I.toNat) s.I (atB a.L c.L i.I.toNat)).2.1, .i n.I, .i a.L.length, .l a.L])) (.leaf (.ret, [.b false])))
  | _ => .fail
def G21 (ds : List D) : T (List D) := match ds with
  | [a, b] => .need (yes (a.L.length < big)) (.leaf [.b (sameR a.L b.L)])
  | _ => .fail
def G21_4 (ds : List D) : T (Ex × List D) := match ds with
  | [a, b, i] => .need (yes (a.L.length < big ∧ a.L.length = b.L.length ∧ 0 ≤ i.I ∧ i.I ≤ a.L.length)) (.ite (allFrom (fun j => rg a.L j == rg b.L j) i.I.toNat (a.L.length - i.I.toNat)) (.leaf (.exit 0, [])) (.leaf (.ret, [.b false])))
  | _ => .fail
def G32 (ds : List D) : T (List D) := match ds with
  | [n, l, t] => .need (yes (netP n.I l.L)) (.leaf [.b (keepsR n.I l.L t.L)])
  | _ => .fail
def G32_4 (ds : List D) : T (Ex × List D) := match ds with
  | [n, l, t, i] => .need (yes ((t.L.length : Int) = n.I ∧ 1 ≤ n.I ∧ n.I ≤ 500 ∧ 0 ≤ i.I ∧ i.I ≤ n.I)) (.ite (allFrom (timeB t.L) i.I.toNat (t.L.length - i.I.toNat)) (.leaf (.exit 0, [.l l.L, .l t.L])) (.leaf (.ret, [.b false])))
  | _ => .fail
def G32_9 (ds : List D) : T (Ex × List D) := match ds with
  | [l, t, i] => .need (yes (goodL t.L.length l.L ∧ (∀ j, 0 ≤ rg t.L j ∧ rg t.L j ≤ 1099511627776) ∧ 0 ≤ i.I ∧ i.I ≤ l.L.length)) (.ite (allFrom (keptF l.L t.L) i.I.toNat (l.L.length - i.I.toNat)) (.leaf (.exit 2, [])) (.leaf (.ret, [.b false])))
  | _ => .fail
def G64 (ds : List D) : T (List D) := match ds with
  | [f, t, w, ts] => .need (yes (0 ≤ f.I ∧ f.I < ts.L.length ∧ 0 ≤ t.I ∧ t.I < ts.L.length ∧ posR ts.L)) (.leaf [.b (!decide (w.I ≤ rg ts.L t.I.toNat - rg ts.L f.I.toNat))])
  | _ => .fail
def G1051 (ds : List D) : T (List D) := match ds with
  | [l, ts] => .need (yes (goodL ts.L.length l.L ∧ posR ts.L)) (.leaf [.i (firstFrom (fun j => !keptF l.L ts.L j) 0 l.L.length)])
  | _ => .fail
def G1051_2 (ds : List D) : T (Ex × List D) := match ds with
  | [l, ts, m, i] => .need (yes (goodL ts.L.length l.L ∧ posR ts.L ∧ m.I = l.L.length ∧ 0 ≤ i.I ∧ i.I ≤ l.L.length))
      (.ite (decide (firstFrom (fun j => !keptF l.L ts.L j) i.I.toNat (l.L.length - i.I.toNat) ≥ 0)) (.leaf (.ret, [.i (firstFrom (fun j => !keptF l.L ts.L j) i.I.toNat (l.L.length - i.I.toNat))])) (.leaf (.exit 0, [])))
  | _ => .fail
def G1063 (ds : List D) : T (List D) := match ds with
  | [l, ts] => .need (yes (goodL ts.L.length l.L ∧ posR ts.L)) (.leaf [.b (!allFrom (keptF l.L ts.L) 0 l.L.length)])
  | _ => .fail
def G62 (ds : List D) : T (List D) := match ds with
  | [x] => .leaf [.b (decide (x.I < 0))]
  | _ => .fail
def G80 (ds : List D) : T (List D) := match ds with
  | [l] => .need (yes (l.L.length < big)) (.leaf [.i (firstFrom (fun j => decide (rg l.L j < 0)) 0 l.L.length)])
  | _ => .fail
def G80_2 (ds : List D) : T (Ex × List D) := match ds with
  | [l, m, i] => .need (yes (l.L.length < big ∧ m.I = l.L.length ∧ 0 ≤ i.I ∧ i.I ≤ l.L.length))
      (.ite (decide (firstFrom (fun j => decide (rg l.L j < 0)) i.I.toNat (l.L.length - i.I.toNat) ≥ 0)) (.leaf (.ret, [.i (firstFrom (fun j => decide (rg l.L j < 0)) i.I.toNat (l.L.length - i.I.toNat))])) (.leaf (.exit 0, [])))
  | _ => .fail
def G61 (ds : List D) : T (List D) := match ds with
  | [l] => .need (yes (l.L.length < big)) (.leaf [.b (!allFrom (fun j => !decide (rg l.L j < 0)) 0 l.L.length)])
  | _ => .fail
def G31 (ds : List D) : T (List D) := match ds with
  | [n, l, t] => .need (yes (l.L.length < big ∧ t.L.length < big ∧ ∀ j, rg t.L j < 9223372036854775808)) (.leaf [.b (netOk n.I l.L && keepsB n.I l.L t.L)])
  | _ => .fail
end
end Go.Proofs.Ytipbcpobnciccaa

namespace Go.Proofs.Ytipbcpobnciccaa
open Go.Lite
noncomputable def sp20 : SpL := [(55, mkF s55 G55), (54, mkF s54 G54)]
noncomputable def lp20 : LpL := [(4, mkL l20_4 G20_4)]
noncomputable def sw20 : SwL := []
noncomputable def tab20 : Tab := mkTab sp20 lp20 sw20
noncomputable def sp29 : SpL := [(55, mkF s55 G55), (54, mkF s54 G54), (20, mkF s20 G20)]
noncomputable def lp29 : LpL := []
noncomputable def sw29 : SwL := []
noncomputable def tab29 : Tab := mkTab sp29 lp29 sw29
noncomputable def sp30 : SpL := [(47, mkF s47 G47), (48, mkF s48 G48), (49, mkF s49 G49)]
noncomputable def lp30 : LpL := [(6, mkL l30_6 G30_6)]
noncomputable def sw30 : SwL := []
noncomputable def tab30 : Tab := mkTab sp30 lp30 sw30
noncomputable def sp21 : SpL := []
noncomputable def lp21 : LpL := [(4, mkL l21_4 G21_4)]
noncomputable def sw21 : SwL := []
noncomputable def tab21 : Tab := mkTab sp21 lp21 sw21
noncomputable def sp32 : SpL := [(54, mkF s54 G54)]
noncomputable def lp32 : LpL := [(4, mkL l32_4 G32_4), (9, mkL l32_9 G32_9)]
noncomputable def sw32 : SwL := []
noncomputable def tab32 : Tab := mkTab sp32 lp32 sw32
noncomputable def sp15 : SpL := []
noncomputable def lp15 : LpL := []
noncomputable def sw15 : SwL := []
noncomputable def tab15 : Tab := mkTab sp15 lp15 sw15
noncomputable def sp64 : SpL := []
noncomputable def lp64 : LpL := []
noncomputable def sw64 : SwL := []
noncomputable def tab64 : Tab := mkTab sp64 lp64 sw64
noncomputable def sp1051 : SpL := [(64, mkF s64 G64)]
noncomputable def lp1051 : LpL := [(2, mkL l1051_2 G1051_2)]
noncomputable def sw1051 : SwL := []
noncomputable def tab1051 : Tab := mkTab sp1051 lp1051 sw1051
noncomputable def sp1063 : SpL := [(51, mkF s1051 G1051), (64, mkF s64 G64)]
noncomputable def lp1063 : LpL := []
noncomputable def sw1063 : SwL := []
noncomputable def tab1063 : Tab := mkTab sp1063 lp1063 sw1063
noncomputable def sp62 : SpL := []
noncomputable def lp62 : LpL := []
noncomputable def sw62 : SwL := []
noncomputable def tab62 : Tab := mkTab sp62 lp62 sw62
noncomputable def sp80 : SpL := [(62, mkF s62 G62)]
noncomputable def lp80 : LpL := [(2, mkL l80_2 G80_2)]
noncomputable def sw80 : SwL := []
noncomputable def tab80 : Tab := mkTab sp80 lp80 sw80
noncomputable def sp61 : SpL := [(80, mkF s80 G80), (62, mkF s62 G62)]
noncomputable def lp61 : LpL := []
noncomputable def sw61 : SwL := []
noncomputable def tab61 : Tab := mkTab sp61 lp61 sw61
noncomputable def sp31 : SpL := [(47, mkF s47 G47), (61, mkF s61 G61), (49, mkF s49 G49), (63, mkF s1063 G1063), (64, mkF s64 G64)]
noncomputable def lp31 : LpL := []
noncomputable def sw31 : SwL := []
noncomputable def tab31 : Tab := mkTab sp31 lp31 sw31
end Go.Proofs.Ytipbcpobnciccaa

namespace Go.Proofs.Ytipbcpobnciccaa
open Go.Lite
set_option linter.unusedVariables false
set_option maxRecDepth 100000
theorem t20 (a b c d : D) : fnT C tab20 20 s20 [a, b, c, d] =
  T.need (yes (netP (D.I a) (D.L b))) (T.need (yes ((↑(0 + 1) : Int) = (1 : Int) ∧ (∃ n, goodL n (allL (D.I a) (D.L b))) ∧ (↑(Int.toNat (↑(List.length (allL (D.I a) (D.L b))) : Int)) : Int) = (↑(List.length (allL (D.I a) (D.L b))) : Int) ∧ List.length (D.L c) ≤ 1000000 ∧ (0 : Int) ≤ (0 : Int) ∧ (0 : Int) ≤ (↑(List.length (D.L c)) : Int) ∧ (-1000000 : Int) * (0 : Int) ≤ (0 : Int) ∧ (0 : Int) ≤ (1000000 : Int) * (0 : Int))) (T.ite (weighF (allL (D.I a) (D.L b)) (D.L c) (Int.toNat (0 : Int)) (List.length (D.L c) - Int.toNat (0 : Int)) (0 : Int) (D.I d)).fst (T.leaf [D.i (weighF (allL (D.I a) (D.L b)) (D.L c) (Int.toNat (0 : Int)) (List.length (D.L c) - Int.toNat (0 : Int)) (0 : Int) (D.I d)).snd.fst, D.i (weighF (allL (D.I a) (D.L b)) (D.L c) (Int.toNat (0 : Int)) (List.length (D.L c) - Int.toNat (0 : Int)) (0 : Int) (D.I d)).snd.snd, D.b true]) (T.leaf [D.i (0 : Int), D.i (0 : Int), D.b false]))) := by kernel_rfl
theorem t20_4_0 (a b c d : D) : roundT C tab20 20 (loopOf C.P 20 4) l20_4 [.i 0, a, b, c, d] =
  T.ite (decide (D.I d < (↑(List.length (D.L a)) : Int))) (T.need (decide ((0 : Int) ≤ D.I d ∧ D.I d < (↑(List.length (D.L a)) : Int))) (T.ite (!within (D.I (List.getD (List.getD (D.L a) (Int.toNat (D.I d)) []) 0 default)) (0 : Int) (IntKind.wrap IntKind.i64 ((↑0 : Int) - (1 : Int)))) (T.leaf (Rd.out Ex.ret [D.i (0 : Int), D.i (0 : Int), D.b false])) (T.need (decide ((0 : Int) ≤ D.I d ∧ D.I d < (↑(List.length (D.L a)) : Int))) T.fail))) (T.leaf (Rd.out (Ex.exit 0) [D.i (D.I b), D.i (D.I c)])) := by kernel_rfl
theorem t20_4_1 (a b c d e f : D) : roundT C tab20 20 (loopOf C.P 20 4) l20_4 [.i 1, a, b, c, d, e, f] =
  T.ite (decide (D.I e < (↑(List.length (D.L a)) : Int))) (T.need (decide ((0 : Int) ≤ D.I e ∧ D.I e < (↑(List.length (D.L a)) : Int))) (T.ite (!within (D.I (List.getD (List.getD (D.L a) (Int.toNat (D.I e)) []) 0 default)) (0 : Int) (IntKind.wrap IntKind.i64 ((↑(Int.toNat (D.I c)) : Int) - (1 : Int)))) (T.leaf (Rd.out Ex.ret [D.i (0 : Int), D.i (0 : Int), D.b false])) (T.need (decide ((0 : Int) ≤ D.I e ∧ D.I e < (↑(List.length (D.L a)) : Int))) (T.need (decide ((0 : Int) ≤ D.I (List.getD (List.getD (D.L a) (Int.toNat (D.I e)) []) 0 default) ∧ D.I (List.getD (List.getD (D.L a) (Int.toNat (D.I e)) []) 0 default) < (↑(Int.toNat (D.I c)) : Int))) (T.need (decide (Int.toNat (D.I (List.getD (List.getD (D.L a) (Int.toNat (D.I e)) []) 0 default)) < List.length (D.L f))) (T.ite (D.I (List.getD (List.getD (D.L f) (Int.toNat (D.I (List.getD (List.getD (D.L a) (Int.toNat (D.I e)) []) 0 default))) []) 0 default) != D.I b) (T.leaf (Rd.out Ex.ret [D.i (0 : Int), D.i (0 : Int), D.b false])) (T.need (decide ((0 : Int) ≤ D.I e ∧ D.I e < (↑(List.length (D.L a)) : Int))) (T.need (decide ((0 : Int) ≤ D.I (List.getD (List.getD (D.L a) (Int.toNat (D.I e)) []) 0 default) ∧ D.I (List.getD (List.getD (D.L a) (Int.toNat (D.I e)) []) 0 default) < (↑(Int.toNat (D.I c)) : Int))) (T.need (decide (Int.toNat (D.I (List.getD (List.getD (D.L a) (Int.toNat (D.I e)) []) 0 default)) < List.length (D.L f))) (T.need (decide ((0 : Int) ≤ D.I e ∧ D.I e < (↑(List.length (D.L a)) : Int))) (T.need (decide ((0 : Int) ≤ D.I (List.getD (List.getD (D.L a) (Int.toNat (D.I e)) []) 0 default) ∧ D.I (List.getD (List.getD (D.L a) (Int.toNat (D.I e)) []) 0 default) < (↑(Int.toNat (D.I c)) : Int))) (T.need (decide (Int.toNat (D.I (List.getD (List.getD (D.L a) (Int.toNat (D.I e)) []) 0 default)) < List.length (D.L f))) (T.leaf (Rd.again [D.i (1 : Int), D.l (D.L a), D.i (D.I (List.getD (List.getD (D.L f) (Int.toNat (D.I (List.getD (List.getD (D.L a) (Int.toNat (D.I e)) []) 0 default))) []) (0 + 1) default)), D.i (↑(Int.toNat (D.I c)) : Int), D.i (IntKind.wrap IntKind.i64 (D.I d + D.I (List.getD (List.getD (D.L f) (Int.toNat (D.I (List.getD (List.getD (D.L a) (Int.toNat (D.I e)) []) 0 default))) []) (0 + 1 + 1) default))), D.i (IntKind.wrap IntKind.i64 (D.I e + (1 : Int))), D.l (D.L f)])))))))))))))) (T.leaf (Rd.out (Ex.exit 0) [D.i (D.I b), D.i (D.I d)])) := by kernel_rfl
theorem t29 (a b c : D) : fnT C tab29 29 s29 [a, b, c] =
  T.need (yes (netP (D.I a) (D.L b))) (T.ite (!within (↑(List.length (D.L c)) : Int) (1 : Int) (D.I a)) (T.leaf [D.b false]) (T.need (decide ((0 : Int) ≤ (0 : Int) ∧ (0 : Int) < (↑(List.length (D.L c)) : Int))) (T.ite (!within (D.I (List.getD (List.getD (D.L c) (Int.toNat (0 : Int)) []) 0 default)) (0 : Int) (IntKind.wrap IntKind.i64 ((↑(Int.toNat (↑(List.length (allL (D.I a) (D.L b))) : Int)) : Int) - (1 : Int)))) (T.leaf [D.b false]) (T.need (decide ((0 : Int) ≤ (0 : Int) ∧ (0 : Int) < (↑(List.length (D.L c)) : Int))) (T.need (decide ((0 : Int) ≤ D.I (List.getD (List.getD (D.L c) (Int.toNat (0 : Int)) []) 0 default) ∧ D.I (List.getD (List.getD (D.L c) (Int.toNat (0 : Int)) []) 0 default) < (↑(Int.toNat (↑(List.length (allL (D.I a) (D.L b))) : Int)) : Int))) (T.need (decide (Int.toNat (D.I (List.getD (List.getD (D.L c) (Int.toNat (0 : Int)) []) 0 default)) < List.length (allL (D.I a) (D.L b)))) (T.need (yes (netP (D.I a) (D.L b) ∧ List.length (D.L c) ≤ 1000000)) (T.ite (weighF (allL (D.I a) (D.L b)) (D.L c) 0 (List.length (D.L c)) (0 : Int) (D.I (List.getD (List.getD (allL (D.I a) (D.L b)) (Int.toNat (D.I (List.getD (List.getD (D.L c) (Int.toNat (0 : Int)) []) 0 default))) []) 0 default))).fst (T.ite ((weighF (allL (D.I a) (D.L b)) (D.L c) 0 (List.length (D.L c)) (0 : Int) (D.I (List.getD (List.getD (allL (D.I a) (D.L b)) (Int.toNat (D.I (List.getD (List.getD (D.L c) (Int.toNat (0 : Int)) []) 0 default))) []) 0 default))).snd.snd == D.I (List.getD (List.getD (allL (D.I a) (D.L b)) (Int.toNat (D.I (List.getD (List.getD (D.L c) (Int.toNat (0 : Int)) []) 0 default))) []) 0 default)) (T.leaf [D.b (decide ((weighF (allL (D.I a) (D.L b)) (D.L c) 0 (List.length (D.L c)) (0 : Int) (D.I (List.getD (List.getD (allL (D.I a) (D.L b)) (Int.toNat (D.I (List.getD (List.getD (D.L c) (Int.toNat (0 : Int)) []) 0 default))) []) 0 default))).snd.fst > (0 : Int)))]) (T.leaf [D.b false])) (T.leaf [D.b false]))))))))) := by kernel_rfl
theorem t30 (a b c : D) : fnT C tab30 30 s30 [a, b, c] =
  T.need (yes (List.length (D.L b) < big)) (T.ite (!netOk (D.I a) (D.L b)) (T.leaf [D.b false]) (T.ite (!within (↑(List.length (D.L c)) : Int) (1 : Int) (D.I a)) (T.leaf [D.b false]) (T.need (yes (netP (D.I a) (D.L b))) (T.need (yes ((↑0 : Int) = (0 : Int) ∧ goodL (D.I a) (allL (D.I a) (D.L b)) ∧ (↑(Int.toNat (↑(List.length (allL (D.I a) (D.L b))) : Int)) : Int) = (↑(List.length (allL (D.I a) (D.L b))) : Int) ∧ D.L c = D.L c ∧ (↑(List.length (D.L c)) : Int) = (↑(List.length (D.L c)) : Int) ∧ List.length (D.L c) ≤ 500 ∧ (0 : Int) ≤ (0 : Int) ∧ (0 : Int) ≤ (↑(List.length (D.L c)) : Int) ∧ (-1000000 : Int) * (0 : Int) ≤ (0 : Int) ∧ (0 : Int) ≤ (1000000 : Int) * (0 : Int) ∧ ((0 : Int) < (0 : Int) → (0 : Int) ≤ rg (D.L c) (Int.toNat (0 : Int) - 1) ∧ rg (D.L c) (Int.toNat (0 : Int) - 1) < (↑(List.length (allL (D.I a) (D.L b))) : Int)))) (T.ite (weighF (allL (D.I a) (D.L b)) (D.L c) (Int.toNat (0 : Int)) (List.length (D.L c) - Int.toNat (0 : Int)) (0 : Int) (atB (allL (D.I a) (D.L b)) (D.L c) (Int.toNat (0 : Int)))).fst (T.need (decide ((0 : Int) ≤ IntKind.wrap IntKind.i64 ((↑(List.length (D.L c)) : Int) - (1 : Int)) ∧ IntKind.wrap IntKind.i64 ((↑(List.length (D.L c)) : Int) - (1 : Int)) < (↑(List.length (D.L c)) : Int))) (T.need (decide ((0 : Int) ≤ D.I (List.getD (List.getD (D.L c) (Int.toNat (IntKind.wrap IntKind.i64 ((↑(List.length (D.L c)) : Int) - (1 : Int)))) []) 0 default) ∧ D.I (List.getD (List.getD (D.L c) (Int.toNat (IntKind.wrap IntKind.i64 ((↑(List.length (D.L c)) : Int) - (1 : Int)))) []) 0 default) < (↑(Int.toNat (↑(List.length (allL (D.I a) (D.L b))) : Int)) : Int))) (T.need (decide (Int.toNat (D.I (List.getD (List.getD (D.L c) (Int.toNat (IntKind.wrap IntKind.i64 ((↑(List.length (D.L c)) : Int) - (1 : Int)))) []) 0 default)) < List.length (allL (D.I a) (D.L b)))) (T.need (decide ((0 : Int) ≤ (0 : Int) ∧ (0 : Int) < (↑(List.length (D.L c)) : Int))) (T.need (decide ((0 : Int) ≤ D.I (List.getD (List.getD (D.L c) (Int.toNat (0 : Int)) []) 0 default) ∧ D.I (List.getD (List.getD (D.L c) (Int.toNat (0 : Int)) []) 0 default) < (↑(Int.toNat (↑(List.length (allL (D.I a) (D.L b))) : Int)) : Int))) (T.need (decide (Int.toNat (D.I (List.getD (List.getD (D.L c) (Int.toNat (0 : Int)) []) 0 default)) < List.length (allL (D.I a) (D.L b)))) (T.ite (D.I (List.getD (List.getD (allL (D.I a) (D.L b)) (Int.toNat (D.I (List.getD (List.getD (D.L c) (Int.toNat (IntKind.wrap IntKind.i64 ((↑(List.length (D.L c)) : Int) - (1 : Int)))) []) 0 default))) []) (0 + 1) default) == D.I (List.getD (List.getD (allL (D.I a) (D.L b)) (Int.toNat (D.I (List.getD (List.getD (D.L c) (Int.toNat (0 : Int)) []) 0 default))) []) 0 default)) (T.leaf [D.b (decide ((weighF (allL (D.I a) (D.L b)) (D.L c) (Int.toNat (0 : Int)) (List.length (D.L c) - Int.toNat (0 : Int)) (0 : Int) (atB (allL (D.I a) (D.L b)) (D.L c) (Int.toNat (0 : Int)))).snd.fst > (0 : Int)))]) (T.leaf [D.b false])))))))) (T.leaf [D.b false])))))) := by kernel_rfl
theorem t30_6_0 (a b c d e f g h : D) : roundT C tab30 30 (loopOf C.P 30 6) l30_6 [.i 0, a, b, c, d, e, f, g, h] =
  T.ite (decide (D.I e < D.I d)) (T.need (decide ((0 : Int) ≤ D.I e ∧ D.I e < (↑(List.length (D.L c)) : Int))) (T.ite (!within (D.I (List.getD (List.getD (D.L c) (Int.toNat (D.I e)) []) 0 default)) (0 : Int) (IntKind.wrap IntKind.i64 ((↑(Int.toNat (D.I g)) : Int) - (1 : Int)))) (T.leaf (Rd.out Ex.ret [D.b false])) (T.ite (decide (D.I e > (0 : Int))) (T.need (decide ((0 : Int) ≤ IntKind.wrap IntKind.i64 (D.I e - (1 : Int)) ∧ IntKind.wrap IntKind.i64 (D.I e - (1 : Int)) < (↑(List.length (D.L a)) : Int))) (T.need (decide ((0 : Int) ≤ D.I (List.getD (List.getD (D.L a) (Int.toNat (IntKind.wrap IntKind.i64 (D.I e - (1 : Int)))) []) 0 default) ∧ D.I (List.getD (List.getD (D.L a) (Int.toNat (IntKind.wrap IntKind.i64 (D.I e - (1 : Int)))) []) 0 default) < (↑(Int.toNat (D.I g)) : Int))) (T.need (decide (Int.toNat (D.I (List.getD (List.getD (D.L a) (Int.toNat (IntKind.wrap IntKind.i64 (D.I e - (1 : Int)))) []) 0 default)) < List.length (D.L h))) (T.need (decide ((0 : Int) ≤ D.I (List.getD (List.getD (D.L c) (Int.toNat (D.I e)) []) 0 default) ∧ D.I (List.getD (List.getD (D.L c) (Int.toNat (D.I e)) []) 0 default) < (↑(Int.toNat (D.I g)) : Int))) (T.need (decide (Int.toNat (D.I (List.getD (List.getD (D.L c) (Int.toNat (D.I e)) []) 0 default)) < List.length (D.L h))) (T.ite (D.I (List.getD (List.getD (D.L h) (Int.toNat (D.I (List.getD (List.getD (D.L a) (Int.toNat (IntKind.wrap IntKind.i64 (D.I e - (1 : Int)))) []) 0 default))) []) (0 + 1) default) != D.I (List.getD (List.getD (D.L h) (Int.toNat (D.I (List.getD (List.getD (D.L c) (Int.toNat (D.I e)) []) 0 default))) []) 0 default)) (T.leaf (Rd.out Ex.ret [D.b false])) (T.need (decide ((0 : Int) ≤ D.I (List.getD (List.getD (D.L c) (Int.toNat (D.I e)) []) 0 default) ∧ D.I (List.getD (List.getD (D.L c) (Int.toNat (D.I e)) []) 0 default) < (↑(Int.toNat (D.I g)) : Int))) (T.need (decide (Int.toNat (D.I (List.getD (List.getD (D.L c) (Int.toNat (D.I e)) []) 0 default)) < List.length (D.L h))) (T.leaf (Rd.again [D.i (0 : Int), D.l (D.L a), D.i (IntKind.wrap IntKind.i64 (D.I b + D.I (List.getD (List.getD (D.L h) (Int.toNat (D.I (List.getD (List.getD (D.L c) (Int.toNat (D.I e)) []) 0 default))) []) (0 + 1 + 1) default))), D.l (D.L c), D.i (D.I d), D.i (IntKind.wrap IntKind.i64 (D.I e + (1 : Int))), D.i (D.I f), D.i (↑(Int.toNat (D.I g)) : Int), D.l (D.L h)])))))))))) (T.need (decide ((0 : Int) ≤ D.I (List.getD (List.getD (D.L c) (Int.toNat (D.I e)) []) 0 default) ∧ D.I (List.getD (List.getD (D.L c) (Int.toNat (D.I e)) []) 0 default) < (↑(Int.toNat (D.I g)) : Int))) (T.need (decide (Int.toNat (D.I (List.getD (List.getD (D.L c) (Int.toNat (D.I e)) []) 0 default)) < List.length (D.L h))) (T.leaf (Rd.again [D.i (0 : Int), D.l (D.L a), D.i (IntKind.wrap IntKind.i64 (D.I b + D.I (List.getD (List.getD (D.L h) (Int.toNat (D.I (List.getD (List.getD (D.L c) (Int.toNat (D.I e)) []) 0 default))) []) (0 + 1 + 1) default))), D.l (D.L c), D.i (D.I d), D.i (IntKind.wrap IntKind.i64 (D.I e + (1 : Int))), D.i (D.I f), D.i (↑(Int.toNat (D.I g)) : Int), D.l (D.L h)]))))))) (T.leaf (Rd.out (Ex.exit 0) [D.i (0 : Int), D.l (D.L a), D.i (D.I b), D.i (D.I f), D.i (↑(Int.toNat (D.I g)) : Int), D.l (D.L h)])) := by kernel_rfl
theorem t30_6_1 (a b c d e f : D) : roundT C tab30 30 (loopOf C.P 30 6) l30_6 [.i 1, a, b, c, d, e, f] =
  T.ite (decide (D.I e < D.I d)) (T.need (decide ((0 : Int) ≤ D.I e ∧ D.I e < (↑(List.length (D.L c)) : Int))) (T.ite (!within (D.I (List.getD (List.getD (D.L c) (Int.toNat (D.I e)) []) 0 default)) (0 : Int) (IntKind.wrap IntKind.i64 ((↑0 : Int) - (1 : Int)))) (T.leaf (Rd.out Ex.ret [D.b false])) (T.ite (decide (D.I e > (0 : Int))) (T.need (decide ((0 : Int) ≤ IntKind.wrap IntKind.i64 (D.I e - (1 : Int)) ∧ IntKind.wrap IntKind.i64 (D.I e - (1 : Int)) < (↑(List.length (D.L a)) : Int))) T.fail) T.fail))) (T.leaf (Rd.out (Ex.exit 0) [D.i (1 : Int), D.l (D.L a), D.i (D.I b), D.i (D.I f)])) := by kernel_rfl
theorem t21 (a b : D) : fnT C tab21 21 s21 [a, b] =
  T.ite ((↑(List.length (D.L a)) : Int) != (↑(List.length (D.L b)) : Int)) (T.leaf [D.b false]) (T.need (yes (List.length (D.L a) < big ∧ List.length (D.L a) = List.length (D.L b) ∧ (0 : Int) ≤ (0 : Int) ∧ (0 : Int) ≤ (↑(List.length (D.L a)) : Int))) (T.ite (allFrom (fun j => rg (D.L a) j == rg (D.L b) j) (Int.toNat (0 : Int)) (List.length (D.L a) - Int.toNat (0 : Int))) (T.leaf [D.b true]) (T.leaf [D.b false]))) := by kernel_rfl
theorem t21_4 (a b c : D) : roundT C tab21 21 (loopOf C.P 21 4) l21_4 [a, b, c] =
  T.ite (decide (D.I c < (↑(List.length (D.L a)) : Int))) (T.need (decide ((0 : Int) ≤ D.I c ∧ D.I c < (↑(List.length (D.L a)) : Int))) (T.need (decide ((0 : Int) ≤ D.I c ∧ D.I c < (↑(List.length (D.L b)) : Int))) (T.ite (D.I (List.getD (List.getD (D.L a) (Int.toNat (D.I c)) []) 0 default) != D.I (List.getD (List.getD (D.L b) (Int.toNat (D.I c)) []) 0 default)) (T.leaf (Rd.out Ex.ret [D.b false])) (T.leaf (Rd.again [D.l (D.L a), D.l (D.L b), D.i (IntKind.wrap IntKind.i64 (D.I c + (1 : Int)))]))))) (T.leaf (Rd.out (Ex.exit 0) [])) := by kernel_rfl
theorem t32 (a b c : D) : fnT C tab32 32 s32 [a, b, c] =
  T.ite ((↑(List.length (D.L c)) : Int) != D.I a) (T.leaf [D.b false]) (T.need (decide ((0 : Int) ≤ (0 : Int) ∧ (0 : Int) < (↑(List.length (D.L c)) : Int))) (T.ite (D.I (List.getD (List.getD (D.L c) (Int.toNat (0 : Int)) []) 0 default) != (0 : Int)) (T.leaf [D.b false]) (T.need (yes ((↑(List.length (D.L c)) : Int) = D.I a ∧ (1 : Int) ≤ D.I a ∧ D.I a ≤ (500 : Int) ∧ (0 : Int) ≤ (0 : Int) ∧ (0 : Int) ≤ D.I a)) (T.ite (allFrom (timeB (D.L c)) (Int.toNat (0 : Int)) (List.length (D.L c) - Int.toNat (0 : Int))) (T.need (yes (goodL (↑(List.length (D.L c)) : Int) (D.L b) ∧ (∀ (j : Nat), (0 : Int) ≤ rg (D.L c) j ∧ rg (D.L c) j ≤ (1099511627776 : Int)) ∧ (0 : Int) ≤ (0 : Int) ∧ (0 : Int) ≤ (↑(List.length (D.L b)) : Int))) (T.ite (allFrom (keptF (D.L b) (D.L c)) (Int.toNat (0 : Int)) (List.length (D.L b) - Int.toNat (0 : Int))) (T.leaf [D.b true]) (T.leaf [D.b false]))) (T.leaf [D.b false]))))) := by kernel_rfl
theorem t32_4 (a b c d : D) : roundT C tab32 32 (loopOf C.P 32 4) l32_4 [a, b, c, d] =
  T.ite (decide (D.I d < D.I a)) (T.need (decide ((0 : Int) ≤ D.I d ∧ D.I d < (↑(List.length (D.L c)) : Int))) (T.ite (!within (D.I (List.getD (List.getD (D.L c) (Int.toNat (D.I d)) []) 0 default)) (0 : Int) (1099511627776 : Int)) (T.leaf (Rd.out Ex.ret [D.b false])) (T.leaf (Rd.again [D.i (D.I a), D.l (D.L b), D.l (D.L c), D.i (IntKind.wrap IntKind.i64 (D.I d + (1 : Int)))])))) (T.leaf (Rd.out (Ex.exit 0) [D.l (D.L b), D.l (D.L c)])) := by kernel_rfl
theorem t32_9 (a b c : D) : roundT C tab32 32 (loopOf C.P 32 9) l32_9 [a, b, c] =
  T.ite (decide (D.I c < (↑(List.length (D.L a)) : Int))) (T.need (decide ((0 : Int) ≤ D.I c ∧ D.I c < (↑(List.length (D.L a)) : Int))) (T.need (decide ((0 : Int) ≤ D.I (List.getD (List.getD (D.L a) (Int.toNat (D.I c)) []) (0 + 1) default) ∧ D.I (List.getD (List.getD (D.L a) (Int.toNat (D.I c)) []) (0 + 1) default) < (↑(List.length (D.L b)) : Int))) (T.need (decide ((0 : Int) ≤ D.I c ∧ D.I c < (↑(List.length (D.L a)) : Int))) (T.need (decide ((0 : Int) ≤ D.I (List.getD (List.getD (D.L a) (Int.toNat (D.I c)) []) 0 default) ∧ D.I (List.getD (List.getD (D.L a) (Int.toNat (D.I c)) []) 0 default) < (↑(List.length (D.L b)) : Int))) (T.need (decide ((0 : Int) ≤ D.I c ∧ D.I c < (↑(List.length (D.L a)) : Int))) (T.ite (decide (IntKind.wrap IntKind.i64 (D.I (List.getD (List.getD (D.L b) (Int.toNat (D.I (List.getD (List.getD (D.L a) (Int.toNat (D.I c)) []) (0 + 1) default))) []) 0 default) - D.I (List.getD (List.getD (D.L b) (Int.toNat (D.I (List.getD (List.getD (D.L a) (Int.toNat (D.I c)) []) 0 default))) []) 0 default)) < D.I (List.getD (List.getD (D.L a) (Int.toNat (D.I c)) []) (0 + 1 + 1) default))) (T.leaf (Rd.out Ex.ret [D.b false])) (T.leaf (Rd.again [D.l (D.L a), D.l (D.L b), D.i (IntKind.wrap IntKind.i64 (D.I c + (1 : Int)))])))))))) (T.leaf (Rd.out (Ex.exit 2) [])) := by kernel_rfl
theorem t15 (a b : D) : fnT C tab15 15 s15 [a, b] =
  T.ite (decide (D.I a ≤ (12 : Int))) (T.ite (decide ((↑(List.length (D.L b)) : Int) ≤ (30 : Int))) (T.leaf [D.b true]) (T.ite (decide ((↑(List.length (D.L b)) : Int) > (5000 : Int))) (T.leaf [D.b (decide ((↑(List.length (D.L b)) : Int) < (5200 : Int)))]) (T.leaf [D.b false]))) (T.ite (decide (D.I a > (500 : Int))) (T.ite (decide ((↑(List.length (D.L b)) : Int) ≤ (30 : Int))) (T.leaf [D.b true]) (T.ite (decide ((↑(List.length (D.L b)) : Int) > (5000 : Int))) (T.leaf [D.b (decide ((↑(List.length (D.L b)) : Int) < (5200 : Int)))]) (T.leaf [D.b false]))) (T.leaf [D.b false])) := by kernel_rfl
theorem t64 (a b c d : D) : fnT C tab64 64 s64 [a, b, c, d] =
  T.need (decide ((0 : Int) ≤ D.I b ∧ D.I b < (↑(List.length (D.L d)) : Int))) (T.need (decide ((0 : Int) ≤ D.I a ∧ D.I a < (↑(List.length (D.L d)) : Int))) (T.leaf [D.b (decide (IntKind.wrap IntKind.i64 (D.I (List.getD (List.getD (D.L d) (Int.toNat (D.I b)) []) 0 default) - D.I (List.getD (List.getD (D.L d) (Int.toNat (D.I a)) []) 0 default)) < D.I c))])) := by kernel_rfl
theorem t1051 (a b : D) : fnT C tab1051 51 s1051 [a, b] =
  T.need (yes (goodL (↑(List.length (D.L b)) : Int) (D.L a) ∧ posR (D.L b) ∧ (↑(List.length (D.L a)) : Int) = (↑(List.length (D.L a)) : Int) ∧ (0 : Int) ≤ (0 : Int) ∧ (0 : Int) ≤ (↑(List.length (D.L a)) : Int))) (T.ite (decide (firstFrom (fun j => !keptF (D.L a) (D.L b) j) (Int.toNat (0 : Int)) (List.length (D.L a) - Int.toNat (0 : Int)) ≥ (0 : Int))) (T.leaf [D.i (firstFrom (fun j => !keptF (D.L a) (D.L b) j) (Int.toNat (0 : Int)) (List.length (D.L a) - Int.toNat (0 : Int)))]) (T.leaf [D.i (-1 : Int)])) := by kernel_rfl
theorem t1051_2 (a b c d : D) : roundT C tab1051 51 (loopOf C.P 51 2) l1051_2 [a, b, c, d] =
  T.ite (decide (D.I d < D.I c)) (T.need (decide ((0 : Int) ≤ D.I d ∧ D.I d < (↑(List.length (D.L a)) : Int))) (T.need (yes ((0 : Int) ≤ D.I (List.getD (List.getD (D.L a) (Int.toNat (D.I d)) []) 0 default) ∧ D.I (List.getD (List.getD (D.L a) (Int.toNat (D.I d)) []) 0 default) < (↑(List.length (D.L b)) : Int) ∧ (0 : Int) ≤ D.I (List.getD (List.getD (D.L a) (Int.toNat (D.I d)) []) (0 + 1) default) ∧ D.I (List.getD (List.getD (D.L a) (Int.toNat (D.I d)) []) (0 + 1) default) < (↑(List.length (D.L b)) : Int) ∧ posR (D.L b))) (T.ite (!decide (D.I (List.getD (List.getD (D.L a) (Int.toNat (D.I d)) []) (0 + 1 + 1) default) ≤ rg (D.L b) (Int.toNat (D.I (List.getD (List.getD (D.L a) (Int.toNat (D.I d)) []) (0 + 1) default))) - rg (D.L b) (Int.toNat (D.I (List.getD (List.getD (D.L a) (Int.toNat (D.I d)) []) 0 default))))) (T.leaf (Rd.out Ex.ret [D.i (D.I d)])) (T.leaf (Rd.again [D.l (D.L a), D.l (D.L b), D.i (D.I c), D.i (IntKind.wrap IntKind.i64 (D.I d + (1 : Int)))]))))) (T.leaf (Rd.out (Ex.exit 0) [])) := by kernel_rfl
theorem t1063 (a b : D) : fnT C tab1063 63 s1063 [a, b] =
  T.need (yes (goodL (↑(List.length (D.L b)) : Int) (D.L a) ∧ posR (D.L b))) (T.leaf [D.b (decide (firstFrom (fun j => !keptF (D.L a) (D.L b) j) 0 (List.length (D.L a)) ≥ (0 : Int)))]) := by kernel_rfl
theorem t62 (a : D) : fnT C tab62 62 s62 [a] =
  T.leaf [D.b (decide (D.I a < (0 : Int)))] := by kernel_rfl
theorem t80 (a : D) : fnT C tab80 80 s80 [a] =
  T.need (yes (List.length (D.L a) < big ∧ (↑(List.length (D.L a)) : Int) = (↑(List.length (D.L a)) : Int) ∧ (0 : Int) ≤ (0 : Int) ∧ (0 : Int) ≤ (↑(List.length (D.L a)) : Int))) (T.ite (decide (firstFrom (fun j => decide (rg (D.L a) j < (0 : Int))) (Int.toNat (0 : Int)) (List.length (D.L a) - Int.toNat (0 : Int)) ≥ (0 : Int))) (T.leaf [D.i (firstFrom (fun j => decide (rg (D.L a) j < (0 : Int))) (Int.toNat (0 : Int)) (List.length (D.L a) - Int.toNat (0 : Int)))]) (T.leaf [D.i (-1 : Int)])) := by kernel_rfl
theorem t80_2 (a b c : D) : roundT C tab80 80 (loopOf C.P 80 2) l80_2 [a, b, c] =
  T.ite (decide (D.I c < D.I b)) (T.need (decide ((0 : Int) ≤ D.I c ∧ D.I c < (↑(List.length (D.L a)) : Int))) (T.ite (decide (D.I (List.getD (List.getD (D.L a) (Int.toNat (D.I c)) []) 0 default) < (0 : Int))) (T.leaf (Rd.out Ex.ret [D.i (D.I c)])) (T.leaf (Rd.again [D.l (D.L a), D.i (D.I b), D.i (IntKind.wrap IntKind.i64 (D.I c + (1 : Int)))])))) (T.leaf (Rd.out (Ex.exit 0) [])) := by kernel_rfl
theorem t61 (a : D) : fnT C tab61 61 s61 [a] =
  T.need (yes (List.length (D.L a) < big)) (T.leaf [D.b (decide (firstFrom (fun j => decide (rg (D.L a) j < (0 : Int))) 0 (List.length (D.L a)) ≥ (0 : Int)))]) := by kernel_rfl
theorem t31 (a b c : D) : fnT C tab31 31 s31 [a, b, c] =
  T.need (yes (List.length (D.L b) < big)) (T.ite (!netOk (D.I a) (D.L b)) (T.leaf [D.b false]) (T.ite ((↑(List.length (D.L c)) : Int) != D.I a) (T.leaf [D.b false]) (T.need (yes (List.length (D.L c) < big)) (T.ite (!allFrom (fun j => !decide (rg (D.L c) j < (0 : Int))) 0 (List.length (D.L c))) (T.leaf [D.b false]) (T.need (yes (netP (D.I a) (D.L b))) (T.need (decide ((0 : Int) ≤ (0 : Int) ∧ (0 : Int) < (↑(List.length (D.L c)) : Int))) (T.ite (D.I (List.getD (List.getD (D.L c) (Int.toNat (0 : Int)) []) 0 default) == (0 : Int)) (T.need (decide (Int.toNat (↑(List.length (allL (D.I a) (D.L b))) : Int) ≤ List.length (allL (D.I a) (D.L b)))) (T.need (yes (goodL (↑(List.length (D.L c)) : Int) (List.take (Int.toNat (↑(List.length (allL (D.I a) (D.L b))) : Int)) (allL (D.I a) (D.L b))) ∧ posR (D.L c))) (T.leaf [D.b !!allFrom (keptF (List.take (Int.toNat (↑(List.length (allL (D.I a) (D.L b))) : Int)) (allL (D.I a) (D.L b))) (D.L c)) 0 (List.length (List.take (Int.toNat (↑(List.length (allL (D.I a) (D.L b))) : Int)) (allL (D.I a) (D.L b))))]))) (T.leaf [D.b false])))))))) := by kernel_rfl
end Go.Proofs.Ytipbcpobnciccaa

namespace Go.Proofs.Ytipbcpobnciccaa
open Go.Lite
set_option maxRecDepth 100000
theorem bnot_t {b : Bool} (h : (!b) = true) : b = false := by cases b; rfl; cases h
theorem bnot_f {b : Bool} (h : (!b) = false) : b = true := by cases b; cases h; rfl
theorem weigh_no {a c : List (List D)} : ∀ (k i : Nat) (s v : Int), (weighF a c i k s v).1 = false → weighF a c i k s v = (false, 0, 0)
  | 0, _, _, _, h => by cases h
  | k + 1, i, s, v, h => by
    simp only [weighF] at h ⊢
    split
    · rename_i hc
      rw [if_pos hc] at h
      exact weigh_no k (i + 1) _ _ h
    · rfl
theorem weigh_yes {a c : List (List D)} : ∀ (k i : Nat) (s v : Int), (weighF a c i k s v).1 = true → (∀ j, i ≤ j → j < i + k → 0 ≤ rg c j ∧ rg c j ≤ (a.length : Int) - 1) ∧ (0 < k → (weighF a c i k s v).2.2 = lkT a (rg c (i + k - 1)).toNat)
  | 0, _, _, _, _ => ⟨fun j h1 h2 => by omega, fun h => by omega⟩
  | k + 1, i, s, v, h => by
    simp only [weighF] at h ⊢
    by_cases hc : (0 ≤ rg c i ∧ rg c i ≤ (a.length : Int) - 1) ∧ lkF a (rg c i).toNat = v
    · rw [if_pos hc] at h ⊢
      obtain ⟨h1, h2⟩ := weigh_yes k (i + 1) _ _ h
      refine ⟨fun j hj1 hj2 => ?_, fun _ => ?_⟩
      · by_cases e : j = i
        · rw [e]; exact hc.1
        · exact h1 j (by omega) (by omega)
      · cases k with
        | zero => rfl
        | succ k =>
          rw [h2 (by omega)]
          have : i + 1 + (k + 1) - 1 = i + (k + 1 + 1) - 1 := by omega
          rw [this]
    · rw [if_neg hc] at h
      cases h
theorem ok62 (n : Nat) : FnOK C (n + 1) 62 (mkF s62 G62) := by
  refine fn_ofS hC (sp := sp62) (lp := lp62) (sw := sw62) trivial trivial (by kernel_rfl) [] (by kernel_rfl) rfl (fun k hk => by cases hk) fun ds rr h => ?_
  unfold G62 at h
  split at h
  · rename_i a
    refine (congrArg T.run (t62 a)).trans ?_
    exact h
  · cases h
theorem ok80_2 (n : Nat) : LoopSim C (n + 1) 80 (loopOf C.P 80 2) (mkL l80_2 G80_2) := by
  refine loop_ofK hC (sp := sp80) (lp := lp80) (sw := sw80) ⟨ok62 n, trivial⟩ trivial 0 [] (by kernel_rfl) rfl (fun k hk => by cases hk) (by kernel_rfl) (fun ds => ((ds.getD 1 default).I - (ds.getD 2 default).I).toNat) fun ds rr h => ?_
  unfold G80_2 at h
  split at h
  · rename_i l m i
    obtain ⟨hp, h⟩ := need_some h
    rw [yes_iff] at hp
    obtain ⟨h1, h2, h3, h4⟩ := hp
    have hb := big_eq
    refine ⟨by rw [fuelC]; simp; omega, ?_⟩
    rw [show roundTK C (mkTab sp80 lp80 sw80) 80 (loopOf C.P 80 2) 0 l80_2 [l, m, i] = _ from t80_2 l m i]
    obtain ⟨k, hk⟩ : ∃ k : Nat, i.I = k := ⟨i.I.toNat, by omega⟩
    
    simp only [hk, h2, Int.toNat_natCast, rg_def] at h h4 ⊢
    refine rd_if (fun hlt => ?_) fun hge => rd_out (first_end h (by omega))
    have hkl : k < l.L.length := by omega
    obtain ⟨s1, s2⟩ := first_step h hkl
    refine rd_dec ⟨by omega, by omega⟩ (rd_if (fun c => rd_out (s1 (decide_eq_true c))) fun c => ?_)
    rw [wrap_succ (by omega)]
    exact rd_again ((need_yes ⟨h1, rfl, by simp only [I_i]; omega, by simp only [I_i, L_l]; omega⟩).trans (s2 (decide_eq_false c))) (show ((l.L.length : Int) - ((k + 1 : Nat) : Int)).toNat < (m.I - i.I).toNat by omega)
  · cases h
theorem ok80 (n : Nat) : FnOK C (n + 2) 80 (mkF s80 G80) := by
  refine fn_ofS hC (sp := sp80) (lp := lp80) (sw := sw80) ⟨ok62 n, trivial⟩ trivial (by kernel_rfl) [2] (by kernel_rfl) (by kernel_rfl) (fun k hk L hL => by simp at hk; subst hk; cases hL; exact ok80_2 n) fun ds rr h => ?_
  unfold G80 at h
  split at h
  · rename_i l
    obtain ⟨hp, h⟩ := need_some h
    rw [yes_iff] at hp
    have h1 := hp
    refine (congrArg T.run (t80 l)).trans ?_
    rw [← h]
    simp only [Int.toNat_zero, Nat.sub_zero]
    refine go_yes ⟨h1, by trivial, by omega, by omega⟩ (go_if (fun c => rfl) fun c => ?_)
    rw [firstFrom_neg (by omega)]
  · cases h
theorem ok61 (n : Nat) : FnOK C (n + 3) 61 (mkF s61 G61) := by
  refine fn_ofS hC (sp := sp61) (lp := lp61) (sw := sw61) ⟨ok80 n, ok62 (n + 1), trivial⟩ trivial (by kernel_rfl) [] (by kernel_rfl) rfl (fun k hk => by cases hk) fun ds rr h => ?_
  unfold G61 at h
  split at h
  · rename_i l
    obtain ⟨hp, h⟩ := need_some h
    rw [yes_iff] at hp
    have h1 := hp
    refine (congrArg T.run (t61 l)).trans ?_
    rw [← h]
    refine go_yes h1 ?_
    rw [firstFrom_all]
  · cases h
theorem ok64 (n : Nat) : FnOK C (n + 1) 64 (mkF s64 G64) := by
  refine fn_ofS hC (sp := sp64) (lp := lp64) (sw := sw64) trivial trivial (by kernel_rfl) [] (by kernel_rfl) rfl (fun k hk => by cases hk) fun ds rr h => ?_
  unfold G64 at h
  split at h
  · rename_i f t w ts
    obtain ⟨hp, h⟩ := need_some h
    rw [yes_iff] at hp
    obtain ⟨h1, h2, h3, h4, h5⟩ := hp
    refine (congrArg T.run (t64 f t w ts)).trans ?_
    rw [← h]
    have a1 := h5 t.I.toNat
    have a2 := h5 f.I.toNat
    have w0 := wrap_id (x := rg ts.L t.I.toNat - rg ts.L f.I.toNat) (by omega) (by omega)
    simp only [rg_def, w0]
    refine go_dec ⟨h3, h4⟩ (go_dec ⟨h1, h2⟩ ?_)
    have : decide (rg ts.L t.I.toNat - rg ts.L f.I.toNat < w.I) = !decide (w.I ≤ rg ts.L t.I.toNat - rg ts.L f.I.toNat) := by
      rw [← decide_not]
      exact decide_eq_decide.2 (by omega)
    rw [this]
  · cases h
theorem ok1051_2 (n : Nat) : LoopSim C (n + 1) 51 (loopOf C.P 51 2) (mkL l1051_2 G1051_2) := by
  refine loop_ofK hC (sp := sp1051) (lp := lp1051) (sw := sw1051) ⟨ok64 n, trivial⟩ trivial 0 [] (by kernel_rfl) rfl (fun k hk => by cases hk) (by kernel_rfl) (fun ds => ((ds.getD 2 default).I - (ds.getD 3 default).I).toNat) fun ds rr h => ?_
  unfold G1051_2 at h
  split at h
  · rename_i l ts m i
    obtain ⟨hp, h⟩ := need_some h
    rw [yes_iff] at hp
    obtain ⟨⟨g1, g2, g3, g4⟩, hp, h3, h4, h5⟩ := hp
    have hb := big_eq
    refine ⟨by rw [fuelC]; simp; omega, ?_⟩
    rw [show roundTK C (mkTab sp1051 lp1051 sw1051) 51 (loopOf C.P 51 2) 0 l1051_2 [l, ts, m, i] = _ from t1051_2 l ts m i]
    obtain ⟨k, hk⟩ : ∃ k : Nat, i.I = k := ⟨i.I.toNat, by omega⟩
    
    simp only [hk, h3, Int.toNat_natCast] at h h5 ⊢
    refine rd_if (fun hlt => ?_) fun hge => rd_out (first_end h (by omega))
    have hkl : k < l.L.length := by omega
    obtain ⟨s1, s2⟩ := first_step h hkl
    obtain ⟨f1, f2, f3⟩ := g4 k hkl
    refine rd_dec ⟨by omega, by omega⟩ (rd_yes ⟨f1.1, f1.2, f2.1, f2.2, hp⟩ (rd_not (fun c => rd_out (s1 (congrArg not (show keptF l.L ts.L k = false from c)))) fun c => ?_))
    rw [wrap_succ (by omega)]
    exact rd_again ((need_yes ⟨⟨g1, g2, g3, g4⟩, hp, rfl, by simp only [I_i]; omega, by simp only [I_i, L_l]; omega⟩).trans (s2 (congrArg not (show keptF l.L ts.L k = true from c)))) (show ((l.L.length : Int) - ((k + 1 : Nat) : Int)).toNat < (m.I - i.I).toNat by omega)
  · cases h
theorem ok1051 (n : Nat) : FnOK C (n + 2) 51 (mkF s1051 G1051) := by
  refine fn_ofS hC (sp := sp1051) (lp := lp1051) (sw := sw1051) ⟨ok64 n, trivial⟩ trivial (by kernel_rfl) [2] (by kernel_rfl) (by kernel_rfl) (fun k hk L hL => by simp at hk; subst hk; cases hL; exact ok1051_2 n) fun ds rr h => ?_
  unfold G1051 at h
  split at h
  · rename_i l ts
    obtain ⟨hp, h⟩ := need_some h
    rw [yes_iff] at hp
    obtain ⟨hg, hp⟩ := hp
    refine (congrArg T.run (t1051 l ts)).trans ?_
    rw [← h]
    simp only [Int.toNat_zero, Nat.sub_zero]
    refine go_yes ⟨hg, hp, by trivial, by omega, by omega⟩ (go_if (fun c => rfl) fun c => ?_)
    rw [firstFrom_neg (by omega)]
  · cases h
theorem ok1063 (n : Nat) : FnOK C (n + 3) 63 (mkF s1063 G1063) := by
  refine fn_ofS hC (sp := sp1063) (lp := lp1063) (sw := sw1063) ⟨ok1051 n, ok64 (n + 1), trivial⟩ trivial (by kernel_rfl) [] (by kernel_rfl) rfl (fun k hk => by cases hk) fun ds rr h => ?_
  unfold G1063 at h
  split at h
  · rename_i l ts
    obtain ⟨hp, h⟩ := need_some h
    rw [yes_iff] at hp
    obtain ⟨hg, hp⟩ := hp
    refine (congrArg T.run (t1063 l ts)).trans ?_
    rw [← h]
    refine go_yes ⟨hg, hp⟩ ?_
    rw [firstFrom_all]
    simp only [Bool.not_not]
  · cases h
theorem ok31 (n : Nat) : FnOK C (n + 6) 31 (mkF s31 G31) := by
  refine fn_ofS hC (sp := sp31) (lp := lp31) (sw := sw31) ⟨ok47 n, ok61 (n + 2), ok49 (n + 3), ok1063 (n + 2), ok64 (n + 4), trivial⟩ trivial (by kernel_rfl) [] (by kernel_rfl) rfl (fun k hk => by cases hk) fun ds rr h => ?_
  unfold G31 at h
  split at h
  · rename_i n l t
    obtain ⟨hp, h⟩ := need_some h
    rw [yes_iff] at hp
    obtain ⟨h1, h2, h3⟩ := hp
    refine (congrArg T.run (t31 n l t)).trans ?_
    rw [← h]
    refine go_yes h1 (go_not (fun c => by rw [c, Bool.false_and]) fun c => ?_)
    have hp : netP n.I l.L := c
    obtain ⟨k1, k2, k3, k4⟩ := net_of hp
    rw [c, Bool.true_and]
    unfold keepsB
    refine go_ite (fun c2 => ?_) fun c2 => ?_
    · have : ¬ (t.L.length : Int) = n.I := fun e => by rw [e] at c2; simp at c2
      rw [decide_eq_false this, Bool.false_and]
    · have e : (t.L.length : Int) = n.I := eq_of_beq (bnot_f c2)
      rw [decide_eq_true e, Bool.true_and]
      refine go_yes h2 (go_not (fun c3 => by rw [c3, Bool.false_and]) fun c3 => ?_)
      rw [c3, Bool.true_and]
      refine go_yes hp (go_dec ⟨by omega, by omega⟩ (go_ite (fun c4 => ?_) fun c4 => ?_))
      · have e4 : (rg t.L 0 == 0) = true := c4
        rw [e4, Bool.true_and]
        simp only [Int.toNat_natCast, List.take_length, Bool.not_not]
        refine go_dec (Nat.le_refl _) (go_yes ⟨by rw [e]; exact good_all hp, fun j => ⟨?_, h3 j⟩⟩ rfl)
        rw [allFrom_iff] at c3
        by_cases hj : j < t.L.length
        · have := c3 j (Nat.zero_le _) (by omega)
          have h9 := of_decide_eq_false (bnot_t this)
          omega
        · rw [rg_ge (by omega)]
          exact Int.le_refl _
      · have e4 : (rg t.L 0 == 0) = false := c4
        rw [e4, Bool.false_and]
  · cases h
theorem ok32_4 (n : Nat) : LoopSim C (n + 1) 32 (loopOf C.P 32 4) (mkL l32_4 G32_4) := by
  refine loop_ofK hC (sp := sp32) (lp := lp32) (sw := sw32) ⟨ok54 n, trivial⟩ trivial 0 [] (by kernel_rfl) rfl (fun k hk => by cases hk) (by kernel_rfl) (fun ds => ((ds.getD 0 default).I - (ds.getD 3 default).I).toNat) fun ds rr h => ?_
  unfold G32_4 at h
  split at h
  · rename_i n l t i
    obtain ⟨hp, h⟩ := need_some h
    rw [yes_iff] at hp
    obtain ⟨h1, h2, h3, h4, h5⟩ := hp
    have hb := big_eq
    refine ⟨by rw [fuelC]; simp; omega, ?_⟩
    rw [show roundTK C (mkTab sp32 lp32 sw32) 32 (loopOf C.P 32 4) 0 l32_4 [n, l, t, i] = _ from t32_4 n l t i]
    obtain ⟨k, hk⟩ : ∃ k : Nat, i.I = k := ⟨i.I.toNat, by omega⟩
    
    simp only [hk, Int.toNat_natCast] at h h5 ⊢
    refine rd_if (fun hlt => ?_) fun hge => rd_out (all_end h (by omega))
    have hkl : k < t.L.length := by omega
    obtain ⟨s1, s2⟩ := all_step h hkl
    have e0 : timeB t.L k = Lite.within ((t.L.getD k []).getD 0 default).I 0 1099511627776 := rfl
    refine rd_dec ⟨by omega, by omega⟩ (rd_not (fun c => rd_out (s1 (e0.trans c))) fun c => ?_)
    rw [wrap_succ (by omega)]
    exact rd_again ((need_yes ⟨h1, h2, h3, by simp only [I_i]; omega, by simp only [I_i]; omega⟩).trans (s2 (e0.trans c))) (show (n.I - ((k + 1 : Nat) : Int)).toNat < (n.I - i.I).toNat by omega)
  · cases h
theorem ok32_9 (n : Nat) : LoopSim C (n + 1) 32 (loopOf C.P 32 9) (mkL l32_9 G32_9) := by
  refine loop_ofK hC (sp := sp32) (lp := lp32) (sw := sw32) ⟨ok54 n, trivial⟩ trivial 0 [] (by kernel_rfl) rfl (fun k hk => by cases hk) (by kernel_rfl) (fun ds => (((ds.getD 0 default).L.length : Int) - (ds.getD 2 default).I).toNat) fun ds rr h => ?_
  unfold G32_9 at h
  split at h
  · rename_i l t i
    obtain ⟨hp, h⟩ := need_some h
    rw [yes_iff] at hp
    obtain ⟨⟨g1, g2, g3, g4⟩, h2, h3, h4⟩ := hp
    have hb := big_eq
    refine ⟨by rw [fuelC]; simp; omega, ?_⟩
    rw [show roundTK C (mkTab sp32 lp32 sw32) 32 (loopOf C.P 32 9) 0 l32_9 [l, t, i] = _ from t32_9 l t i]
    obtain ⟨k, hk⟩ : ∃ k : Nat, i.I = k := ⟨i.I.toNat, by omega⟩
    
    simp only [hk, Int.toNat_natCast, Nat.zero_add, Nat.reduceAdd] at h h4 ⊢
    refine rd_if (fun hlt => ?_) fun hge => rd_out (all_end h (by omega))
    have hkl : k < l.L.length := by omega
    obtain ⟨s1, s2⟩ := all_step h hkl
    obtain ⟨f1, f2, f3⟩ := g4 k hkl
    have a1 := h2 (lkT l.L k).toNat
    have a2 := h2 (lkF l.L k).toNat
    have e1 : ((l.L.getD k []).getD 0 default).I = lkF l.L k := rfl
    have e2 : ((l.L.getD k []).getD 1 default).I = lkT l.L k := rfl
    have e3 : ((l.L.getD k []).getD 2 default).I = lkW l.L k := rfl
    have w : IntKind.i64.wrap (rg t.L (lkT l.L k).toNat - rg t.L (lkF l.L k).toNat) = rg t.L (lkT l.L k).toNat - rg t.L (lkF l.L k).toNat := wrap_id (by omega) (by omega)
    simp only [e1, e2, e3, rg_def, w]
    refine rd_dec ⟨by omega, by omega⟩ (rd_dec f2 (rd_dec ⟨by omega, by omega⟩ (rd_dec f1 (rd_dec ⟨by omega, by omega⟩ (rd_if (fun c => rd_out (s1 (decide_eq_false (by omega)))) fun c => ?_)))))
    rw [wrap_succ (by omega)]
    exact rd_again ((need_yes ⟨⟨g1, g2, g3, g4⟩, h2, by simp only [I_i]; omega, by simp only [I_i, L_l]; omega⟩).trans (s2 (decide_eq_true (by omega)))) (show ((l.L.length : Int) - ((k + 1 : Nat) : Int)).toNat < ((l.L.length : Int) - i.I).toNat by omega)
  · cases h
theorem ok32 (n : Nat) : FnOK C (n + 2) 32 (mkF s32 G32) := by
  refine fn_ofS hC (sp := sp32) (lp := lp32) (sw := sw32) ⟨ok54 n, trivial⟩ trivial (by kernel_rfl) [4, 9] (by kernel_rfl) (by kernel_rfl) (fun k hk L hL => by
      simp at hk
      rcases hk with rfl | rfl <;> cases hL
      · exact ok32_4 n
      · exact ok32_9 n) fun ds rr h => ?_
  unfold G32 at h
  split at h
  · rename_i n l t
    obtain ⟨hp, h⟩ := need_some h
    rw [yes_iff] at hp
    have hp := hp
    refine (congrArg T.run (t32 n l t)).trans ?_
    have hb := big_eq
    obtain ⟨k1, k2, k3, k4⟩ := net_of hp
    rw [← h]
    unfold keepsR
    refine go_ite (fun c2 => ?_) fun c2 => ?_
    · have : ¬ (t.L.length : Int) = n.I := fun e => by rw [e] at c2; simp at c2
      rw [decide_eq_false this, Bool.false_and]
    · have e : (t.L.length : Int) = n.I := eq_of_beq (bnot_f c2)
      rw [decide_eq_true e, Bool.true_and]
      refine go_dec ⟨by omega, by omega⟩ (go_ite (fun c4 => ?_) fun c4 => ?_)
      · have e4 : (rg t.L 0 == 0) = false := bnot_t c4
        rw [e4, Bool.false_and]
      · have e4 : (rg t.L 0 == 0) = true := bnot_f c4
        rw [e4, Bool.true_and]
        simp only [Int.toNat_zero, Nat.sub_zero]
        refine go_yes ⟨e, k1, k2, by omega, by omega⟩ (go_ite (fun c5 => ?_) fun c5 => by rw [c5, Bool.false_and])
        rw [c5, Bool.true_and]
        refine go_yes ⟨⟨by omega, by omega, by omega, fun i hi => ?_⟩, fun j => ?_, by omega, by omega⟩ (go_ite (fun c6 => by rw [c6]) fun c6 => by rw [c6])
        · rw [e]; exact k4 i hi
        · rw [allFrom_iff] at c5
          by_cases hj : j < t.L.length
          · have := c5 j (Nat.zero_le _) (by omega)
            unfold timeB at this
            rw [Bool.and_eq_true, decide_eq_true_eq, decide_eq_true_eq] at this
            exact this
          · rw [rg_ge (by omega)]
            omega
  · cases h
theorem ok21_4 (n : Nat) : LoopSim C (n + 0) 21 (loopOf C.P 21 4) (mkL l21_4 G21_4) := by
  refine loop_ofK hC (sp := sp21) (lp := lp21) (sw := sw21) trivial trivial 0 [] (by kernel_rfl) rfl (fun k hk => by cases hk) (by kernel_rfl) (fun ds => (((ds.getD 0 default).L.length : Int) - (ds.getD 2 default).I).toNat) fun ds rr h => ?_
  unfold G21_4 at h
  split at h
  · rename_i a b i
    obtain ⟨hp, h⟩ := need_some h
    rw [yes_iff] at hp
    obtain ⟨h1, h2, h3, h4⟩ := hp
    have hb := big_eq
    refine ⟨by rw [fuelC]; simp; omega, ?_⟩
    rw [show roundTK C (mkTab sp21 lp21 sw21) 21 (loopOf C.P 21 4) 0 l21_4 [a, b, i] = _ from t21_4 a b i]
    obtain ⟨k, hk⟩ : ∃ k : Nat, i.I = k := ⟨i.I.toNat, by omega⟩
    
    simp only [hk, Int.toNat_natCast] at h h4 ⊢
    refine rd_if (fun hlt => ?_) fun hge => rd_out (all_end h (by omega))
    have hkl : k < a.L.length := by omega
    obtain ⟨s1, s2⟩ := all_step h hkl
    refine rd_dec ⟨by omega, by omega⟩ (rd_dec ⟨by omega, by omega⟩ (rd_ite (fun c => rd_out (s1 (bnot_t c))) fun c => ?_))
    rw [wrap_succ (by omega)]
    exact rd_again ((need_yes ⟨h1, h2, by simp only [I_i]; omega, by simp only [I_i, L_l]; omega⟩).trans (s2 (bnot_f c))) (show ((a.L.length : Int) - ((k + 1 : Nat) : Int)).toNat < ((a.L.length : Int) - i.I).toNat by omega)
  · cases h
theorem ok21 (n : Nat) : FnOK C (n + 1) 21 (mkF s21 G21) := by
  refine fn_ofS hC (sp := sp21) (lp := lp21) (sw := sw21) trivial trivial (by kernel_rfl) [4] (by kernel_rfl) (by kernel_rfl) (fun k hk L hL => by simp at hk; subst hk; cases hL; exact ok21_4 n) fun ds rr h => ?_
  unfold G21 at h
  split at h
  · rename_i a b
    obtain ⟨hp, h⟩ := need_some h
    rw [yes_iff] at hp
    have h1 := hp
    refine (congrArg T.run (t21 a b)).trans ?_
    rw [← h]
    unfold sameR
    refine go_ite (fun c => ?_) fun c => ?_
    · have : ¬ a.L.length = b.L.length := fun e => by rw [e] at c; simp at c
      rw [decide_eq_false this, Bool.false_and]
    · have e9 : (a.L.length : Int) = b.L.length := eq_of_beq (bnot_f c)
      have e : a.L.length = b.L.length := by omega
      rw [decide_eq_true e, Bool.true_and]
      simp only [Int.toNat_zero, Nat.sub_zero]
      exact go_yes ⟨h1, e, by omega, by omega⟩ (go_ite (fun c6 => by rw [c6]) fun c6 => by rw [c6])
  · cases h
theorem ok15 (n : Nat) : FnOK C (n + 1) 15 (mkF s15 G15) := by
  refine fn_ofS hC (sp := sp15) (lp := lp15) (sw := sw15) trivial trivial (by kernel_rfl) [] (by kernel_rfl) rfl (fun k hk => by cases hk) fun ds rr h => ?_
  unfold G15 at h
  split at h
  · rename_i a b
    refine (congrArg T.run (t15 a b)).trans ?_
    rw [← h]
    unfold fewB
    refine go_if (fun c1 => go_if (fun c2 => ?_) fun c2 => go_if (fun c3 => ?_) fun c3 => ?_) fun c1 => go_if (fun c0 => go_if (fun c2 => ?_) fun c2 => go_if (fun c3 => ?_) fun c3 => ?_) fun c0 => ?_
    · rw [decide_eq_true c1, decide_eq_true c2]; rfl
    · rw [decide_eq_true c1, decide_eq_false c2, decide_eq_true c3]; rfl
    · rw [decide_eq_true c1, decide_eq_false c2, decide_eq_false c3]; rfl
    · rw [decide_eq_false c1, decide_eq_true c0, decide_eq_true c2]; rfl
    · rw [decide_eq_false c1, decide_eq_true c0, decide_eq_false c2, decide_eq_true c3]; rfl
    · rw [decide_eq_false c1, decide_eq_true c0, decide_eq_false c2, decide_eq_false c3]; rfl
    · rw [decide_eq_false c1, decide_eq_false c0]; rfl
  · cases h
theorem ok20_4 (n : Nat) : LoopSim C (n + 1) 20 (loopOf C.P 20 4) (mkL l20_4 G20_4) := by
  refine loop_ofK hC (sp := sp20) (lp := lp20) (sw := sw20) ⟨ok55 n, ok54 n, trivial⟩ trivial 0 [] (by kernel_rfl) rfl (fun k hk => by cases hk) (by kernel_rfl) (fun ds => ((ds.getD 1 default).L.length : Int).toNat - (ds.getD 5 default).I.toNat) fun ds rr h => ?_
  unfold G20_4 at h
  split at h
  · rename_i j c v m s i a
    obtain ⟨hp, h⟩ := need_some h
    rw [yes_iff] at hp
    obtain ⟨hj, ⟨n, g1, g2, g3, g4⟩, h2, h3, h4, h5, h6, h7⟩ := hp
    have hb := big_eq
    refine ⟨by rw [fuelC]; simp; omega, ?_⟩
    rw [roundTK_head (j := j) (n := 1) hj (by decide), show roundTK C (mkTab sp20 lp20 sw20) 20 (loopOf C.P 20 4) 0 l20_4 [.i 1, c, v, m, s, i, a] = _ from t20_4_1 c v m s i a]
    obtain ⟨k, hk⟩ : ∃ k : Nat, i.I = k := ⟨i.I.toNat, by omega⟩
    
    have w1 : IntKind.i64.wrap ((a.L.length : Int) - 1) = (a.L.length : Int) - 1 := wrap_id (by omega) (by omega)
    simp only [hk, h2, Int.toNat_natCast, Nat.zero_add, Nat.reduceAdd, rg_def, w1] at h h5 h6 h7 ⊢
    refine rd_if (fun hlt => ?_) fun hge => rd_out ?_
    · have hkl : k < c.L.length := by omega
      rw [show c.L.length - k = (c.L.length - (k + 1)) + 1 by omega] at h
      simp only [weighF] at h
      refine rd_dec ⟨by omega, by omega⟩ (rd_not (fun c1 => rd_out ?_) fun c1 => ?_)
      · have hn : ¬ ((0 ≤ rg c.L k ∧ rg c.L k ≤ (a.L.length : Int) - 1) ∧ lkF a.L (rg c.L k).toNat = v.I) := fun hh => by rw [Lite.within_iff.2 hh.1] at c1; cases c1
        simp only [if_neg hn] at h
        exact h
      · have d1 := Lite.within_iff.1 c1
        obtain ⟨f1, f2, f3⟩ := g4 (rg c.L k).toNat (by omega)
        have e1 : rg a.L (rg c.L k).toNat = lkF a.L (rg c.L k).toNat := rfl
        have e2 : ((a.L.getD (rg c.L k).toNat []).getD 1 default).I = lkT a.L (rg c.L k).toNat := rfl
        have e3 : ((a.L.getD (rg c.L k).toNat []).getD 2 default).I = lkW a.L (rg c.L k).toNat := rfl
        have ws : IntKind.i64.wrap (s.I + lkW a.L (rg c.L k).toNat) = s.I + lkW a.L (rg c.L k).toNat := wrap_id (by omega) (by omega)
        simp only [e1, e2, e3, ws]
        refine rd_dec ⟨by omega, by omega⟩ (rd_dec ⟨by omega, by omega⟩ (rd_dec (by omega) (rd_ite (fun c2 => rd_out ?_) fun c2 => ?_)))
        · have hv : ¬ lkF a.L (rg c.L k).toNat = v.I := fun e => by rw [e] at c2; simp at c2
          have hn : ¬ ((0 ≤ rg c.L k ∧ rg c.L k ≤ (a.L.length : Int) - 1) ∧ lkF a.L (rg c.L k).toNat = v.I) := fun hh => hv hh.2
          simp only [if_neg hn] at h
          exact h
        · have hv : lkF a.L (rg c.L k).toNat = v.I := eq_of_beq (bnot_f c2)
          have hy : (0 ≤ rg c.L k ∧ rg c.L k ≤ (a.L.length : Int) - 1) ∧ lkF a.L (rg c.L k).toNat = v.I := ⟨d1, hv⟩
          simp only [if_pos hy] at h
          rw [wrap_succ (by omega)]
          refine rd_dec ⟨by omega, by omega⟩ (rd_dec ⟨by omega, by omega⟩ (rd_dec (by omega) (rd_dec ⟨by omega, by omega⟩ (rd_dec ⟨by omega, by omega⟩ (rd_dec (by omega) (rd_again ((need_yes ⟨rfl, ⟨n, g1, g2, g3, g4⟩, rfl, h3, by simp only [I_i]; omega, by simp only [I_i, L_l]; omega, by simp only [I_i]; omega, by simp only [I_i]; omega⟩).trans ?_) ?_))))))
          · simp only [L_l, I_i, Int.toNat_natCast]
            exact h
          · show (c.L.length : Int).toNat - ((k + 1 : Nat) : Int).toNat < (c.L.length : Int).toNat - i.I.toNat
            omega
    · rw [← h]
      have e5 : c.L.length - k = 0 := by omega
      simp only [e5, weighF]
      rfl
  · cases h
theorem ok20 (n : Nat) : FnOK C (n + 2) 20 (mkF s20 G20) := by
  refine fn_ofS hC (sp := sp20) (lp := lp20) (sw := sw20) ⟨ok55 n, ok54 n, trivial⟩ trivial (by kernel_rfl) [4] (by kernel_rfl) (by kernel_rfl) (fun k hk L hL => by simp at hk; subst hk; cases hL; exact ok20_4 n) fun ds rr h => ?_
  unfold G20 at h
  split at h
  · rename_i n l c v
    obtain ⟨hp, h⟩ := need_some h
    rw [yes_iff] at hp
    obtain ⟨hp, h2⟩ := hp
    refine (congrArg T.run (t20 n l c v)).trans ?_
    have hb := big_eq
    have hg := good_all hp
    rw [← h]
    simp only [Int.toNat_zero, Nat.sub_zero]
    refine go_yes hp (go_yes ⟨by trivial, ⟨_, hg⟩, by omega, h2, by omega, by omega, by omega, by omega⟩ (go_ite (fun c3 => by rw [c3]) fun c3 => ?_))
    rw [weigh_no _ _ _ _ c3]
  · cases h
theorem ok29 (n : Nat) : FnOK C (n + 3) 29 (mkF s29 G29) := by
  refine fn_ofS hC (sp := sp29) (lp := lp29) (sw := sw29) ⟨ok55 (n + 1), ok54 (n + 1), ok20 n, trivial⟩ trivial (by kernel_rfl) [] (by kernel_rfl) rfl (fun k hk => by cases hk) fun ds rr h => ?_
  unfold G29 at h
  split at h
  · rename_i n l c
    obtain ⟨hp, h⟩ := need_some h
    rw [yes_iff] at hp
    have hp := hp
    refine (congrArg T.run (t29 n l c)).trans ?_
    have hb := big_eq
    have hg := good_all hp
    obtain ⟨k1, k2, k3, k4⟩ := net_of hp
    have hla := len_allL n.I l.L
    have hw : IntKind.i64.wrap (((allL n.I l.L).length : Int) - 1) = ((allL n.I l.L).length : Int) - 1 := wrap_id (by omega) (by omega)
    have e1 : decide (1 ≤ (c.L.length : Int) ∧ (c.L.length : Int) ≤ n.I) = Lite.within c.L.length 1 n.I := within_dec.symm
    have e2 : decide (0 ≤ rg c.L 0 ∧ rg c.L 0 ≤ ((allL n.I l.L).length : Int) - 1) = Lite.within (rg c.L 0) 0 (((allL n.I l.L).length : Int) - 1) := within_dec.symm
    have e3 : (((allL n.I l.L).getD (rg c.L 0).toNat []).getD 0 default).I = lkF (allL n.I l.L) (rg c.L 0).toNat := rfl
    
    rw [← h]
    unfold provesB
    simp only [Int.toNat_natCast, Int.toNat_zero, hw, rg_def, e3]
    refine go_yes hp (go_not (fun c1 => by rw [e1, c1, Bool.false_and]) fun c1 => ?_)
    have d1 := Lite.within_iff.1 c1
    rw [e1, c1, Bool.true_and]
    refine go_dec ⟨by omega, by omega⟩ (go_not (fun c2 => by rw [e2, c2, Bool.false_and]) fun c2 => ?_)
    have d2 := Lite.within_iff.1 c2
    rw [e2, c2, Bool.true_and]
    refine go_dec ⟨by omega, by omega⟩ (go_dec ⟨by omega, by omega⟩ (go_dec (by omega) (go_yes ⟨hp, by omega⟩ (go_ite (fun c3 => ?_) fun c3 => by rw [c3, Bool.false_and]))))
    rw [c3, Bool.true_and]
    exact go_ite (fun c4 => by rw [c4, Bool.true_and]) fun c4 => by rw [c4, Bool.false_and]
  · cases h
theorem ok30_6 (n : Nat) : LoopSim C (n + 5) 30 (loopOf C.P 30 6) (mkL l30_6 G30_6) := by
  refine loop_ofK hC (sp := sp30) (lp := lp30) (sw := sw30) ⟨ok47 n, ok48 (n + 4), ok49 (n + 3), trivial⟩ trivial 0 [] (by kernel_rfl) rfl (fun k hk => by cases hk) (by kernel_rfl) (fun ds => ((ds.getD 4 default).I - (ds.getD 5 default).I).toNat) fun ds rr h => ?_
  unfold G30_6 at h
  split at h
  · rename_i j c s d k i n m a
    obtain ⟨hp, h⟩ := need_some h
    rw [yes_iff] at hp
    obtain ⟨hj, ⟨g1, g2, g3, g4⟩, h2, h3, h4, h5, h6, h7, h8, h9, h10⟩ := hp
    have hb := big_eq
    refine ⟨by rw [fuelC]; simp; omega, ?_⟩
    rw [roundTK_head (j := j) (n := 0) hj (by decide), show roundTK C (mkTab sp30 lp30 sw30) 30 (loopOf C.P 30 6) 0 l30_6 [.i 0, c, s, d, k, i, n, m, a] = _ from t30_6_0 c s d k i n m a]
    obtain ⟨q, hq⟩ : ∃ q : Nat, i.I = q := ⟨i.I.toNat, by omega⟩
    have w1 : IntKind.i64.wrap ((a.L.length : Int) - 1) = (a.L.length : Int) - 1 := wrap_id (by omega) (by omega)
    simp only [hq, h2, h3, h4, Int.toNat_natCast, Nat.zero_add, Nat.reduceAdd, rg_def, w1] at h h7 h8 h9 h10 ⊢
    refine rd_if (fun hlt => ?_) fun hge => rd_out ?_
    · have hql : q < c.L.length := by omega
      have hmu : ((c.L.length : Int) - ((q + 1 : Nat) : Int)).toNat < (k.I - i.I).toNat := by omega
      have eat1 : atB a.L c.L (q + 1) = lkT a.L (rg c.L q).toNat := if_neg (by omega)
      rw [show c.L.length - q = (c.L.length - (q + 1)) + 1 by omega] at h
      simp only [weighF] at h
      refine rd_dec ⟨by omega, by omega⟩ (rd_not (fun c1 => rd_out ?_) fun c1 => ?_)
      · have hn : ¬ ((0 ≤ rg c.L q ∧ rg c.L q ≤ (a.L.length : Int) - 1) ∧ lkF a.L (rg c.L q).toNat = atB a.L c.L q) := fun hh => by rw [Lite.within_iff.2 hh.1] at c1; cases c1
        simp only [if_neg hn] at h
        exact h
      · have d1 := Lite.within_iff.1 c1
        obtain ⟨f1, f2, f3⟩ := g4 (rg c.L q).toNat (by omega)
        have e1 : rg a.L (rg c.L q).toNat = lkF a.L (rg c.L q).toNat := rfl
        have e2 : ((a.L.getD (rg c.L q).toNat []).getD 1 default).I = lkT a.L (rg c.L q).toNat := rfl
        have e3 : ((a.L.getD (rg c.L q).toNat []).getD 2 default).I = lkW a.L (rg c.L q).toNat := rfl
        have ws : IntKind.i64.wrap (s.I + lkW a.L (rg c.L q).toNat) = s.I + lkW a.L (rg c.L q).toNat := wrap_id (by omega) (by omega)
        simp only [e1, e3, ws]
        rw [wrap_succ (by omega)]
        refine rd_if (fun c2 => ?_) fun c2 => ?_
        · have wq : IntKind.i64.wrap ((q : Int) - 1) = ((q - 1 : Nat) : Int) := (wrap_id (by omega) (by omega)).trans (by omega)
          have d3 := h10 (by omega)
          have e4 : ((a.L.getD (rg c.L (q - 1)).toNat []).getD 1 default).I = lkT a.L (rg c.L (q - 1)).toNat := rfl
          simp only [wq, Int.toNat_natCast, e4]
          have eat : atB a.L c.L q = lkT a.L (rg c.L (q - 1)).toNat := if_neg (by omega)
          refine rd_dec ⟨by omega, by omega⟩ (rd_dec d3 (rd_dec (by omega) (rd_dec ⟨by omega, by omega⟩ (rd_dec (by omega) (rd_ite (fun c3 => rd_out ?_) fun c3 => ?_)))))
          · have hn : ¬ ((0 ≤ rg c.L q ∧ rg c.L q ≤ (a.L.length : Int) - 1) ∧ lkF a.L (rg c.L q).toNat = atB a.L c.L q) := fun hh => by
              have h9 := hh.2
              rw [eat] at h9
              rw [h9] at c3
              simp at c3
            simp only [if_neg hn] at h
            exact h
          · have hv : lkF a.L (rg c.L q).toNat = atB a.L c.L q := by rw [eat]; exact (eq_of_beq (bnot_f c3)).symm
            simp only [if_pos (show (0 ≤ rg c.L q ∧ rg c.L q ≤ (a.L.length : Int) - 1) ∧ lkF a.L (rg c.L q).toNat = atB a.L c.L q from ⟨d1, hv⟩)] at h
            refine rd_dec ⟨by omega, by omega⟩ (rd_dec (by omega) (rd_again ((need_yes ⟨rfl, ⟨g1, g2, g3, g4⟩, rfl, rfl, rfl, h5, by simp only [I_i]; omega, by simp only [I_i, L_l]; omega, by simp only [I_i]; omega, by simp only [I_i]; omega, fun _ => by simp only [I_i, L_l, Int.toNat_natCast, Nat.add_sub_cancel]; omega⟩).trans ?_) hmu))
            simp only [L_l, I_i, Int.toNat_natCast, eat1]
            exact h
        · have q0 : q = 0 := by omega
          have hv : lkF a.L (rg c.L q).toNat = atB a.L c.L q := by rw [q0]; rfl
          simp only [if_pos (show (0 ≤ rg c.L q ∧ rg c.L q ≤ (a.L.length : Int) - 1) ∧ lkF a.L (rg c.L q).toNat = atB a.L c.L q from ⟨d1, hv⟩)] at h
          refine rd_dec ⟨by omega, by omega⟩ (rd_dec (by omega) (rd_again ((need_yes ⟨rfl, ⟨g1, g2, g3, g4⟩, rfl, rfl, rfl, h5, by simp only [I_i]; omega, by simp only [I_i, L_l]; omega, by simp only [I_i]; omega, by simp only [I_i]; omega, fun _ => by simp only [I_i, L_l, Int.toNat_natCast, Nat.add_sub_cancel]; omega⟩).trans ?_) hmu))
          simp only [L_l, I_i, Int.toNat_natCast, eat1]
          exact h
    · rw [← h]
      have e5 : c.L.length - q = 0 := by omega
      simp only [e5, weighF]
      rfl
  · cases h
theorem ok30 (n : Nat) : FnOK C (n + 6) 30 (mkF s30 G30) := by
  refine fn_ofS hC (sp := sp30) (lp := lp30) (sw := sw30) ⟨ok47 n, ok48 (n + 4), ok49 (n + 3), trivial⟩ trivial (by kernel_rfl) [6] (by kernel_rfl) (by kernel_rfl) (fun k hk L hL => by simp at hk; subst hk; cases hL; exact ok30_6 n) fun ds rr h => ?_
  unfold G30 at h
  split at h
  · rename_i n l c
    obtain ⟨hp, h⟩ := need_some h
    rw [yes_iff] at hp
    have h1 := hp
    refine (congrArg T.run (t30 n l c)).trans ?_
    rw [← h]
    refine go_yes h1 (go_not (fun c0 => by rw [c0, Bool.false_and]) fun c0 => ?_)
    have hp : netP n.I l.L := c0
    have hb := big_eq
    have hg := good_all hp
    obtain ⟨k1, k2, k3, k4⟩ := net_of hp
    have hla := len_allL n.I l.L
    have hw : IntKind.i64.wrap (((allL n.I l.L).length : Int) - 1) = ((allL n.I l.L).length : Int) - 1 := wrap_id (by omega) (by omega)
    have e1 : decide (1 ≤ (c.L.length : Int) ∧ (c.L.length : Int) ≤ n.I) = Lite.within c.L.length 1 n.I := within_dec.symm
    have e2 : decide (0 ≤ rg c.L 0 ∧ rg c.L 0 ≤ ((allL n.I l.L).length : Int) - 1) = Lite.within (rg c.L 0) 0 (((allL n.I l.L).length : Int) - 1) := within_dec.symm
    have e3 : (((allL n.I l.L).getD (rg c.L 0).toNat []).getD 0 default).I = lkF (allL n.I l.L) (rg c.L 0).toNat := rfl
    
    rw [c0, Bool.true_and]
    unfold provesB
    refine go_not (fun c1 => by rw [e1, c1, Bool.false_and]) fun c1 => ?_
    have d1 := Lite.within_iff.1 c1
    rw [e1, c1, Bool.true_and]
    have eat : atB (allL n.I l.L) c.L 0 = lkF (allL n.I l.L) (rg c.L 0).toNat := rfl
    have wl : IntKind.i64.wrap ((c.L.length : Int) - 1) = ((c.L.length - 1 : Nat) : Int) := (wrap_id (by omega) (by omega)).trans (by omega)
    have e4 : (((allL n.I l.L).getD (rg c.L (c.L.length - 1)).toNat []).getD 1 default).I = lkT (allL n.I l.L) (rg c.L (c.L.length - 1)).toNat := rfl
    simp only [wl, Int.toNat_natCast, Int.toNat_zero, Nat.sub_zero, eat, rg_def, e3, Nat.zero_add, e4]
    refine go_yes hp (go_yes ⟨by trivial, hg, by trivial, by trivial, by trivial, by omega, by omega, by omega, by omega, by omega, fun h => absurd h (by decide)⟩ (go_ite (fun c2 => ?_) fun c2 => by rw [c2, Bool.false_and, Bool.and_false]))
    obtain ⟨w1, w2⟩ := weigh_yes _ _ _ _ c2
    have r0 := w1 0 (Nat.le_refl _) (by omega)
    have r1 := w1 (c.L.length - 1) (Nat.zero_le _) (by omega)
    have w3 := w2 (by omega)
    rw [Nat.zero_add] at w3
    rw [decide_eq_true r0, c2, Bool.true_and, Bool.true_and, w3]
    refine go_dec ⟨by omega, by omega⟩ (go_dec ⟨by omega, by omega⟩ (go_dec (by omega) (go_dec ⟨by omega, by omega⟩ (go_dec ⟨by omega, by omega⟩ (go_dec (by omega) (go_ite (fun c4 => by rw [c4, Bool.true_and]) fun c4 => by rw [c4, Bool.false_and]))))))
  · cases h
end Go.Proofs.Ytipbcpobnciccaa
