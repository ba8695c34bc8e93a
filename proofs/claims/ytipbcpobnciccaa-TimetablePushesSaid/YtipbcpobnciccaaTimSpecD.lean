/-
  What the functions about timetables and proofs compute.
-/
import Derived.Test.YtipbcpobnciccaaTimSigD
import Derived.Test.YtipbcpobnciccaaTimSpecC
namespace Go.Proofs.Ytipbcpobnciccaa
open Go.Lite
noncomputable section

/-! ### Chains -/
def weighF (a c : List (List D)) : Nat → Nat → Int → Int → Bool × Int × Int
  | _, 0, s, v => (true, s, v)
  | i, k + 1, s, v => if (0 ≤ rg c i ∧ rg c i ≤ (a.length : Int) - 1) ∧ lkF a (rg c i).toNat = v then weighF a c (i + 1) k (s + lkW a (rg c i).toNat) (lkT a (rg c i).toNat) else (false, 0, 0)
def provesB (n : Int) (a c : List (List D)) : Bool :=
  decide (1 ≤ (c.length : Int) ∧ (c.length : Int) ≤ n) && (decide (0 ≤ rg c 0 ∧ rg c 0 ≤ (a.length : Int) - 1) && ((weighF a c 0 c.length 0 (lkF a (rg c 0).toNat)).1 &&
    ((weighF a c 0 c.length 0 (lkF a (rg c 0).toNat)).2.2 == lkF a (rg c 0).toNat && decide ((weighF a c 0 c.length 0 (lkF a (rg c 0).toNat)).2.1 > 0))))
/-- Where a chain is before a link. -/
def atB (a c : List (List D)) (i : Nat) : Int := if i = 0 then lkF a (rg c 0).toNat else lkT a (rg c (i - 1)).toNat

/-! ### Timetables -/
def keptF (l t : List (List D)) (j : Nat) : Bool := decide (lkW l j ≤ rg t (lkT l j).toNat - rg t (lkF l j).toNat)
def keepsB (n : Int) (l t : List (List D)) : Bool := decide ((t.length : Int) = n) && (allFrom (fun j => !decide (rg t j < 0)) 0 t.length && (rg t 0 == 0 && allFrom (keptF (allL n l) t) 0 (allL n l).length))
def timeB (t : List (List D)) (j : Nat) : Bool := decide (0 ≤ rg t j) && decide (rg t j ≤ 1099511627776)
def keepsR (n : Int) (l t : List (List D)) : Bool := decide ((t.length : Int) = n) && (rg t 0 == 0 && (allFrom (timeB t) 0 t.length && allFrom (keptF l t) 0 l.length))
def sameR (a b : List (List D)) : Bool := decide (a.length = b.length) && allFrom (fun j => rg a j == rg b j) 0 a.length
def fewB (n : Int) (l : List (List D)) : Bool := (decide (n ≤ 12) || decide (n > 500)) && (decide ((l.length : Int) ≤ 30) || (decide ((l.length : Int) > 5000) && decide ((l.length : Int) < 5200)))
def posR (t : List (List D)) : Prop := ∀ j, 0 ≤ rg t j ∧ rg t j < 9223372036854775808

/-! ### The functions -/
def G16 (ds : List D) : T (List D) := match ds with
  | [] => .leaf [.b true]
  | _ => .fail
def G15 (ds : List D) : T (List D) := match ds with
  | [n, l] => .leaf [.b (fewB n.I l.L)]
  | _ => .fail
def G20 (ds : List D) : T (List D) := match ds with
  | [n, l, c, v] => .need (yes (netP n.I l.L ∧ c.L.length ≤ 1000000)) (.leaf [.i (weighF (allL n.I l.L) c.L 0 c.L.length 0 v.I).2.1, .i (weighF (allL n.I l.L) c.L 0 c.L.length 0 v.I).2.2, .b (weighF (allL n.I l.L) c.L 0 c.L.length 0 v.I).1])
  | _ => .fail
def G20_4 (ds : List D) : T (Ex × List D) := match ds with
  | [j, c, v, m, s, i, a] => .need (yes (j.I = 1 ∧ (∃ n, goodL n a.L) ∧ m.I = a.L.length ∧ c.L.length ≤ 1000000 ∧ 0 ≤ i.I ∧ i.I ≤ c.L.length ∧ -1000000 * i.I ≤ s.I ∧ s.I ≤ 1000000 * i.I))
      (.ite (weighF a.L c.L i.I.toNat (c.L.length - i.I.toNat) s.I v.I).1 (.leaf (.exit 0, [.i (weighF a.L c.L i.I.toNat (c.L.length - i.I.toNat) s.I v.I).2.2, .i (weighF a.L c.L i.I.toNat (c.L.length - i.I.toNat) s.I v.I).2.1])) (.leaf (.ret, [.i 0, .i 0, .b false])))
  | _ => .fail
def G29 (ds : List D) : T (List D) := match ds with
  | [n, l, c] => .need (yes (netP n.I l.L)) (.leaf [.b (provesB n.I (allL n.I l.L) c.L)])
  | _ => .fail
def G30 (ds : List D) : T (List D) := match ds with
  | [n, l, c] => .need (yes (l.L.length < big)) (.leaf [.b (netOk n.I l.L && provesB n.I (allL n.I l.L) c.L)])
  | _ => .fail
def G30_6 (ds : List D) : T (Ex × List D) := match ds with
  | [j, c, s, c', k, i, n, m, a] => .need (yes (j.I = 0 ∧ goodL n.I a.L ∧ m.I = a.L.length ∧ c'.L = c.L ∧ k.I = c.L.length ∧ c.L.length ≤ 500 ∧ 0 ≤ i.I ∧ i.I ≤ c.L.length ∧ -1000000 * i.I ≤ s.I ∧ s.I ≤ 1000000 * i.I ∧ (0 < i.I → 0 ≤ rg c.L (i.I.toNat - 1) ∧ rg c.L (i.I.toNat - 1) < a.L.length)))
      (.ite (weighF a.L c.L i.I.toNat (c.L.length - i.I.toNat) s.I (atB a.L c.L i.I.toNat)).1
        (.leaf (.exit 0, [.i 0, .l c.L, .i (weighF a.L c.L i.I.toNat (c.L.length - i.I.toNat) s.I (atB a.L c.L i.I.toNat)).2.1, .i n.I, .i a.L.length, .l a.L])) (.leaf (.ret, [.b false])))
  | _ => .fail
def G21 (ds : List D) : T (List D) := match ds with
  | [a, b] => .need (yes (a.L.length < big)) (.leaf [.b (sameR a.L b.L)])
  | _ => .fail
def G21_4 (ds : List D) : T (Ex × List D) := match ds with
  | [a, b, i] => .need (yes (a.L.length < big ∧ a.L.length = b.L.length ∧ 0 ≤ i.I ∧ i.I ≤ a.L.length)) (.ite (allFrom (fun j => rg a.L j == rg b.L j) i.I.toNat (a.L.length - i.I.toNat)) (.leaf (.exit 0, [])) (.leaf (.ret, [.b false])))
  | _ => .fail
def G32 (ds : List D) : T (List D) := match ds with
  | [n, l, t] => .need (yes (netP n.I l.L)) (.leaf [.b (keepsR n.I l.L t.L)])
  | _ => .fail
def G32_4 (ds : List D) : T (Ex × List D) := match ds with
  | [n, l, t, i] => .need (yes ((t.L.length : Int) = n.I ∧ 1 ≤ n.I ∧ n.I ≤ 500 ∧ 0 ≤ i.I ∧ i.I ≤ n.I)) (.ite (allFrom (timeB t.L) i.I.toNat (t.L.length - i.I.toNat)) (.leaf (.exit 0, [.l l.L, .l t.L])) (.leaf (.ret, [.b false])))
  | _ => .fail
def G32_9 (ds : List D) : T (Ex × List D) := match ds with
  | [l, t, i] => .need (yes (goodL t.L.length l.L ∧ (∀ j, 0 ≤ rg t.L j ∧ rg t.L j ≤ 1099511627776) ∧ 0 ≤ i.I ∧ i.I ≤ l.L.length)) (.ite (allFrom (keptF l.L t.L) i.I.toNat (l.L.length - i.I.toNat)) (.leaf (.exit 2, [])) (.leaf (.ret, [.b false])))
  | _ => .fail
def G64 (ds : List D) : T (List D) := match ds with
  | [f, t, w, ts] => .need (yes (0 ≤ f.I ∧ f.I < ts.L.length ∧ 0 ≤ t.I ∧ t.I < ts.L.length ∧ posR ts.L)) (.leaf [.b (!decide (w.I ≤ rg ts.L t.I.toNat - rg ts.L f.I.toNat))])
  | _ => .fail
def G1051 (ds : List D) : T (List D) := match ds with
  | [l, ts] => .need (yes (goodL ts.L.length l.L ∧ posR ts.L)) (.leaf [.i (firstFrom (fun j => !keptF l.L ts.L j) 0 l.L.length)])
  | _ => .fail
def G1051_2 (ds : List D) : T (Ex × List D) := match ds with
  | [l, ts, m, i] => .need (yes (goodL ts.L.length l.L ∧ posR ts.L ∧ m.I = l.L.length ∧ 0 ≤ i.I ∧ i.I ≤ l.L.length))
      (.ite (decide (firstFrom (fun j => !keptF l.L ts.L j) i.I.toNat (l.L.length - i.I.toNat) ≥ 0)) (.leaf (.ret, [.i (firstFrom (fun j => !keptF l.L ts.L j) i.I.toNat (l.L.length - i.I.toNat))])) (.leaf (.exit 0, [])))
  | _ => .fail
def G1063 (ds : List D) : T (List D) := match ds with
  | [l, ts] => .need (yes (goodL ts.L.length l.L ∧ posR ts.L)) (.leaf [.b (!allFrom (keptF l.L ts.L) 0 l.L.length)])
  | _ => .fail
def G62 (ds : List D) : T (List D) := match ds with
  | [x] => .leaf [.b (decide (x.I < 0))]
  | _ => .fail
def G80 (ds : List D) : T (List D) := match ds with
  | [l] => .need (yes (l.L.length < big)) (.leaf [.i (firstFrom (fun j => decide (rg l.L j < 0)) 0 l.L.length)])
  | _ => .fail
def G80_2 (ds : List D) : T (Ex × List D) := match ds with
  | [l, m, i] => .need (yes (l.L.length < big ∧ m.I = l.L.length ∧ 0 ≤ i.I ∧ i.I ≤ l.L.length))
      (.ite (decide (firstFrom (fun j => decide (rg l.L j < 0)) i.I.toNat (l.L.length - i.I.toNat) ≥ 0)) (.leaf (.ret, [.i (firstFrom (fun j => decide (rg l.L j < 0)) i.I.toNat (l.L.length - i.I.toNat))])) (.leaf (.exit 0, [])))
  | _ => .fail
def G61 (ds : List D) : T (List D) := match ds with
  | [l] => .need (yes (l.L.length < big)) (.leaf [.b (!allFrom (fun j => !decide (rg l.L j < 0)) 0 l.L.length)])
  | _ => .fail
def G31 (ds : List D) : T (List D) := match ds with
  | [n, l, t] => .need (yes (l.L.length < big ∧ t.L.length < big ∧ ∀ j, rg t.L j < 9223372036854775808)) (.leaf [.b (netOk n.I l.L && keepsB n.I l.L t.L)])
  | _ => .fail
end
end Go.Proofs.Ytipbcpobnciccaa
