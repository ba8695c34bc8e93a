/-
  Plans and tables: what is as defined.
-/
import Derived.Test.YtipbcpobnciccaaTimSigR
import Derived.Test.YtipbcpobnciccaaTimR0
namespace Go.Proofs.Ytipbcpobnciccaa
open Go.Lite
noncomputable section
def hourB (l : List (List D)) (k : Nat) : Bool := decide ((0 ≤ ix (l.getD k []) 0 ∧ ix (l.getD k []) 0 ≤ ix (l.getD k []) 1) ∧ ix (l.getD k []) 1 ≤ 200000 ∧ 0 ≤ ix (l.getD k []) 2 ∧ ix (l.getD k []) 2 ≤ 200000)
def hours (l : List (List D)) : Bool := allFrom (hourB l) 0 l.length
def wayC (c : List D) : Bool := decide ((1 ≤ ix c 0 ∧ ix c 0 ≤ 1000) ∧ (0 ≤ ix c 1 ∧ ix c 1 ≤ 600) ∧ (0 ≤ ix c 2 ∧ ix c 2 ≤ 600) ∧ (1 ≤ ix c 3 ∧ ix c 3 ≤ 60) ∧ (0 ≤ ix c 5 ∧ ix c 5 ≤ ix c 6) ∧ ix c 6 ≤ 1000 ∧ (lx c 7).length ≤ 10)
def grpC (c : List D) (first : Bool) (g : Int) : Bool := if bx c 4 then !first else (decide (ix c 5 = 0 ∧ ix c 6 = 0) && (first || decide (ix c 3 = g)))
def wayB (c : List D) (first : Bool) (g : Int) : Bool := wayC c && (grpC c first g && hours (lx c 7))
def mk8 (a b c d e f g h : D) : List D := [.i a.I, .i b.I, .i c.I, .i d.I, .b e.B, .i f.I, .i g.I, .l h.L]
def wayL (w : List (List D)) (i : Nat) : Bool := wayB (w.getD i []) (i == 0) (ix (w.getD (i - 1) []) 3)
def planH (cars first : Int) (w : List (List D)) : Bool := decide ((1 ≤ cars ∧ cars ≤ 200) ∧ (1 ≤ w.length ∧ w.length ≤ 60) ∧ 0 ≤ first ∧ first ≤ 100000)
def planB (cars first : Int) (w : List (List D)) : Bool := planH cars first w && allFrom (wayL w) 0 w.length
def timeL (l : List (List D)) (i : Nat) : Bool := decide (0 ≤ rg l i ∧ rg l i ≤ 1000000000)
def timedB (l : List (List D)) (n : Int) : Bool := decide ((l.length : Int) = n) && allFrom (timeL l) 0 l.length
def G48 (ds : List D) : T (List D) := match ds with
  | [n, a, b] => .leaf [.b (within n.I a.I b.I)]
  | _ => .fail
def G54 (ds : List D) : T (List D) := match ds with
  | [n, a, b] => .leaf [.b (within n.I a.I b.I)]
  | _ => .fail
def G16 (ds : List D) : T (List D) := match ds with
  | [] => .leaf [.b true]
  | _ => .fail
def G86 (ds : List D) : T (List D) := match ds with
  | [a, b, c] => .leaf [.b (!decide ((0 ≤ a.I ∧ a.I ≤ b.I) ∧ b.I ≤ 200000 ∧ 0 ≤ c.I ∧ c.I ≤ 200000))]
  | _ => .fail
def G88 (ds : List D) : T (List D) := match ds with
  | [l] => .need (yes (l.L.length < big)) (.leaf [.i (firstFrom (fun j => !hourB l.L j) 0 l.L.length)])
  | _ => .fail
def G88_2 (ds : List D) : T (Ex × List D) := match ds with
  | [l, m, i] => .need (yes (l.L.length < big ∧ m.I = l.L.length ∧ 0 ≤ i.I ∧ i.I ≤ l.L.length))
      (.ite (decide (firstFrom (fun j => !hourB l.L j) i.I.toNat (l.L.length - i.I.toNat) ≥ 0)) (.leaf (.ret, [.i (firstFrom (fun j => !hourB l.L j) i.I.toNat (l.L.length - i.I.toNat))])) (.leaf (.exit 0, [])))
  | _ => .fail
def G85 (ds : List D) : T (List D) := match ds with
  | [l] => .need (yes (l.L.length < big)) (.leaf [.b (!hours l.L)])
  | _ => .fail
def G71 (ds : List D) : T (List D) := match ds with
  | [a, b, c, d, e, f, g, h] => .leaf [.b (wayB (mk8 a b c d e f g h) true 0)]
  | _ => .fail
def G1071 (ds : List D) : T (List D) := match ds with
  | [a, b, c, d, e, f, g, h, _, _, _, p, _, _, _, _] => .leaf [.b (wayB (mk8 a b c d e f g h) false p.I)]
  | _ => .fail
def G41 (ds : List D) : T (List D) := match ds with
  | [c, f, w] => .leaf [.i (if planB c.I f.I w.L then 0 else 2)]
  | _ => .fail
def G41_5 (ds : List D) : T (Ex × List D) := match ds with
  | [j, w, m, i, _, _, w'] => .need (yes (j.I = 0 ∧ w'.L = w.L ∧ w.L.length ≤ 60 ∧ m.I = w.L.length ∧ i.I = 0)) (.ite (allFrom (wayL w.L) 0 w.L.length) (.leaf (.exit 0, [])) (.leaf (.ret, [.i 2])))
  | [j, _, _, _, g, _, _, _, _, w, m, i, _, _, w'] => .need (yes (j.I = 1 ∧ w'.L = w.L ∧ w.L.length ≤ 60 ∧ m.I = w.L.length ∧ 1 ≤ i.I ∧ i.I ≤ w.L.length ∧ g.I = ix (w.L.getD (i.I.toNat - 1) []) 3))
      (.ite (allFrom (wayL w.L) i.I.toNat (w.L.length - i.I.toNat)) (.leaf (.exit 0, [])) (.leaf (.ret, [.i 2])))
  | _ => .fail
def G84 (ds : List D) : T (List D) := match ds with
  | [t] => .leaf [.b (within t.I 0 1000000000)]
  | _ => .fail
def G87 (ds : List D) : T (List D) := match ds with
  | [t] => .leaf [.b (!within t.I 0 1000000000)]
  | _ => .fail
def G2080 (ds : List D) : T (List D) := match ds with
  | [l] => .need (yes (l.L.length < big)) (.leaf [.i (firstFrom (fun j => !timeL l.L j) 0 l.L.length)])
  | _ => .fail
def G2080_2 (ds : List D) : T (Ex × List D) := match ds with
  | [l, m, i] => .need (yes (l.L.length < big ∧ m.I = l.L.length ∧ 0 ≤ i.I ∧ i.I ≤ l.L.length))
      (.ite (decide (firstFrom (fun j => !timeL l.L j) i.I.toNat (l.L.length - i.I.toNat) ≥ 0)) (.leaf (.ret, [.i (firstFrom (fun j => !timeL l.L j) i.I.toNat (l.L.length - i.I.toNat))])) (.leaf (.exit 0, [])))
  | _ => .fail
def G2061 (ds : List D) : T (List D) := match ds with
  | [l] => .need (yes (l.L.length < big)) (.leaf [.b (!allFrom (timeL l.L) 0 l.L.length)])
  | _ => .fail
def G83 (ds : List D) : T (List D) := match ds with
  | [l] => .need (yes (l.L.length < big)) (.leaf [.b (allFrom (timeL l.L) 0 l.L.length)])
  | _ => .fail
def G70 (ds : List D) : T (List D) := match ds with
  | [l, n] => .need (yes (l.L.length < big)) (.leaf [.b (timedB l.L n.I)])
  | _ => .fail
def spanF (cars : Int) (c : List D) : Int := (cars - 1) * ix c 3
def busyF (cars : Int) (c : List D) : Int := spanF cars c + ix c 0 + ix c 2
def G73 (ds : List D) : T (List D) := match ds with
  | [c, f, w, j] => .need (yes (planB c.I f.I w.L = true ∧ 0 ≤ j.I ∧ j.I < w.L.length)) (.leaf [.i (busyF c.I (w.L.getD j.I.toNat []))])
  | _ => .fail
def G60 (ds : List D) : T (List D) := match ds with
  | [c, f, w, j] => .need (yes (planB c.I f.I w.L = true ∧ 0 ≤ j.I ∧ j.I < w.L.length)) (.leaf [.i (spanF c.I (w.L.getD j.I.toNat []))])
  | _ => .fail
def G59 (ds : List D) : T (List D) := match ds with
  | [l, n] => .need (yes (l.L.length < big)) (.leaf [.b (timedB l.L n.I)])
  | _ => .fail
def G59_2 (ds : List D) : T (Ex × List D) := match ds with
  | [l, n, i] => .need (yes (l.L.length < big ∧ 0 ≤ i.I ∧ i.I ≤ l.L.length)) (.ite (allFrom (timeL l.L) i.I.toNat (l.L.length - i.I.toNat)) (.leaf (.exit 0, [.l l.L, .i n.I])) (.leaf (.ret, [.b false])))
  | _ => .fail
def fewW (w : List (List D)) (i : Nat) : Bool := decide ((lx (w.getD i []) 7).length ≤ 12 ∧ (2 < i → (lx (w.getD i []) 7).length ≤ 3))
def smallP (w : List (List D)) : Bool := decide (w.length ≤ 8) && allFrom (fewW w) 0 w.length
def G25 (ds : List D) : T (List D) := match ds with
  | [_, _, w] => .leaf [.b (smallP w.L)]
  | _ => .fail
def G25_4 (ds : List D) : T (Ex × List D) := match ds with
  | [i, _, _, w] => .need (yes (w.L.length ≤ 8 ∧ 0 ≤ i.I ∧ i.I ≤ w.L.length)) (.ite (allFrom (fewW w.L) i.I.toNat (w.L.length - i.I.toNat)) (.leaf (.exit 0, [])) (.leaf (.ret, [.b false])))
  | _ => .fail
def briefT (a b c d : List (List D)) : Bool := decide (a.length ≤ 12 ∧ b.length ≤ 12 ∧ c.length ≤ 12 ∧ d.length ≤ 12)
def G37 (ds : List D) : T (List D) := match ds with
  | [a, b, c, d] => .leaf [.b (briefT a.L b.L c.L d.L)]
  | _ => .fail
end
end Go.Proofs.Ytipbcpobnciccaa
