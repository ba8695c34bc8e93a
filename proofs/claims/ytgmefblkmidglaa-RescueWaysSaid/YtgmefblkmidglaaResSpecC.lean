/-
  What the document's functions about networks compute, and the program's check.
-/
import Derived.Test.YtgmefblkmidglaaResSigC
import Derived.Test.YtgmefblkmidglaaResSpecB
namespace Go.Proofs.Ytgmefblkmidglaa
open Go.Lite
noncomputable section
/-! ### Networks -/
def clB (l : List (List D)) (i : Nat) : Bool := decide (0 ≤ ix (l.getD i []) 0 ∧ ix (l.getD i []) 0 < ix (l.getD i []) 1 ∧ ix (l.getD i []) 1 ≤ 100000 ∧ (0 < i → ix (l.getD (i - 1) []) 1 < ix (l.getD i []) 0))
def roadH (n : Int) (c : List D) : Bool := decide ((0 ≤ ix c 0 ∧ ix c 0 < n) ∧ (0 ≤ ix c 1 ∧ ix c 1 < n) ∧ ix c 0 ≠ ix c 1 ∧ (1 ≤ ix c 2 ∧ ix c 2 ≤ 10000) ∧ (lx c 3).length ≤ 20)
def roadB (n : Int) (c : List D) : Bool := roadH n c && allFrom (clB (lx c 3)) 0 (lx c 3).length
def netB (n : Int) (r : List (List D)) : Bool := decide ((1 ≤ n ∧ n ≤ 200) ∧ r.length ≤ 1000) && allFrom (fun i => roadB n (r.getD i [])) 0 r.length
def fewR (r : List (List D)) (i : Nat) : Bool := decide ((lx (r.getD i []) 3).length ≤ 30)
def smallH (n : Int) (r : List (List D)) : Bool := decide ((r.length ≤ 16 ∨ 1000 < r.length) ∧ r.length ≤ 1100 ∧ (n ≤ 8 ∨ 200 < n))
def smallB (n : Int) (r : List (List D)) : Bool := smallH n r && allFrom (fewR r) 0 r.length
def nodeB (n v t : Int) : Bool := decide ((0 ≤ v ∧ v < n) ∧ 0 ≤ t ∧ t ≤ 100000)
def sameR (a b : List (List D)) : Bool := decide (a.length = b.length) && allFrom (fun j => rg a j == rg b j) 0 a.length

/-! ### Hops -/
def hop1 (c : List D) (a x : List (List D)) : List (List D) :=
  if rg a (ix c 0).toNat < 0 then x
  else if rg x (ix c 1).toNat < 0 ∨ entW c (rg a (ix c 0).toNat) + ix c 2 < rg x (ix c 1).toNat then rs x (ix c 1).toNat (entW c (rg a (ix c 0).toNat) + ix c 2) else x
def hopF (r a : List (List D)) : Nat → Nat → List (List D) → List (List D)
  | _, 0, x => x
  | i, k + 1, x => hopF r a (i + 1) k (hop1 (r.getD i []) a x)
def reachF (r : List (List D)) : Nat → List (List D) → List (List D)
  | 0, a => a
  | k + 1, a => reachF r k (hopF r a 0 r.length a)
def beginF (n v t : Int) : List (List D) := rs (List.replicate n.toNat [.i (-1)]) v.toNat t
/-- Times after so many hops. -/
def okAt (n : Int) (k : Int) (a : List (List D)) : Prop := (a.length : Int) = n ∧ ∀ v, -1 ≤ rg a v ∧ rg a v ≤ 1099511627776 + 10000 * k

/-! ### The functions -/
def G47 (ds : List D) : T (List D) := match ds with
  | [n, a, b] => .leaf [.b (within n.I a.I b.I)]
  | _ => .fail
def G25 (ds : List D) : T (List D) := match ds with
  | [_, _, c, l, s] => .need (yes (okT c.I ∧ okS s.I ∧ okC l.L)) (.leaf [.i (entF l.L c.I 0 l.L.length s.I)])
  | _ => .fail
def G25_2 (ds : List D) : T (Ex × List D) := match ds with
  | [s, i, _, _, c, l] => .need (yes (okT c.I ∧ okS s.I ∧ okC l.L ∧ 0 ≤ i.I ∧ i.I ≤ l.L.length)) (.leaf (.exit 0, [.i (entF l.L c.I i.I.toNat (l.L.length - i.I.toNat) s.I)]))
  | _ => .fail
def mkRd (a b c l : D) : List D := [.i a.I, .i b.I, .i c.I, .l l.L]
def G48 (ds : List D) : T (List D) := match ds with
  | [n, a, b, c, l] => .need (yes (1 ≤ n.I ∧ n.I ≤ 200)) (.leaf [.b (roadB n.I (mkRd a b c l))])
  | _ => .fail
def G48_4 (ds : List D) : T (Ex × List D) := match ds with
  | [i, _, _, _, l] => .need (yes (l.L.length ≤ 20 ∧ 0 ≤ i.I ∧ i.I ≤ l.L.length)) (.ite (allFrom (clB l.L) i.I.toNat (l.L.length - i.I.toNat)) (.leaf (.exit 0, [])) (.leaf (.ret, [.b false])))
  | _ => .fail
def G15 (ds : List D) : T (List D) := match ds with
  | [n, r] => .leaf [.b (smallB n.I r.L)]
  | _ => .fail
def G15_4 (ds : List D) : T (Ex × List D) := match ds with
  | [i, _, r] => .need (yes (r.L.length ≤ 1100 ∧ 0 ≤ i.I ∧ i.I ≤ r.L.length)) (.ite (allFrom (fewR r.L) i.I.toNat (r.L.length - i.I.toNat)) (.leaf (.exit 0, [])) (.leaf (.ret, [.b false])))
  | _ => .fail
def G18 (ds : List D) : T (List D) := match ds with
  | [n, r] => .leaf [.i (if netB n.I r.L then 0 else 2)]
  | _ => .fail
def G18_4 (ds : List D) : T (Ex × List D) := match ds with
  | [r, m, i, n, _] => .need (yes ((1 ≤ n.I ∧ n.I ≤ 200) ∧ r.L.length ≤ 1000 ∧ m.I = r.L.length ∧ 0 ≤ i.I ∧ i.I ≤ r.L.length)) (.ite (allFrom (fun j => roadB n.I (r.L.getD j [])) i.I.toNat (r.L.length - i.I.toNat)) (.leaf (.exit 0, [])) (.leaf (.ret, [.i 2])))
  | _ => .fail
def G18_10 (ds : List D) : T (Ex × List D) := match ds with
  | [last, r, m, i, l, m', j, n, r'] => .need (yes (l.L.length ≤ 20 ∧ m'.I = l.L.length ∧ 0 ≤ j.I ∧ j.I ≤ l.L.length ∧ last.I = if j.I = 0 then -1 else ix (l.L.getD (j.I.toNat - 1) []) 1))
      (.ite (allFrom (clB l.L) j.I.toNat (l.L.length - j.I.toNat)) (.leaf (.exit 2, [.l r.L, .i m.I, .i i.I, .i n.I, .l r'.L])) (.leaf (.ret, [.i 2])))
  | _ => .fail
def G19 (ds : List D) : T (List D) := match ds with
  | [n, r] => .leaf [.b (netB n.I r.L)]
  | _ => .fail
def G19_4 (ds : List D) : T (Ex × List D) := match ds with
  | [i, n, r] => .need (yes ((1 ≤ n.I ∧ n.I ≤ 200) ∧ r.L.length ≤ 1000 ∧ 0 ≤ i.I ∧ i.I ≤ r.L.length)) (.ite (allFrom (fun j => roadB n.I (r.L.getD j [])) i.I.toNat (r.L.length - i.I.toNat)) (.leaf (.exit 0, [])) (.leaf (.ret, [.b false])))
  | _ => .fail
def G20 (ds : List D) : T (List D) := match ds with
  | [n, _, v, t] => .leaf [.b (nodeB n.I v.I t.I)]
  | _ => .fail
def G21 (ds : List D) : T (List D) := match ds with
  | [a, b] => .need (yes (a.L.length < big)) (.leaf [.b (sameR a.L b.L)])
  | _ => .fail
def G21_4 (ds : List D) : T (Ex × List D) := match ds with
  | [a, b, i] => .need (yes (a.L.length < big ∧ a.L.length = b.L.length ∧ 0 ≤ i.I ∧ i.I ≤ a.L.length)) (.ite (allFrom (fun j => rg a.L j == rg b.L j) i.I.toNat (a.L.length - i.I.toNat)) (.leaf (.exit 0, [])) (.leaf (.ret, [.b false])))
  | _ => .fail
def G49 (ds : List D) : T (List D) := match ds with
  | [n, r, v, t, h] => .need (yes (netB n.I r.L = true ∧ (0 ≤ v.I ∧ v.I < n.I) ∧ (0 ≤ t.I ∧ t.I ≤ 1099511627776) ∧ 0 ≤ h.I ∧ h.I ≤ 1000)) (.leaf [.i n.I, .l (reachF r.L h.I.toNat (beginF n.I v.I t.I))])
  | _ => .fail
def G49_3 (ds : List D) : T (Ex × List D) := match ds with
  | [v, t, h, m, i, n, r, a] => .need (yes ((1 ≤ n.I ∧ n.I ≤ 200) ∧ m.I = n.I ∧ (a.L.length : Int) = n.I ∧ 0 ≤ i.I ∧ i.I ≤ n.I)) (.leaf (.exit 0, [.i v.I, .i t.I, .i h.I, .i n.I, .i n.I, .l r.L, .l (fillF (-1) i.I.toNat (n.I.toNat - i.I.toNat) a.L)]))
  | _ => .fail
def G49_8 (ds : List D) : T (Ex × List D) := match ds with
  | [h, m, k, n, r, a] => .need (yes (netB n.I r.L = true ∧ m.I = n.I ∧ okAt n.I k.I a.L ∧ 0 ≤ k.I ∧ k.I ≤ h.I ∧ h.I ≤ 1000)) (.leaf (.exit 2, [.i n.I, .l (reachF r.L (h.I.toNat - k.I.toNat) a.L)]))
  | _ => .fail
def G49_12 (ds : List D) : T (Ex × List D) := match ds with
  | [h, m, k, m', j, n, r, a, x] => .need (yes (netB n.I r.L = true ∧ m.I = n.I ∧ m'.I = n.I ∧ okAt n.I k.I a.L ∧ okAt n.I (k.I + 1) x.L ∧ 0 ≤ k.I ∧ k.I ≤ 1000 ∧ 0 ≤ j.I ∧ j.I ≤ r.L.length))
      (.leaf (.exit 4, [.i h.I, .i k.I, .i n.I, .i n.I, .l r.L, .l (hopF r.L a.L j.I.toNat (r.L.length - j.I.toNat) x.L)]))
  | _ => .fail
def G22 (ds : List D) : T (List D) := match ds with
  | [n, r, v, t] => .need (yes (netB n.I r.L = true ∧ (0 ≤ v.I ∧ v.I < n.I) ∧ 0 ≤ t.I ∧ t.I ≤ 1099511627776)) (.leaf [.i n.I, .l (reachF r.L n.I.toNat (beginF n.I v.I t.I))])
  | _ => .fail
def G17 (ds : List D) : T (List D) := match ds with
  | [n, r, v, t] => .ite (netB n.I r.L && nodeB n.I v.I t.I) (.leaf [.i 1, .i n.I, .i 0, .l (arrF n.I r.L v.I t.I)]) (.leaf [.i 0, .i 2])
  | _ => .fail
end
end Go.Proofs.Ytgmefblkmidglaa
