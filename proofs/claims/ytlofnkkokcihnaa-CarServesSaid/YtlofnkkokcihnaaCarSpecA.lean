/-
  What the functions of grips compute.
-/
import Derived.Test.YtlofnkkokcihnaaCarSigA
namespace Go.Proofs.Ytlofnkkokcihnaa
open Go.Lite
noncomputable section

/-! ### Rows and compounds -/
def knotAt (l : List (List D)) (j : Nat) : Bool :=
  within (ix (l.getD j []) 0) (-40) 80 && within (ix (l.getD j []) 1) 0 1000 && (decide (j = 0) || decide (ix (l.getD (j - 1) []) 0 < ix (l.getD j []) 0))
def rowOk (l : List (List D)) : Bool := allFrom (knotAt l) 0 l.length && within l.length 1 10
def rowAt (l : List (List D)) (j : Nat) : List (List D) := lx (l.getD j []) 0
def rowsOk (l : List (List D)) : Bool := allFrom (fun j => rowOk (rowAt l j)) 0 l.length
def wearOk (l : List (List D)) : Bool := allFrom (fun j => within (ix (l.getD j []) 0) 0 1000) 0 l.length
def compoundOk (dry wet wear : List (List D)) (loss : Int) : Bool :=
  within dry.length 1 8 && decide (wet.length = dry.length) && decide (wear.length = dry.length) && within loss 0 1000 && rowsOk dry && rowsOk wet && wearOk wear
def smallRows (l : List (List D)) : Prop := l.length < big ∧ ∀ j, j < l.length → (rowAt l j).length < big
def shortOk (dry wet wear : List (List D)) : Bool :=
  decide (dry.length ≤ 10) && decide (wet.length ≤ 10) && decide (wear.length ≤ 10) && allFrom (fun j => decide ((rowAt dry j).length ≤ 12)) 0 dry.length && allFrom (fun j => decide ((rowAt wet j).length ≤ 12)) 0 wet.length

/-! ### Grips -/
def interp (a b : List D) (d : Int) : Int := ix a 1 + ((ix b 1 - ix a 1) * (d - ix a 0)).tdiv (ix b 0 - ix a 0)
def freshFrom (l : List (List D)) (d : Int) : Nat → Nat → Int
  | _, 0 => ix (l.getD (l.length - 1) []) 1
  | i, k + 1 => if d ≤ ix (l.getD i []) 0 then interp (l.getD (i - 1) []) (l.getD i []) d else freshFrom l d (i + 1) k
def freshV (l : List (List D)) (d : Int) : Int := if d ≤ ix (l.getD 0 []) 0 then ix (l.getD 0 []) 1 else freshFrom l d 1 (l.length - 1)
def gripV (g loss wear : Int) : Int := g - (g * loss * wear).tdiv 1000000000
def rowFor (dry wet : List (List D)) (surface : Int) (w : Bool) : List (List D) := rowAt (if w then wet else dry) surface.toNat
def gripC (dry wet : List (List D)) (loss surface degrees : Int) (w : Bool) (wear : Int) : Int := gripV (freshV (rowFor dry wet surface w) degrees) loss wear
def surfOk (dry wet : List (List D)) (surface : Int) (w : Bool) : Prop := 0 ≤ surface ∧ surface < dry.length ∧ surface < wet.length ∧ rowOk (rowFor dry wet surface w) = true

/-! ### The functions -/
def G47 (ds : List D) : T (List D) := match ds with
  | [a, b, c] => .leaf [.b (within a.I b.I c.I)]
  | _ => .fail
def G50 (ds : List D) : T (List D) := match ds with
  | [a, b, c] => .leaf [.b (within a.I b.I c.I)]
  | _ => .fail
def G75 (ds : List D) : T (List D) := match ds with
  | [l] => .need (yes (l.L.length < big)) (.leaf [.b (rowOk l.L)])
  | _ => .fail
def G75_2 (ds : List D) : T (Ex × List D) := match ds with
  | [l0, l, n, i] => .need (yes (l0.L = l.L ∧ n.I = l.L.length ∧ 0 ≤ i.I ∧ i.I ≤ n.I ∧ l.L.length < big))
      (.ite (allFrom (knotAt l.L) i.I.toNat (l.L.length - i.I.toNat)) (.leaf (.exit 0, [.l l0.L])) (.leaf (.ret, [.b false])))
  | _ => .fail
def G74 (ds : List D) : T (List D) := match ds with
  | [l] => .need (yes (l.L.length < big)) (.leaf [.b (!rowOk l.L)])
  | _ => .fail
def G78 (ds : List D) : T (List D) := match ds with
  | [a] => .leaf [.b (!within a.I 0 1000)]
  | _ => .fail
def G98 (ds : List D) : T (List D) := match ds with
  | [l] => .need (yes (smallRows l.L)) (.leaf [.i (firstFrom (fun j => !rowOk (rowAt l.L j)) 0 l.L.length)])
  | _ => .fail
def G98_2 (ds : List D) : T (Ex × List D) := match ds with
  | [l, n, i] => .need (yes (smallRows l.L ∧ n.I = l.L.length ∧ 0 ≤ i.I ∧ i.I ≤ n.I))
      (.ite (decide (firstFrom (fun j => !rowOk (rowAt l.L j)) i.I.toNat (l.L.length - i.I.toNat) ≥ 0)) (.leaf (.ret, [.i (firstFrom (fun j => !rowOk (rowAt l.L j)) i.I.toNat (l.L.length - i.I.toNat))])) (.leaf (.exit 0, [])))
  | _ => .fail
def G99 (ds : List D) : T (List D) := match ds with
  | [l] => .need (yes (l.L.length < big)) (.leaf [.i (firstFrom (fun j => !within (ix (l.L.getD j []) 0) 0 1000) 0 l.L.length)])
  | _ => .fail
def G99_2 (ds : List D) : T (Ex × List D) := match ds with
  | [l, n, i] => .need (yes (l.L.length < big ∧ n.I = l.L.length ∧ 0 ≤ i.I ∧ i.I ≤ n.I))
      (.ite (decide (firstFrom (fun j => !within (ix (l.L.getD j []) 0) 0 1000) i.I.toNat (l.L.length - i.I.toNat) ≥ 0)) (.leaf (.ret, [.i (firstFrom (fun j => !within (ix (l.L.getD j []) 0) 0 1000) i.I.toNat (l.L.length - i.I.toNat))])) (.leaf (.exit 0, [])))
  | _ => .fail
def G76 (ds : List D) : T (List D) := match ds with
  | [l] => .need (yes (smallRows l.L)) (.leaf [.b (!rowsOk l.L)])
  | _ => .fail
def G77 (ds : List D) : T (List D) := match ds with
  | [l] => .need (yes (l.L.length < big)) (.leaf [.b (!wearOk l.L)])
  | _ => .fail
def G46 (ds : List D) : T (List D) := match ds with
  | [a, b, c, d] => .need (yes (smallRows a.L ∧ smallRows b.L ∧ c.L.length < big)) (.leaf [.b (compoundOk a.L b.L c.L d.I)])
  | _ => .fail
def G79 (ds : List D) : T (List D) := match ds with
  | [a, b, _, _, e, f, g] => .need (yes (surfOk a.L b.L e.I g.B ∧ -40 ≤ f.I ∧ f.I ≤ 80)) (.leaf [.i (freshV (rowFor a.L b.L e.I g.B) f.I)])
  | _ => .fail
def G79_7 (ds : List D) : T (Ex × List D) := match ds with
  | [a, b, c] => .need (yes (rowOk b.L = true ∧ -40 ≤ a.I ∧ a.I ≤ 80 ∧ 1 ≤ c.I ∧ c.I ≤ b.L.length))
      (.ite (allFrom (fun j => !decide (a.I ≤ ix (b.L.getD j []) 0)) c.I.toNat (b.L.length - c.I.toNat)) (.leaf (.exit 0, [.l b.L])) (.leaf (.ret, [.i (freshFrom b.L a.I c.I.toNat (b.L.length - c.I.toNat))])))
  | _ => .fail
def G48 (ds : List D) : T (List D) := match ds with
  | [a, b, _, d, e, f, g, h] => .need (yes (surfOk a.L b.L e.I g.B ∧ -40 ≤ f.I ∧ f.I ≤ 80 ∧ 0 ≤ d.I ∧ d.I ≤ 1000 ∧ 0 ≤ h.I ∧ h.I ≤ 1000000)) (.leaf [.i (gripC a.L b.L d.I e.I f.I g.B h.I)])
  | _ => .fail
def G17 (ds : List D) : T (List D) := match ds with
  | [a, b, c, d, e, f, g, h] => .need (yes (smallRows a.L ∧ smallRows b.L ∧ c.L.length < big))
      (.ite (compoundOk a.L b.L c.L d.I && within e.I 0 (a.L.length - 1) && within f.I (-40) 80 && within h.I 0 1000000) (.leaf [.i (gripC a.L b.L d.I e.I f.I g.B h.I), .i 0]) (.leaf [.i 0, .i 2]))
  | _ => .fail
def G49 (ds : List D) : T (List D) := match ds with
  | [a, b] => .need (yes (a.L.length < big)) (.leaf [.b (decide (a.L.length = b.I) && rowsOk a.L)])
  | _ => .fail
def G49_4 (ds : List D) : T (Ex × List D) := match ds with
  | [a, b, c] => .need (yes (a.L.length < big ∧ b.I = a.L.length ∧ 0 ≤ c.I ∧ c.I ≤ b.I))
      (.ite (allFrom (fun j => rowOk (rowAt a.L j)) c.I.toNat (a.L.length - c.I.toNat)) (.leaf (.exit 0, [])) (.leaf (.ret, [.b false])))
  | _ => .fail
def G49_9 (ds : List D) : T (Ex × List D) := match ds with
  | [a, b, c, d] => .need (yes (a.L.length < big ∧ 0 ≤ c.I ∧ c.I < a.L.length ∧ (rowAt a.L c.I.toNat).length ≤ 10 ∧ 0 ≤ d.I ∧ d.I ≤ (rowAt a.L c.I.toNat).length))
      (.ite (allFrom (knotAt (rowAt a.L c.I.toNat)) d.I.toNat ((rowAt a.L c.I.toNat).length - d.I.toNat)) (.leaf (.exit 2, [.l a.L, .i b.I, .i c.I])) (.leaf (.ret, [.b false])))
  | _ => .fail
def G18 (ds : List D) : T (List D) := match ds with
  | [a, b, c, d] => .need (yes (a.L.length < big ∧ b.L.length < big ∧ c.L.length < big)) (.leaf [.b (compoundOk a.L b.L c.L d.I)])
  | _ => .fail
def G18_5 (ds : List D) : T (Ex × List D) := match ds with
  | [n, i, _, _, c, _] => .need (yes (c.L.length < big ∧ n.I = c.L.length ∧ 0 ≤ i.I ∧ i.I ≤ n.I))
      (.ite (allFrom (fun j => within (ix (c.L.getD j []) 0) 0 1000) i.I.toNat (c.L.length - i.I.toNat)) (.leaf (.exit 0, [])) (.leaf (.ret, [.b false])))
  | _ => .fail
def G51 (ds : List D) : T (List D) := match ds with
  | [l, d] => .need (yes (rowOk l.L = true ∧ -40 ≤ d.I ∧ d.I ≤ 80)) (.leaf [.i (freshV l.L d.I)])
  | _ => .fail
def G51_4 (ds : List D) : T (Ex × List D) := match ds with
  | [b, a, c] => .need (yes (rowOk b.L = true ∧ -40 ≤ a.I ∧ a.I ≤ 80 ∧ 1 ≤ c.I ∧ c.I ≤ b.L.length))
      (.ite (allFrom (fun j => !decide (a.I ≤ ix (b.L.getD j []) 0)) c.I.toNat (b.L.length - c.I.toNat)) (.leaf (.exit 0, [.l b.L])) (.leaf (.ret, [.i (freshFrom b.L a.I c.I.toNat (b.L.length - c.I.toNat))])))
  | _ => .fail
def G19 (ds : List D) : T (List D) := match ds with
  | [a, b, _, d, e, f, g, h] => .need (yes (surfOk a.L b.L e.I g.B ∧ -40 ≤ f.I ∧ f.I ≤ 80 ∧ 0 ≤ d.I ∧ d.I ≤ 1000 ∧ 0 ≤ h.I ∧ h.I ≤ 1000000)) (.leaf [.i (gripC a.L b.L d.I e.I f.I g.B h.I)])
  | _ => .fail
def G15 (ds : List D) : T (List D) := match ds with
  | [a, b, c, _] => .leaf [.b (shortOk a.L b.L c.L)]
  | _ => .fail
def G15_4 (ds : List D) : T (Ex × List D) := match ds with
  | [i, a, b, c, d] => .need (yes (a.L.length ≤ 10 ∧ 0 ≤ i.I ∧ i.I ≤ a.L.length))
      (.ite (allFrom (fun j => decide ((rowAt a.L j).length ≤ 12)) i.I.toNat (a.L.length - i.I.toNat)) (.leaf (.exit 0, [.l a.L, .l b.L, .l c.L, .i d.I])) (.leaf (.ret, [.b false])))
  | _ => .fail
def G15_9 (ds : List D) : T (Ex × List D) := match ds with
  | [i, _, b, _, _] => .need (yes (b.L.length ≤ 10 ∧ 0 ≤ i.I ∧ i.I ≤ b.L.length))
      (.ite (allFrom (fun j => decide ((rowAt b.L j).length ≤ 12)) i.I.toNat (b.L.length - i.I.toNat)) (.leaf (.exit 2, [])) (.leaf (.ret, [.b false])))
  | _ => .fail
end
end Go.Proofs.Ytlofnkkokcihnaa
