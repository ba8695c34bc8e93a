/-
  Shapes of arguments, results and loops. Written by program.
  Shapes of arguments, results and loops. Written by program.
  What the functions of grips compute.
  What the functions of losses compute.
  Tables. Written by program.
  Tables. Written by program.
  What the rounds and the functions come to. Written by program.
  What the rounds and the functions come to. Written by program.
  The functions of grips compute what their words say.
  The functions of grips compute what their words say, continued.
  The reference functions of grips compute what their words say.
-/
import Derived.Test.YtgoedfonmocafaaCfg
import Derived.Test.YtgoedfonmocafaaSym
import Derived.Test.YtgoedfonmocafaaSymGo
namespace Go.Proofs.Ytgoedfonmocafaa
open Go.Lite
def s64 : Sig := ⟨[.k (.int .i64), .k (.int .i64), .k (.int .i64)], [(.k .bool, [])]⟩
def s46 : Sig := ⟨[.k (.int .i64), .k (.int .i64), .k (.int .i64)], [(.k .bool, [])]⟩
def s100 : Sig := ⟨[.k (.ro [.int .i64, .int .i64])], [(.k .bool, [])]⟩
def l100_2 : LSig := mkLS [0, 5, 6, 7] [(41, [(0, .k (.ro [.int .i64, .int .i64])), (5, .k (.ro [.int .i64, .int .i64])), (6, .k (.int .i64)), (7, .k (.int .i64))], [])] [(.ret, [2], [(41, [(2, .k .bool)], [])]), (.exit 0, [0], [(41, [(0, .k (.ro [.int .i64, .int .i64]))], [])])]
def s99 : Sig := ⟨[.k (.ro [.int .i64, .int .i64])], [(.k .bool, [])]⟩
def s103 : Sig := ⟨[.k (.int .i64)], [(.k .bool, [])]⟩
def s129 : Sig := ⟨[.k (.ro [.ro [.int .i64, .int .i64]]), .fn 99 [] []], [(.k (.int .i64), [])]⟩
def l129_2 : LSig := mkLS [0, 1, 7, 8] [(19, [(0, .k (.ro [.ro [.int .i64, .int .i64]])), (1, .fn 99 [] []), (7, .k (.int .i64)), (8, .k (.int .i64))], [])] [(.ret, [4], [(19, [(4, .k (.int .i64))], [])]), (.exit 0, [], [(19, [], [])])]
def s130 : Sig := ⟨[.k (.ro [.int .i64]), .fn 103 [] []], [(.k (.int .i64), [])]⟩
def l130_2 : LSig := mkLS [0, 1, 7, 8] [(19, [(0, .k (.ro [.int .i64])), (1, .fn 103 [] []), (7, .k (.int .i64)), (8, .k (.int .i64))], [])] [(.ret, [4], [(19, [(4, .k (.int .i64))], [])]), (.exit 0, [], [(19, [], [])])]
def s101 : Sig := ⟨[.k (.ro [.ro [.int .i64, .int .i64]]), .fn 99 [] []], [(.k .bool, [])]⟩
def s102 : Sig := ⟨[.k (.ro [.int .i64]), .fn 103 [] []], [(.k .bool, [])]⟩
def s62 : Sig := ⟨[.agg [.k (.ro [.ro [.int .i64, .int .i64]]), .k (.ro [.ro [.int .i64, .int .i64]]), .k (.ro [.int .i64]), .k (.int .i64)]], [(.k .bool, [])]⟩
def s128 : Sig := ⟨[.agg [.k (.ro [.ro [.int .i64, .int .i64]]), .k (.ro [.ro [.int .i64, .int .i64]]), .k (.ro [.int .i64]), .k (.int .i64)], .k (.int .i64), .k (.int .i64), .k .bool], [(.k (.int .i64), [])]⟩
def l128_7 : LSig := mkLS [2, 9, 10] [(79, [(2, .k (.int .i64)), (9, .k (.ro [.int .i64, .int .i64])), (10, .k (.int .i64))], [])] [(.ret, [8], [(79, [(8, .k (.int .i64))], [])]), (.exit 0, [9], [(79, [(9, .k (.ro [.int .i64, .int .i64]))], [])])]
def s96 : Sig := ⟨[.agg [.k (.ro [.ro [.int .i64, .int .i64]]), .k (.ro [.ro [.int .i64, .int .i64]]), .k (.ro [.int .i64]), .k (.int .i64)], .k (.int .i64), .k (.int .i64), .k .bool, .k (.int .i64)], [(.k (.int .i64), [])]⟩
def s50 : Sig := ⟨[.agg [.k (.ro [.ro [.int .i64, .int .i64]]), .k (.ro [.ro [.int .i64, .int .i64]]), .k (.ro [.int .i64]), .k (.int .i64)], .k (.int .i64), .k (.int .i64), .k .bool, .k (.int .i64)], [(.tup [.k (.int .i64), .k (.int .i64)], [])]⟩
def s49 : Sig := ⟨[.k (.ro [.ro [.int .i64, .int .i64]]), .k (.int .i64)], [(.k .bool, [])]⟩
def l49_4 : LSig := mkLS [0, 1, 5] [(75, [(0, .k (.ro [.ro [.int .i64, .int .i64]])), (1, .k (.int .i64)), (5, .k (.int .i64))], [])] [(.ret, [4], [(75, [(4, .k .bool)], [])]), (.exit 0, [], [(75, [], [])])]
def l49_9 : LSig := mkLS [0, 1, 5, 6] [(75, [(0, .k (.ro [.ro [.int .i64, .int .i64]])), (1, .k (.int .i64)), (5, .k (.int .i64)), (6, .k (.int .i64))], [])] [(.ret, [4], [(75, [(4, .k .bool)], [])]), (.exit 2, [0, 1, 5], [(75, [(0, .k (.ro [.ro [.int .i64, .int .i64]])), (1, .k (.int .i64)), (5, .k (.int .i64))], [])])]
def s16 : Sig := ⟨[.agg [.k (.ro [.ro [.int .i64, .int .i64]]), .k (.ro [.ro [.int .i64, .int .i64]]), .k (.ro [.int .i64]), .k (.int .i64)]], [(.k .bool, [])]⟩
def l16_5 : LSig := mkLS [1, 3, 4] [(53, [(1, .ptr 0 4 0 0), (3, .k (.int .i64)), (4, .k (.int .i64))], [.box [.k (.ro [.ro [.int .i64, .int .i64]]), .k (.ro [.ro [.int .i64, .int .i64]]), .k (.ro [.int .i64]), .k (.int .i64)]])] [(.ret, [2], [(53, [(2, .k .bool)], [])]), (.exit 0, [], [(53, [], [])])]
end Go.Proofs.Ytgoedfonmocafaa

namespace Go.Proofs.Ytgoedfonmocafaa
open Go.Lite
def s105 : Sig := ⟨[.agg [.k (.int .i64), .k (.int .i64), .k (.int .i64), .k .bool], .eptr [.k (.int .i64)]], [(.k .bool, [])]⟩
def s131 : Sig := ⟨[.k (.ro [.int .i64, .int .i64, .int .i64, .bool]), .fn 105 [] [.eptr [.k (.int .i64)]]], [(.k (.int .i64), [])]⟩
def l131_2 : LSig := mkLS [0, 1, 7, 8] [(19, [(0, .k (.ro [.int .i64, .int .i64, .int .i64, .bool])), (1, .fn 105 [] [.eptr [.k (.int .i64)]]), (7, .k (.int .i64)), (8, .k (.int .i64))], [])] [(.ret, [4], [(19, [(4, .k (.int .i64))], [])]), (.exit 0, [], [(19, [], [])])]
def s104 : Sig := ⟨[.k (.ro [.int .i64, .int .i64, .int .i64, .bool]), .fn 105 [] [.eptr [.k (.int .i64)]]], [(.k .bool, [])]⟩
def s63 : Sig := ⟨[.k (.ro [.int .i64, .int .i64, .int .i64, .bool]), .k (.int .i64)], [(.k .bool, [])]⟩
def s65 : Sig := ⟨[.agg [.k (.ro [.ro [.int .i64, .int .i64]]), .k (.ro [.ro [.int .i64, .int .i64]]), .k (.ro [.int .i64]), .k (.int .i64)], .k (.ro [.int .i64, .int .i64, .int .i64, .bool]), .k (.int .i64)], [(.tup [.k (.int .i64), .k (.int .i64), .k .bool], [])]⟩
def l65_3 : LSig := mkLS [2, 3, 9, 10, 13, 14, 15] [(52, [(2, .k (.int .i64)), (3, .ptr 0 4 0 0), (9, .k (.int .i64)), (10, .k .bool), (13, .k (.ro [.int .i64, .int .i64, .int .i64, .bool])), (14, .k (.int .i64)), (15, .k (.int .i64))], [.box [.k (.ro [.ro [.int .i64, .int .i64]]), .k (.ro [.ro [.int .i64, .int .i64]]), .k (.ro [.int .i64]), .k (.int .i64)]])] [(.exit 0, [2, 9, 10], [(52, [(2, .k (.int .i64)), (9, .k (.int .i64)), (10, .k .bool)], [])])]
def s21 : Sig := ⟨[.agg [.k (.ro [.ro [.int .i64, .int .i64]]), .k (.ro [.ro [.int .i64, .int .i64]]), .k (.ro [.int .i64]), .k (.int .i64)], .k (.ro [.int .i64, .int .i64, .int .i64, .bool]), .k (.int .i64)], [(.tup [.k (.int .i64), .k (.int .i64), .k (.int .i64)], [])]⟩
def s23 : Sig := ⟨[.agg [.k (.ro [.ro [.int .i64, .int .i64]]), .k (.ro [.ro [.int .i64, .int .i64]]), .k (.ro [.int .i64]), .k (.int .i64)], .k (.ro [.int .i64, .int .i64, .int .i64, .bool]), .k (.int .i64)], [(.tup [.k .bool, .k (.int .i64)], [])]⟩
end Go.Proofs.Ytgoedfonmocafaa

namespace Go.Proofs.Ytgoedfonmocafaa
open Go.Lite
noncomputable section

/-! ### Rows and compounds -/
def knotAt (l : List (List D)) (j : Nat) : Bool :=
  within (ix (l.getD j []) 0) (-40) 80 && within (ix (l.getD j []) 1) 0 1000 && (decide (j = 0) || decide (ix (l.getD (j - 1) []) 0 < ix (l.getD j []) 0))
def rowOk (l : List (List D)) : Bool := allFrom (knotAt l) 0 l.length && within l.length 1 10
def rowAt (l : List (List D)) (j : Nat) : List (List D) := lx (l.getD j []) 0
def rowsOk (l : List (List D)) : Bool := allFrom (fun j => rowOk (rowAt l j)) 0 l.length
def wearOk (l : List (List D)) : Bool := allFrom (fun j => within (ix (l.getD j []) 0) 0 1000) 0 l.length
def compoundOk (dry wet wear : List (List D)) (loss : Int) : Bool :=
  within dry.length 1 8 && decide (wet.length = dry.length) && decide (wear.length = dry.length) && within loss 0 1000 && rowsOk dry && rowsOk wet && wearOk wear
def smallRows (l : List (List D)) : Prop := l.length < big ∧ ∀ j, j < l.length → (rowAt l j).length < big
def shortOk (dry wet wear : List (List D)) : Bool :=
  decide (dry.length ≤ 10) && decide (wet.length ≤ 10) && decide (wear.length ≤ 10) && allFrom (fun j => decide ((rowAt dry j).length ≤ 12)) 0 dry.length && allFrom (fun j => decide ((rowAt wet j).length ≤ 12)) 0 wet.length

/-! ### Grips -/
def interp (a b : List D) (d : Int) : Int := ix a 1 + ((ix b 1 - ix a 1) * (d - ix a 0)).tdiv (ix b 0 - ix a 0)
def freshFrom (l : List (List D)) (d : Int) : Nat → Nat → Int
  | _, 0 => ix (l.getD (l.length - 1) []) 1
  | i, k + 1 => if d ≤ ix (l.getD i []) 0 then interp (l.getD (i - 1) []) (l.getD i []) d else freshFrom l d (i + 1) k
def freshV (l : List (List D)) (d : Int) : Int := if d ≤ ix (l.getD 0 []) 0 then ix (l.getD 0 []) 1 else freshFrom l d 1 (l.length - 1)
def gripV (g loss wear : Int) : Int := g - (g * loss * wear).tdiv 1000000000
def rowFor (dry wet : List (List D)) (surface : Int) (w : Bool) : List (List D) := rowAt (if w then wet else dry) surface.toNat
def gripC (dry wet : List (List D)) (loss surface degrees : Int) (w : Bool) (wear : Int) : Int := gripV (freshV (rowFor dry wet surface w) degrees) loss wear
def surfOk (dry wet : List (List D)) (surface : Int) (w : Bool) : Prop := 0 ≤ surface ∧ surface < dry.length ∧ surface < wet.length ∧ rowOk (rowFor dry wet surface w) = true

/-! ### The functions -/
def G64 (ds : List D) : T (List D) := match ds with
  | [a, b, c] => .leaf [.b (within a.I b.I c.I)]
  | _ => .fail
def G46 (ds : List D) : T (List D) := match ds with
  | [a, b, c] => .leaf [.b (within a.I b.I c.I)]
  | _ => .fail
def G100 (ds : List D) : T (List D) := match ds with
  | [l] => .need (yes (l.L.length < big)) (.leaf [.b (rowOk l.L)])
  | _ => .fail
def G100_2 (ds : List D) : T (Ex × List D) := match ds with
  | [l0, l, n, i] => .need (yes (l0.L = l.L ∧ n.I = l.L.length ∧ 0 ≤ i.I ∧ i.I ≤ n.I ∧ l.L.length < big))
      (.ite (allFrom (knotAt l.L) i.I.toNat (l.L.length - i.I.toNat)) (.leaf (.exit 0, [.l l0.L])) (.leaf (.ret, [.b false])))
  | _ => .fail
def G99 (ds : List D) : T (List D) := match ds with
  | [l] => .need (yes (l.L.length < big)) (.leaf [.b (!rowOk l.L)])
  | _ => .fail
def G103 (ds : List D) : T (List D) := match ds with
  | [a] => .leaf [.b (!within a.I 0 1000)]
  | _ => .fail
def G129 (ds : List D) : T (List D) := match ds with
  | [l] => .need (yes (smallRows l.L)) (.leaf [.i (firstFrom (fun j => !rowOk (rowAt l.L j)) 0 l.L.length)])
  | _ => .fail
def G129_2 (ds : List D) : T (Ex × List D) := match ds with
  | [l, n, i] => .need (yes (smallRows l.L ∧ n.I = l.L.length ∧ 0 ≤ i.I ∧ i.I ≤ n.I))
      (.ite (decide (firstFrom (fun j => !rowOk (rowAt l.L j)) i.I.toNat (l.L.length - i.I.toNat) ≥ 0)) (.leaf (.ret, [.i (firstFrom (fun j => !rowOk (rowAt l.L j)) i.I.toNat (l.L.length - i.I.toNat))])) (.leaf (.exit 0, [])))
  | _ => .fail
def G130 (ds : List D) : T (List D) := match ds with
  | [l] => .need (yes (l.L.length < big)) (.leaf [.i (firstFrom (fun j => !within (ix (l.L.getD j []) 0) 0 1000) 0 l.L.length)])
  | _ => .fail
def G130_2 (ds : List D) : T (Ex × List D) := match ds with
  | [l, n, i] => .need (yes (l.L.length < big ∧ n.I = l.L.length ∧ 0 ≤ i.I ∧ i.I ≤ n.I))
      (.ite (decide (firstFrom (fun j => !within (ix (l.L.getD j []) 0) 0 1000) i.I.toNat (l.L.length - i.I.toNat) ≥ 0)) (.leaf (.ret, [.i (firstFrom (fun j => !within (ix (l.L.getD j []) 0) 0 1000) i.I.toNat (l.L.length - i.I.toNat))])) (.leaf (.exit 0, [])))
  | _ => .fail
def G101 (ds : List D) : T (List D) := match ds with
  | [l] => .need (yes (smallRows l.L)) (.leaf [.b (!rowsOk l.L)])
  | _ => .fail
def G102 (ds : List D) : T (List D) := match ds with
  | [l] => .need (yes (l.L.length < big)) (.leaf [.b (!wearOk l.L)])
  | _ => .fail
def G62 (ds : List D) : T (List D) := match ds with
  | [a, b, c, d] => .need (yes (smallRows a.L ∧ smallRows b.L ∧ c.L.length < big)) (.leaf [.b (compoundOk a.L b.L c.L d.I)])
  | _ => .fail
def G128 (ds : List D) : T (List D) := match ds with
  | [a, b, _, _, e, f, g] => .need (yes (surfOk a.L b.L e.I g.B ∧ -40 ≤ f.I ∧ f.I ≤ 80)) (.leaf [.i (freshV (rowFor a.L b.L e.I g.B) f.I)])
  | _ => .fail
def G128_7 (ds : List D) : T (Ex × List D) := match ds with
  | [a, b, c] => .need (yes (rowOk b.L = true ∧ -40 ≤ a.I ∧ a.I ≤ 80 ∧ 1 ≤ c.I ∧ c.I ≤ b.L.length))
      (.ite (allFrom (fun j => !decide (a.I ≤ ix (b.L.getD j []) 0)) c.I.toNat (b.L.length - c.I.toNat)) (.leaf (.exit 0, [.l b.L])) (.leaf (.ret, [.i (freshFrom b.L a.I c.I.toNat (b.L.length - c.I.toNat))])))
  | _ => .fail
def G96 (ds : List D) : T (List D) := match ds with
  | [a, b, _, d, e, f, g, h] => .need (yes (surfOk a.L b.L e.I g.B ∧ -40 ≤ f.I ∧ f.I ≤ 80 ∧ 0 ≤ d.I ∧ d.I ≤ 1000 ∧ 0 ≤ h.I ∧ h.I ≤ 1000000)) (.leaf [.i (gripC a.L b.L d.I e.I f.I g.B h.I)])
  | _ => .fail
def G50 (ds : List D) : T (List D) := match ds with
  | [a, b, c, d, e, f, g, h] => .need (yes (smallRows a.L ∧ smallRows b.L ∧ c.L.length < big))
      (.ite (compoundOk a.L b.L c.L d.I && within e.I 0 (a.L.length - 1) && within f.I (-40) 80 && within h.I 0 1000000) (.leaf [.i (gripC a.L b.L d.I e.I f.I g.B h.I), .i 0]) (.leaf [.i 0, .i 2]))
  | _ => .fail
def G49 (ds : List D) : T (List D) := match ds with
  | [a, b] => .need (yes (a.L.length < big)) (.leaf [.b (decide (a.L.length = b.I) && rowsOk a.L)])
  | _ => .fail
def G49_4 (ds : List D) : T (Ex × List D) := match ds with
  | [a, b, c] => .need (yes (a.L.length < big ∧ b.I = a.L.length ∧ 0 ≤ c.I ∧ c.I ≤ b.I))
      (.ite (allFrom (fun j => rowOk (rowAt a.L j)) c.I.toNat (a.L.length - c.I.toNat)) (.leaf (.exit 0, [])) (.leaf (.ret, [.b false])))
  | _ => .fail
def G49_9 (ds : List D) : T (Ex × List D) := match ds with
  | [a, b, c, d] => .need (yes (a.L.length < big ∧ 0 ≤ c.I ∧ c.I < a.L.length ∧ (rowAt a.L c.I.toNat).length ≤ 10 ∧ 0 ≤ d.I ∧ d.I ≤ (rowAt a.L c.I.toNat).length))
      (.ite (allFrom (knotAt (rowAt a.L c.I.toNat)) d.I.toNat ((rowAt a.L c.I.toNat).length - d.I.toNat)) (.leaf (.exit 2, [.l a.L, .i b.I, .i c.I])) (.leaf (.ret, [.b false])))
  | _ => .fail
def G16 (ds : List D) : T (List D) := match ds with
  | [a, b, c, d] => .need (yes (a.L.length < big ∧ b.L.length < big ∧ c.L.length < big)) (.leaf [.b (compoundOk a.L b.L c.L d.I)])
  | _ => .fail
def G16_5 (ds : List D) : T (Ex × List D) := match ds with
  | [n, i, _, _, c, _] => .need (yes (c.L.length < big ∧ n.I = c.L.length ∧ 0 ≤ i.I ∧ i.I ≤ n.I))
      (.ite (allFrom (fun j => within (ix (c.L.getD j []) 0) 0 1000) i.I.toNat (c.L.length - i.I.toNat)) (.leaf (.exit 0, [])) (.leaf (.ret, [.b false])))
  | _ => .fail
end
end Go.Proofs.Ytgoedfonmocafaa

namespace Go.Proofs.Ytgoedfonmocafaa
open Go.Lite
noncomputable section

/-! ### Loops -/
def stretchP (n a b c : Int) : Bool := within a 0 (n - 1) && within b 0 100000 && within c (-40) 80
def stretchAt (l : List (List D)) (n : Int) (j : Nat) : Bool := stretchP n (ix (l.getD j []) 0) (ix (l.getD j []) 1) (ix (l.getD j []) 2)
def loopOk (l : List (List D)) (n : Int) : Bool := decide (l.length ≤ 30) && allFrom (stretchAt l n) 0 l.length
def stepLoss (dry wet : List (List D)) (loss w : Int) (c : List D) : Int := (ix c 1 * (1000 - gripC dry wet loss (ix c 0) (ix c 2) (bx c 3) w)).tdiv 1000
def stepWear (wl : List (List D)) (w : Int) (c : List D) : Int := w + ix c 1 * ix (wl.getD (ix c 0).toNat []) 0
/-- The loss, the wear at the end, and whether the tyre lasts. -/
def driveFrom (dry wet wl : List (List D)) (loss : Int) (l : List (List D)) : Nat → Nat → Int → Int → Bool → Int × Int × Bool
  | _, 0, w, s, b => (w, s, b)
  | i, k + 1, w, s, b => driveFrom dry wet wl loss l (i + 1) k (if stepWear wl w (l.getD i []) > 1000000 then 1000000 else stepWear wl w (l.getD i [])) (s + stepLoss dry wet loss w (l.getD i [])) (if stepWear wl w (l.getD i []) > 1000000 then false else b)
def useFrom (wl l : List (List D)) : Nat → Nat → Int
  | _, 0 => 0
  | i, k + 1 => ix (l.getD i []) 1 * ix (wl.getD (ix (l.getD i []) 0).toNat []) 0 + useFrom wl l (i + 1) k
def fewN (n : Int) : Prop := 0 ≤ n ∧ n ≤ 1000
def drivePre (dry wet wl : List (List D)) (loss : Int) (l : List (List D)) : Prop := compoundOk dry wet wl loss = true ∧ loopOk l dry.length = true
def drive (dry wet wl : List (List D)) (loss : Int) (l : List (List D)) (w : Int) : Int × Int × Bool := driveFrom dry wet wl loss l 0 l.length w 0 true
def lossOk (dry wet wl : List (List D)) (loss : Int) (l : List (List D)) (w : Int) : Bool := compoundOk dry wet wl loss && loopOk l dry.length && within w 0 1000000

/-! ### The functions -/
def G105 (ds : List D) : T (List D) := match ds with
  | [a, b, c, _, n] => .need (yes (fewN n.I)) (.leaf [.b (!stretchP n.I a.I b.I c.I)])
  | _ => .fail
def G131 (ds : List D) : T (List D) := match ds with
  | [l, n] => .need (yes (l.L.length < big ∧ fewN n.I)) (.leaf [.i (firstFrom (fun j => !stretchAt l.L n.I j) 0 l.L.length)])
  | _ => .fail
def G131_2 (ds : List D) : T (Ex × List D) := match ds with
  | [l, s, n, i] => .need (yes (l.L.length < big ∧ fewN s.I ∧ n.I = l.L.length ∧ 0 ≤ i.I ∧ i.I ≤ n.I))
      (.ite (decide (firstFrom (fun j => !stretchAt l.L s.I j) i.I.toNat (l.L.length - i.I.toNat) ≥ 0)) (.leaf (.ret, [.i (firstFrom (fun j => !stretchAt l.L s.I j) i.I.toNat (l.L.length - i.I.toNat))])) (.leaf (.exit 0, [])))
  | _ => .fail
def G104 (ds : List D) : T (List D) := match ds with
  | [l, n] => .need (yes (l.L.length < big ∧ fewN n.I)) (.leaf [.b (!allFrom (stretchAt l.L n.I) 0 l.L.length)])
  | _ => .fail
def G63 (ds : List D) : T (List D) := match ds with
  | [l, n] => .need (yes (fewN n.I)) (.leaf [.b (loopOk l.L n.I)])
  | _ => .fail
def G65 (ds : List D) : T (List D) := match ds with
  | [a, b, c, d, l, w] => .need (yes (drivePre a.L b.L c.L d.I l.L ∧ 0 ≤ w.I ∧ w.I ≤ 1000000)) (.leaf [.i (drive a.L b.L c.L d.I l.L w.I).2.1, .i (drive a.L b.L c.L d.I l.L w.I).1, .b (drive a.L b.L c.L d.I l.L w.I).2.2])
  | _ => .fail
def G65_3 (ds : List D) : T (Ex × List D) := match ds with
  | [w, s, o, l, n, i, a, b, c, d] => .need (yes (drivePre a.L b.L c.L d.I l.L ∧ 0 ≤ w.I ∧ w.I ≤ 1000000 ∧ n.I = l.L.length ∧ 0 ≤ i.I ∧ i.I ≤ n.I ∧ 0 ≤ s.I ∧ s.I ≤ 100000 * i.I))
      (.leaf (.exit 0, [.i (driveFrom a.L b.L c.L d.I l.L i.I.toNat (l.L.length - i.I.toNat) w.I s.I o.B).1, .i (driveFrom a.L b.L c.L d.I l.L i.I.toNat (l.L.length - i.I.toNat) w.I s.I o.B).2.1, .b (driveFrom a.L b.L c.L d.I l.L i.I.toNat (l.L.length - i.I.toNat) w.I s.I o.B).2.2]))
  | _ => .fail
def G21 (ds : List D) : T (List D) := match ds with
  | [a, b, c, d, l, w] => .need (yes (smallRows a.L ∧ smallRows b.L ∧ c.L.length < big))
      (.ite (lossOk a.L b.L c.L d.I l.L w.I) (.leaf [.i (drive a.L b.L c.L d.I l.L w.I).2.1, .i (drive a.L b.L c.L d.I l.L w.I).1, .i 0]) (.leaf [.i 0, .i 0, .i 2]))
  | _ => .fail
def G23 (ds : List D) : T (List D) := match ds with
  | [a, b, c, d, l, w] => .need (yes (smallRows a.L ∧ smallRows b.L ∧ c.L.length < big))
      (.ite (lossOk a.L b.L c.L d.I l.L w.I) (.leaf [.b (drive a.L b.L c.L d.I l.L w.I).2.2, .i 0]) (.leaf [.b false, .i 2]))
  | _ => .fail
end
end Go.Proofs.Ytgoedfonmocafaa

namespace Go.Proofs.Ytgoedfonmocafaa
open Go.Lite
noncomputable def sp64 : SpL := []
noncomputable def lp64 : LpL := []
noncomputable def sw64 : SwL := []
noncomputable def tab64 : Tab := mkTab sp64 lp64 sw64
noncomputable def sp46 : SpL := []
noncomputable def lp46 : LpL := []
noncomputable def sw46 : SwL := []
noncomputable def tab46 : Tab := mkTab sp46 lp46 sw46
noncomputable def sp100 : SpL := [(64, mkF s64 G64)]
noncomputable def lp100 : LpL := [(2, mkL l100_2 G100_2)]
noncomputable def sw100 : SwL := []
noncomputable def tab100 : Tab := mkTab sp100 lp100 sw100
noncomputable def sp99 : SpL := [(100, mkF s100 G100)]
noncomputable def lp99 : LpL := []
noncomputable def sw99 : SwL := []
noncomputable def tab99 : Tab := mkTab sp99 lp99 sw99
noncomputable def sp103 : SpL := [(64, mkF s64 G64)]
noncomputable def lp103 : LpL := []
noncomputable def sw103 : SwL := []
noncomputable def tab103 : Tab := mkTab sp103 lp103 sw103
noncomputable def sp129 : SpL := [(99, mkF s99 G99)]
noncomputable def lp129 : LpL := [(2, mkL l129_2 G129_2)]
noncomputable def sw129 : SwL := []
noncomputable def tab129 : Tab := mkTab sp129 lp129 sw129
noncomputable def sp130 : SpL := [(103, mkF s103 G103)]
noncomputable def lp130 : LpL := [(2, mkL l130_2 G130_2)]
noncomputable def sw130 : SwL := []
noncomputable def tab130 : Tab := mkTab sp130 lp130 sw130
noncomputable def sp101 : SpL := [(129, mkF s129 G129), (99, mkF s99 G99)]
noncomputable def lp101 : LpL := []
noncomputable def sw101 : SwL := []
noncomputable def tab101 : Tab := mkTab sp101 lp101 sw101
noncomputable def sp102 : SpL := [(130, mkF s130 G130), (103, mkF s103 G103)]
noncomputable def lp102 : LpL := []
noncomputable def sw102 : SwL := []
noncomputable def tab102 : Tab := mkTab sp102 lp102 sw102
noncomputable def sp62 : SpL := [(64, mkF s64 G64), (101, mkF s101 G101), (102, mkF s102 G102)]
noncomputable def lp62 : LpL := []
noncomputable def sw62 : SwL := []
noncomputable def tab62 : Tab := mkTab sp62 lp62 sw62
noncomputable def sp128 : SpL := []
noncomputable def lp128 : LpL := [(7, mkL l128_7 G128_7)]
noncomputable def sw128 : SwL := []
noncomputable def tab128 : Tab := mkTab sp128 lp128 sw128
noncomputable def sp96 : SpL := [(128, mkF s128 G128)]
noncomputable def lp96 : LpL := []
noncomputable def sw96 : SwL := []
noncomputable def tab96 : Tab := mkTab sp96 lp96 sw96
noncomputable def sp50 : SpL := [(62, mkF s62 G62), (64, mkF s64 G64), (96, mkF s96 G96)]
noncomputable def lp50 : LpL := []
noncomputable def sw50 : SwL := []
noncomputable def tab50 : Tab := mkTab sp50 lp50 sw50
noncomputable def sp49 : SpL := [(46, mkF s46 G46)]
noncomputable def lp49 : LpL := [(4, mkL l49_4 G49_4), (9, mkL l49_9 G49_9)]
noncomputable def sw49 : SwL := []
noncomputable def tab49 : Tab := mkTab sp49 lp49 sw49
noncomputable def sp16 : SpL := [(49, mkF s49 G49), (46, mkF s46 G46)]
noncomputable def lp16 : LpL := [(5, mkL l16_5 G16_5)]
noncomputable def sw16 : SwL := []
noncomputable def tab16 : Tab := mkTab sp16 lp16 sw16
end Go.Proofs.Ytgoedfonmocafaa

namespace Go.Proofs.Ytgoedfonmocafaa
open Go.Lite
noncomputable def sp105 : SpL := [(64, mkF s64 G64)]
noncomputable def lp105 : LpL := []
noncomputable def sw105 : SwL := []
noncomputable def tab105 : Tab := mkTab sp105 lp105 sw105
noncomputable def sp131 : SpL := [(105, mkF s105 G105)]
noncomputable def lp131 : LpL := [(2, mkL l131_2 G131_2)]
noncomputable def sw131 : SwL := []
noncomputable def tab131 : Tab := mkTab sp131 lp131 sw131
noncomputable def sp104 : SpL := [(131, mkF s131 G131), (105, mkF s105 G105)]
noncomputable def lp104 : LpL := []
noncomputable def sw104 : SwL := []
noncomputable def tab104 : Tab := mkTab sp104 lp104 sw104
noncomputable def sp63 : SpL := [(104, mkF s104 G104), (105, mkF s105 G105)]
noncomputable def lp63 : LpL := []
noncomputable def sw63 : SwL := []
noncomputable def tab63 : Tab := mkTab sp63 lp63 sw63
noncomputable def sp65 : SpL := [(96, mkF s96 G96)]
noncomputable def lp65 : LpL := [(3, mkL l65_3 G65_3)]
noncomputable def sw65 : SwL := []
noncomputable def tab65 : Tab := mkTab sp65 lp65 sw65
noncomputable def sp21 : SpL := [(62, mkF s62 G62), (63, mkF s63 G63), (64, mkF s64 G64), (65, mkF s65 G65)]
noncomputable def lp21 : LpL := []
noncomputable def sw21 : SwL := []
noncomputable def tab21 : Tab := mkTab sp21 lp21 sw21
noncomputable def sp23 : SpL := [(62, mkF s62 G62), (63, mkF s63 G63), (64, mkF s64 G64), (65, mkF s65 G65)]
noncomputable def lp23 : LpL := []
noncomputable def sw23 : SwL := []
noncomputable def tab23 : Tab := mkTab sp23 lp23 sw23
end Go.Proofs.Ytgoedfonmocafaa

namespace Go.Proofs.Ytgoedfonmocafaa
open Go.Lite
set_option linter.unusedVariables false
set_option maxRecDepth 100000
theorem t64 (a b c : D) : fnT C tab64 64 s64 [a, b, c] =
  T.ite (decide (D.I a ≥ D.I b)) (T.leaf [D.b (decide (D.I a ≤ D.I c))]) (T.leaf [D.b false]) := by kernel_rfl
theorem t46 (a b c : D) : fnT C tab46 46 s46 [a, b, c] =
  T.ite (decide (D.I a ≥ D.I b)) (T.leaf [D.b (decide (D.I a ≤ D.I c))]) (T.leaf [D.b false]) := by kernel_rfl
theorem t100 (a : D) : fnT C tab100 100 s100 [a] =
  T.need (yes (D.L a = D.L a ∧ (↑(List.length (D.L a)) : Int) = (↑(List.length (D.L a)) : Int) ∧ (0 : Int) ≤ (0 : Int) ∧ (0 : Int) ≤ (↑(List.length (D.L a)) : Int) ∧ List.length (D.L a) < big)) (T.ite (allFrom (knotAt (D.L a)) (Int.toNat (0 : Int)) (List.length (D.L a) - Int.toNat (0 : Int))) (T.leaf [D.b (within (↑(List.length (D.L a)) : Int) (1 : Int) (10 : Int))]) (T.leaf [D.b false])) := by kernel_rfl
theorem t100_2 (a b c d : D) : roundT C tab100 100 (loopOf C.P 100 2) l100_2 [a, b, c, d] =
  T.ite (decide (D.I d < D.I c)) (T.need (decide ((0 : Int) ≤ D.I d ∧ D.I d < (↑(List.length (D.L b)) : Int))) (T.ite (!within (D.I (List.getD (List.getD (D.L b) (Int.toNat (D.I d)) []) 0 default)) (-40 : Int) (80 : Int)) (T.leaf (Rd.out Ex.ret [D.b false])) (T.ite (!within (D.I (List.getD (List.getD (D.L b) (Int.toNat (D.I d)) []) (0 + 1) default)) (0 : Int) (1000 : Int)) (T.leaf (Rd.out Ex.ret [D.b false])) (T.ite (decide (D.I d > (0 : Int))) (T.need (decide ((0 : Int) ≤ IntKind.wrap IntKind.i64 (D.I d - (1 : Int)) ∧ IntKind.wrap IntKind.i64 (D.I d - (1 : Int)) < (↑(List.length (D.L a)) : Int))) (T.ite (decide (D.I (List.getD (List.getD (D.L b) (Int.toNat (D.I d)) []) 0 default) ≤ D.I (List.getD (List.getD (D.L a) (Int.toNat (IntKind.wrap IntKind.i64 (D.I d - (1 : Int)))) []) 0 default))) (T.leaf (Rd.out Ex.ret [D.b false])) (T.leaf (Rd.again [D.l (D.L a), D.l (D.L b), D.i (D.I c), D.i (IntKind.wrap IntKind.i64 (D.I d + (1 : Int)))])))) (T.leaf (Rd.again [D.l (D.L a), D.l (D.L b), D.i (D.I c), D.i (IntKind.wrap IntKind.i64 (D.I d + (1 : Int)))])))))) (T.leaf (Rd.out (Ex.exit 0) [D.l (D.L a)])) := by kernel_rfl
theorem t99 (a : D) : fnT C tab99 99 s99 [a] =
  T.need (yes (List.length (D.L a) < big)) (T.leaf [D.b !rowOk (D.L a)]) := by kernel_rfl
theorem t103 (a : D) : fnT C tab103 103 s103 [a] =
  T.leaf [D.b !within (D.I a) (0 : Int) (1000 : Int)] := by kernel_rfl
theorem t129 (a : D) : fnT C tab129 129 s129 [a] =
  T.need (yes (smallRows (D.L a) ∧ (↑(List.length (D.L a)) : Int) = (↑(List.length (D.L a)) : Int) ∧ (0 : Int) ≤ (0 : Int) ∧ (0 : Int) ≤ (↑(List.length (D.L a)) : Int))) (T.ite (decide (firstFrom (fun j => !rowOk (rowAt (D.L a) j)) (Int.toNat (0 : Int)) (List.length (D.L a) - Int.toNat (0 : Int)) ≥ (0 : Int))) (T.leaf [D.i (firstFrom (fun j => !rowOk (rowAt (D.L a) j)) (Int.toNat (0 : Int)) (List.length (D.L a) - Int.toNat (0 : Int)))]) (T.leaf [D.i (-1 : Int)])) := by kernel_rfl
theorem t129_2 (a b c : D) : roundT C tab129 129 (loopOf C.P 129 2) l129_2 [a, b, c] =
  T.ite (decide (D.I c < D.I b)) (T.need (decide ((0 : Int) ≤ D.I c ∧ D.I c < (↑(List.length (D.L a)) : Int))) (T.need (yes (List.length (D.L (List.getD (List.getD (D.L a) (Int.toNat (D.I c)) []) 0 default)) < big)) (T.ite (!rowOk (D.L (List.getD (List.getD (D.L a) (Int.toNat (D.I c)) []) 0 default))) (T.leaf (Rd.out Ex.ret [D.i (D.I c)])) (T.leaf (Rd.again [D.l (D.L a), D.i (D.I b), D.i (IntKind.wrap IntKind.i64 (D.I c + (1 : Int)))]))))) (T.leaf (Rd.out (Ex.exit 0) [])) := by kernel_rfl
theorem t130 (a : D) : fnT C tab130 130 s130 [a] =
  T.need (yes (List.length (D.L a) < big ∧ (↑(List.length (D.L a)) : Int) = (↑(List.length (D.L a)) : Int) ∧ (0 : Int) ≤ (0 : Int) ∧ (0 : Int) ≤ (↑(List.length (D.L a)) : Int))) (T.ite (decide (firstFrom (fun j => !within (ix (List.getD (D.L a) j []) 0) (0 : Int) (1000 : Int)) (Int.toNat (0 : Int)) (List.length (D.L a) - Int.toNat (0 : Int)) ≥ (0 : Int))) (T.leaf [D.i (firstFrom (fun j => !within (ix (List.getD (D.L a) j []) 0) (0 : Int) (1000 : Int)) (Int.toNat (0 : Int)) (List.length (D.L a) - Int.toNat (0 : Int)))]) (T.leaf [D.i (-1 : Int)])) := by kernel_rfl
theorem t130_2 (a b c : D) : roundT C tab130 130 (loopOf C.P 130 2) l130_2 [a, b, c] =
  T.ite (decide (D.I c < D.I b)) (T.need (decide ((0 : Int) ≤ D.I c ∧ D.I c < (↑(List.length (D.L a)) : Int))) (T.ite (!within (D.I (List.getD (List.getD (D.L a) (Int.toNat (D.I c)) []) 0 default)) (0 : Int) (1000 : Int)) (T.leaf (Rd.out Ex.ret [D.i (D.I c)])) (T.leaf (Rd.again [D.l (D.L a), D.i (D.I b), D.i (IntKind.wrap IntKind.i64 (D.I c + (1 : Int)))])))) (T.leaf (Rd.out (Ex.exit 0) [])) := by kernel_rfl
theorem t101 (a : D) : fnT C tab101 101 s101 [a] =
  T.need (yes (smallRows (D.L a))) (T.leaf [D.b (decide (firstFrom (fun j => !rowOk (rowAt (D.L a) j)) 0 (List.length (D.L a)) ≥ (0 : Int)))]) := by kernel_rfl
theorem t102 (a : D) : fnT C tab102 102 s102 [a] =
  T.need (yes (List.length (D.L a) < big)) (T.leaf [D.b (decide (firstFrom (fun j => !within (ix (List.getD (D.L a) j []) 0) (0 : Int) (1000 : Int)) 0 (List.length (D.L a)) ≥ (0 : Int)))]) := by kernel_rfl
theorem t62 (a b c d : D) : fnT C tab62 62 s62 [a, b, c, d] =
  T.ite (!within (↑(List.length (D.L a)) : Int) (1 : Int) (8 : Int)) (T.leaf [D.b false]) (T.ite ((↑(List.length (D.L b)) : Int) != (↑(List.length (D.L a)) : Int)) (T.leaf [D.b false]) (T.ite ((↑(List.length (D.L c)) : Int) != (↑(List.length (D.L a)) : Int)) (T.leaf [D.b false]) (T.ite (!within (D.I d) (0 : Int) (1000 : Int)) (T.leaf [D.b false]) (T.need (yes (smallRows (D.L a))) (T.ite (!!rowsOk (D.L a)) (T.need (yes (smallRows (D.L b))) (T.ite (!!rowsOk (D.L b)) (T.need (yes (List.length (D.L c) < big)) (T.leaf [D.b !!wearOk (D.L c)])) (T.leaf [D.b false]))) (T.leaf [D.b false])))))) := by kernel_rfl
theorem t128 (a b c d e f g : D) : fnT C tab128 128 s128 [a, b, c, d, e, f, g] =
  T.need (decide ((0 : Int) ≤ D.I e ∧ D.I e < (↑(List.length (D.L a)) : Int))) (T.ite (D.B g) (T.need (decide ((0 : Int) ≤ D.I e ∧ D.I e < (↑(List.length (D.L b)) : Int))) (T.need (decide ((0 : Int) ≤ (0 : Int) ∧ (0 : Int) < (↑(List.length (D.L (List.getD (List.getD (D.L b) (Int.toNat (D.I e)) []) 0 default))) : Int))) (T.ite (decide (D.I f ≤ D.I (List.getD (List.getD (D.L (List.getD (List.getD (D.L b) (Int.toNat (D.I e)) []) 0 default)) (Int.toNat (0 : Int)) []) 0 default))) (T.need (decide ((0 : Int) ≤ (0 : Int) ∧ (0 : Int) < (↑(List.length (D.L (List.getD (List.getD (D.L b) (Int.toNat (D.I e)) []) 0 default))) : Int))) (T.leaf [D.i (D.I (List.getD (List.getD (D.L (List.getD (List.getD (D.L b) (Int.toNat (D.I e)) []) 0 default)) (Int.toNat (0 : Int)) []) (0 + 1) default))])) (T.need (yes (rowOk (D.L (List.getD (List.getD (D.L b) (Int.toNat (D.I e)) []) 0 default)) = true ∧ (-40 : Int) ≤ D.I f ∧ D.I f ≤ (80 : Int) ∧ (1 : Int) ≤ (1 : Int) ∧ (1 : Int) ≤ (↑(List.length (D.L (List.getD (List.getD (D.L b) (Int.toNat (D.I e)) []) 0 default))) : Int))) (T.ite (allFrom (fun j => !decide (D.I f ≤ ix (List.getD (D.L (List.getD (List.getD (D.L b) (Int.toNat (D.I e)) []) 0 default)) j []) 0)) (Int.toNat (1 : Int)) (List.length (D.L (List.getD (List.getD (D.L b) (Int.toNat (D.I e)) []) 0 default)) - Int.toNat (1 : Int))) (T.need (decide ((0 : Int) ≤ IntKind.wrap IntKind.i64 ((↑(List.length (D.L (List.getD (List.getD (D.L b) (Int.toNat (D.I e)) []) 0 default))) : Int) - (1 : Int)) ∧ IntKind.wrap IntKind.i64 ((↑(List.length (D.L (List.getD (List.getD (D.L b) (Int.toNat (D.I e)) []) 0 default))) : Int) - (1 : Int)) < (↑(List.length (D.L (List.getD (List.getD (D.L b) (Int.toNat (D.I e)) []) 0 default))) : Int))) (T.leaf [D.i (D.I (List.getD (List.getD (D.L (List.getD (List.getD (D.L b) (Int.toNat (D.I e)) []) 0 default)) (Int.toNat (IntKind.wrap IntKind.i64 ((↑(List.length (D.L (List.getD (List.getD (D.L b) (Int.toNat (D.I e)) []) 0 default))) : Int) - (1 : Int)))) []) (0 + 1) default))])) (T.leaf [D.i (freshFrom (D.L (List.getD (List.getD (D.L b) (Int.toNat (D.I e)) []) 0 default)) (D.I f) (Int.toNat (1 : Int)) (List.length (D.L (List.getD (List.getD (D.L b) (Int.toNat (D.I e)) []) 0 default)) - Int.toNat (1 : Int)))])))))) (T.need (decide ((0 : Int) ≤ (0 : Int) ∧ (0 : Int) < (↑(List.length (D.L (List.getD (List.getD (D.L a) (Int.toNat (D.I e)) []) 0 default))) : Int))) (T.ite (decide (D.I f ≤ D.I (List.getD (List.getD (D.L (List.getD (List.getD (D.L a) (Int.toNat (D.I e)) []) 0 default)) (Int.toNat (0 : Int)) []) 0 default))) (T.need (decide ((0 : Int) ≤ (0 : Int) ∧ (0 : Int) < (↑(List.length (D.L (List.getD (List.getD (D.L a) (Int.toNat (D.I e)) []) 0 default))) : Int))) (T.leaf [D.i (D.I (List.getD (List.getD (D.L (List.getD (List.getD (D.L a) (Int.toNat (D.I e)) []) 0 default)) (Int.toNat (0 : Int)) []) (0 + 1) default))])) (T.need (yes (rowOk (D.L (List.getD (List.getD (D.L a) (Int.toNat (D.I e)) []) 0 default)) = true ∧ (-40 : Int) ≤ D.I f ∧ D.I f ≤ (80 : Int) ∧ (1 : Int) ≤ (1 : Int) ∧ (1 : Int) ≤ (↑(List.length (D.L (List.getD (List.getD (D.L a) (Int.toNat (D.I e)) []) 0 default))) : Int))) (T.ite (allFrom (fun j => !decide (D.I f ≤ ix (List.getD (D.L (List.getD (List.getD (D.L a) (Int.toNat (D.I e)) []) 0 default)) j []) 0)) (Int.toNat (1 : Int)) (List.length (D.L (List.getD (List.getD (D.L a) (Int.toNat (D.I e)) []) 0 default)) - Int.toNat (1 : Int))) (T.need (decide ((0 : Int) ≤ IntKind.wrap IntKind.i64 ((↑(List.length (D.L (List.getD (List.getD (D.L a) (Int.toNat (D.I e)) []) 0 default))) : Int) - (1 : Int)) ∧ IntKind.wrap IntKind.i64 ((↑(List.length (D.L (List.getD (List.getD (D.L a) (Int.toNat (D.I e)) []) 0 default))) : Int) - (1 : Int)) < (↑(List.length (D.L (List.getD (List.getD (D.L a) (Int.toNat (D.I e)) []) 0 default))) : Int))) (T.leaf [D.i (D.I (List.getD (List.getD (D.L (List.getD (List.getD (D.L a) (Int.toNat (D.I e)) []) 0 default)) (Int.toNat (IntKind.wrap IntKind.i64 ((↑(List.length (D.L (List.getD (List.getD (D.L a) (Int.toNat (D.I e)) []) 0 default))) : Int) - (1 : Int)))) []) (0 + 1) default))])) (T.leaf [D.i (freshFrom (D.L (List.getD (List.getD (D.L a) (Int.toNat (D.I e)) []) 0 default)) (D.I f) (Int.toNat (1 : Int)) (List.length (D.L (List.getD (List.getD (D.L a) (Int.toNat (D.I e)) []) 0 default)) - Int.toNat (1 : Int)))])))))) := by kernel_rfl
theorem t128_7 (a b c : D) : roundT C tab128 128 (loopOf C.P 128 7) l128_7 [a, b, c] =
  T.ite (decide (D.I c < (↑(List.length (D.L b)) : Int))) (T.need (decide ((0 : Int) ≤ IntKind.wrap IntKind.i64 (D.I c - (1 : Int)) ∧ IntKind.wrap IntKind.i64 (D.I c - (1 : Int)) < (↑(List.length (D.L b)) : Int))) (T.need (decide ((0 : Int) ≤ D.I c ∧ D.I c < (↑(List.length (D.L b)) : Int))) (T.ite (decide (D.I a ≤ D.I (List.getD (List.getD (D.L b) (Int.toNat (D.I c)) []) 0 default))) (T.need (!IntKind.wrap IntKind.i64 (D.I (List.getD (List.getD (D.L b) (Int.toNat (D.I c)) []) 0 default) - D.I (List.getD (List.getD (D.L b) (Int.toNat (IntKind.wrap IntKind.i64 (D.I c - (1 : Int)))) []) 0 default)) == (0 : Int)) (T.leaf (Rd.out Ex.ret [D.i (IntKind.wrap IntKind.i64 (D.I (List.getD (List.getD (D.L b) (Int.toNat (IntKind.wrap IntKind.i64 (D.I c - (1 : Int)))) []) (0 + 1) default) + IntKind.wrap IntKind.i64 (Int.tdiv (IntKind.wrap IntKind.i64 (IntKind.wrap IntKind.i64 (D.I (List.getD (List.getD (D.L b) (Int.toNat (D.I c)) []) (0 + 1) default) - D.I (List.getD (List.getD (D.L b) (Int.toNat (IntKind.wrap IntKind.i64 (D.I c - (1 : Int)))) []) (0 + 1) default)) * IntKind.wrap IntKind.i64 (D.I a - D.I (List.getD (List.getD (D.L b) (Int.toNat (IntKind.wrap IntKind.i64 (D.I c - (1 : Int)))) []) 0 default)))) (IntKind.wrap IntKind.i64 (D.I (List.getD (List.getD (D.L b) (Int.toNat (D.I c)) []) 0 default) - D.I (List.getD (List.getD (D.L b) (Int.toNat (IntKind.wrap IntKind.i64 (D.I c - (1 : Int)))) []) 0 default))))))]))) (T.leaf (Rd.again [D.i (D.I a), D.l (D.L b), D.i (IntKind.wrap IntKind.i64 (D.I c + (1 : Int)))]))))) (T.leaf (Rd.out (Ex.exit 0) [D.l (D.L b)])) := by kernel_rfl
theorem t96 (a b c d e f g h : D) : fnT C tab96 96 s96 [a, b, c, d, e, f, g, h] =
  T.need (yes (surfOk (D.L a) (D.L b) (D.I e) (D.B g) ∧ (-40 : Int) ≤ D.I f ∧ D.I f ≤ (80 : Int))) (T.need true (T.leaf [D.i (IntKind.wrap IntKind.i64 (freshV (rowFor (D.L a) (D.L b) (D.I e) (D.B g)) (D.I f) - IntKind.wrap IntKind.i64 (Int.tdiv (IntKind.wrap IntKind.i64 (IntKind.wrap IntKind.i64 (freshV (rowFor (D.L a) (D.L b) (D.I e) (D.B g)) (D.I f) * D.I d) * D.I h)) (1000000000 : Int))))])) := by kernel_rfl
theorem t50 (a b c d e f g h : D) : fnT C tab50 50 s50 [a, b, c, d, e, f, g, h] =
  T.need (yes (smallRows (D.L a) ∧ smallRows (D.L b) ∧ List.length (D.L c) < big)) (T.ite (!compoundOk (D.L a) (D.L b) (D.L c) (D.I d)) (T.leaf [D.i (0 : Int), D.i (2 : Int)]) (T.ite (!within (D.I e) (0 : Int) (IntKind.wrap IntKind.i64 ((↑(List.length (D.L a)) : Int) - (1 : Int)))) (T.leaf [D.i (0 : Int), D.i (2 : Int)]) (T.ite (!within (D.I f) (-40 : Int) (80 : Int)) (T.leaf [D.i (0 : Int), D.i (2 : Int)]) (T.ite (!within (D.I h) (0 : Int) (1000000 : Int)) (T.leaf [D.i (0 : Int), D.i (2 : Int)]) (T.need (yes (surfOk (D.L a) (D.L b) (D.I e) (D.B g) ∧ (-40 : Int) ≤ D.I f ∧ D.I f ≤ (80 : Int) ∧ (0 : Int) ≤ D.I d ∧ D.I d ≤ (1000 : Int) ∧ (0 : Int) ≤ D.I h ∧ D.I h ≤ (1000000 : Int))) (T.leaf [D.i (gripC (D.L a) (D.L b) (D.I d) (D.I e) (D.I f) (D.B g) (D.I h)), D.i (0 : Int)])))))) := by kernel_rfl
theorem t49 (a b : D) : fnT C tab49 49 s49 [a, b] =
  T.ite ((↑(List.length (D.L a)) : Int) != D.I b) (T.leaf [D.b false]) (T.need (yes (List.length (D.L a) < big ∧ D.I b = (↑(List.length (D.L a)) : Int) ∧ (0 : Int) ≤ (0 : Int) ∧ (0 : Int) ≤ D.I b)) (T.ite (allFrom (fun j => rowOk (rowAt (D.L a) j)) (Int.toNat (0 : Int)) (List.length (D.L a) - Int.toNat (0 : Int))) (T.leaf [D.b true]) (T.leaf [D.b false]))) := by kernel_rfl
theorem t49_4 (a b c : D) : roundT C tab49 49 (loopOf C.P 49 4) l49_4 [a, b, c] =
  T.ite (decide (D.I c < D.I b)) (T.need (decide ((0 : Int) ≤ D.I c ∧ D.I c < (↑(List.length (D.L a)) : Int))) (T.ite (decide ((↑(List.length (D.L (List.getD (List.getD (D.L a) (Int.toNat (D.I c)) []) 0 default))) : Int) < (1 : Int))) (T.leaf (Rd.out Ex.ret [D.b false])) (T.need (decide ((0 : Int) ≤ D.I c ∧ D.I c < (↑(List.length (D.L a)) : Int))) (T.ite (decide ((↑(List.length (D.L (List.getD (List.getD (D.L a) (Int.toNat (D.I c)) []) 0 default))) : Int) > (10 : Int))) (T.leaf (Rd.out Ex.ret [D.b false])) (T.need (yes (List.length (D.L a) < big ∧ (0 : Int) ≤ D.I c ∧ D.I c < (↑(List.length (D.L a)) : Int) ∧ List.length (rowAt (D.L a) (Int.toNat (D.I c))) ≤ 10 ∧ (0 : Int) ≤ (0 : Int) ∧ (0 : Int) ≤ (↑(List.length (rowAt (D.L a) (Int.toNat (D.I c)))) : Int))) (T.ite (allFrom (knotAt (rowAt (D.L a) (Int.toNat (D.I c)))) (Int.toNat (0 : Int)) (List.length (rowAt (D.L a) (Int.toNat (D.I c))) - Int.toNat (0 : Int))) (T.leaf (Rd.again [D.l (D.L a), D.i (D.I b), D.i (IntKind.wrap IntKind.i64 (D.I c + (1 : Int)))])) (T.leaf (Rd.out Ex.ret [D.b false])))))))) (T.leaf (Rd.out (Ex.exit 0) [])) := by kernel_rfl
theorem t49_9 (a b c d : D) : roundT C tab49 49 (loopOf C.P 49 9) l49_9 [a, b, c, d] =
  T.need (decide ((0 : Int) ≤ D.I c ∧ D.I c < (↑(List.length (D.L a)) : Int))) (T.ite (decide (D.I d < (↑(List.length (D.L (List.getD (List.getD (D.L a) (Int.toNat (D.I c)) []) 0 default))) : Int))) (T.need (decide ((0 : Int) ≤ D.I c ∧ D.I c < (↑(List.length (D.L a)) : Int))) (T.need (decide ((0 : Int) ≤ D.I d ∧ D.I d < (↑(List.length (D.L (List.getD (List.getD (D.L a) (Int.toNat (D.I c)) []) 0 default))) : Int))) (T.ite (!within (D.I (List.getD (List.getD (D.L (List.getD (List.getD (D.L a) (Int.toNat (D.I c)) []) 0 default)) (Int.toNat (D.I d)) []) 0 default)) (-40 : Int) (80 : Int)) (T.leaf (Rd.out Ex.ret [D.b false])) (T.ite (!within (D.I (List.getD (List.getD (D.L (List.getD (List.getD (D.L a) (Int.toNat (D.I c)) []) 0 default)) (Int.toNat (D.I d)) []) (0 + 1) default)) (0 : Int) (1000 : Int)) (T.leaf (Rd.out Ex.ret [D.b false])) (T.ite (decide (D.I d > (0 : Int))) (T.need (decide ((0 : Int) ≤ D.I c ∧ D.I c < (↑(List.length (D.L a)) : Int))) (T.need (decide ((0 : Int) ≤ IntKind.wrap IntKind.i64 (D.I d - (1 : Int)) ∧ IntKind.wrap IntKind.i64 (D.I d - (1 : Int)) < (↑(List.length (D.L (List.getD (List.getD (D.L a) (Int.toNat (D.I c)) []) 0 default))) : Int))) (T.ite (decide (D.I (List.getD (List.getD (D.L (List.getD (List.getD (D.L a) (Int.toNat (D.I c)) []) 0 default)) (Int.toNat (D.I d)) []) 0 default) ≤ D.I (List.getD (List.getD (D.L (List.getD (List.getD (D.L a) (Int.toNat (D.I c)) []) 0 default)) (Int.toNat (IntKind.wrap IntKind.i64 (D.I d - (1 : Int)))) []) 0 default))) (T.leaf (Rd.out Ex.ret [D.b false])) (T.leaf (Rd.again [D.l (D.L a), D.i (D.I b), D.i (D.I c), D.i (IntKind.wrap IntKind.i64 (D.I d + (1 : Int)))]))))) (T.leaf (Rd.again [D.l (D.L a), D.i (D.I b), D.i (D.I c), D.i (IntKind.wrap IntKind.i64 (D.I d + (1 : Int)))]))))))) (T.leaf (Rd.out (Ex.exit 2) [D.l (D.L a), D.i (D.I b), D.i (D.I c)]))) := by kernel_rfl
theorem t16 (a b c d : D) : fnT C tab16 16 s16 [a, b, c, d] =
  T.ite (decide ((↑(List.length (D.L a)) : Int) < (1 : Int))) (T.leaf [D.b false]) (T.ite (decide ((↑(List.length (D.L a)) : Int) > (8 : Int))) (T.leaf [D.b false]) (T.need (yes (List.length (D.L a) < big)) (T.ite (!(decide ((↑(List.length (D.L a)) : Int) = (↑(List.length (D.L a)) : Int)) && rowsOk (D.L a))) (T.leaf [D.b false]) (T.need (yes (List.length (D.L b) < big)) (T.ite (!(decide ((↑(List.length (D.L b)) : Int) = (↑(List.length (D.L a)) : Int)) && rowsOk (D.L b))) (T.leaf [D.b false]) (T.ite ((↑(List.length (D.L c)) : Int) != (↑(List.length (D.L a)) : Int)) (T.leaf [D.b false]) (T.ite (!within (D.I d) (0 : Int) (1000 : Int)) (T.leaf [D.b false]) (T.need (yes (List.length (D.L c) < big ∧ (↑(List.length (D.L a)) : Int) = (↑(List.length (D.L c)) : Int) ∧ (0 : Int) ≤ (0 : Int) ∧ (0 : Int) ≤ (↑(List.length (D.L a)) : Int))) (T.ite (allFrom (fun j => within (ix (List.getD (D.L c) j []) 0) (0 : Int) (1000 : Int)) (Int.toNat (0 : Int)) (List.length (D.L c) - Int.toNat (0 : Int))) (T.leaf [D.b true]) (T.leaf [D.b false])))))))))) := by kernel_rfl
theorem t16_5 (a b c d e f : D) : roundT C tab16 16 (loopOf C.P 16 5) l16_5 [a, b, c, d, e, f] =
  T.ite (decide (D.I b < D.I a)) (T.need (decide ((0 : Int) ≤ D.I b ∧ D.I b < (↑(List.length (D.L e)) : Int))) (T.ite (!within (D.I (List.getD (List.getD (D.L e) (Int.toNat (D.I b)) []) 0 default)) (0 : Int) (1000 : Int)) (T.leaf (Rd.out Ex.ret [D.b false])) (T.leaf (Rd.again [D.i (D.I a), D.i (IntKind.wrap IntKind.i64 (D.I b + (1 : Int))), D.l (D.L c), D.l (D.L d), D.l (D.L e), D.i (D.I f)])))) (T.leaf (Rd.out (Ex.exit 0) [])) := by kernel_rfl
end Go.Proofs.Ytgoedfonmocafaa

namespace Go.Proofs.Ytgoedfonmocafaa
open Go.Lite
set_option linter.unusedVariables false
set_option maxRecDepth 100000
theorem t105 (a b c d e : D) : fnT C tab105 105 s105 [a, b, c, d, e] =
  T.ite (!within (D.I a) (0 : Int) (IntKind.wrap IntKind.i64 (D.I e - (1 : Int)))) (T.leaf [D.b true]) (T.ite (!within (D.I b) (0 : Int) (100000 : Int)) (T.leaf [D.b true]) (T.leaf [D.b !within (D.I c) (-40 : Int) (80 : Int)])) := by kernel_rfl
theorem t131 (a b : D) : fnT C tab131 131 s131 [a, b] =
  T.need (yes (List.length (D.L a) < big ∧ fewN (D.I b) ∧ (↑(List.length (D.L a)) : Int) = (↑(List.length (D.L a)) : Int) ∧ (0 : Int) ≤ (0 : Int) ∧ (0 : Int) ≤ (↑(List.length (D.L a)) : Int))) (T.ite (decide (firstFrom (fun j => !stretchAt (D.L a) (D.I b) j) (Int.toNat (0 : Int)) (List.length (D.L a) - Int.toNat (0 : Int)) ≥ (0 : Int))) (T.leaf [D.i (firstFrom (fun j => !stretchAt (D.L a) (D.I b) j) (Int.toNat (0 : Int)) (List.length (D.L a) - Int.toNat (0 : Int)))]) (T.leaf [D.i (-1 : Int)])) := by kernel_rfl
theorem t131_2 (a b c d : D) : roundT C tab131 131 (loopOf C.P 131 2) l131_2 [a, b, c, d] =
  T.ite (decide (D.I d < D.I c)) (T.need (decide ((0 : Int) ≤ D.I d ∧ D.I d < (↑(List.length (D.L a)) : Int))) (T.need (yes (fewN (D.I b))) (T.ite (!stretchP (D.I b) (D.I (List.getD (List.getD (D.L a) (Int.toNat (D.I d)) []) 0 default)) (D.I (List.getD (List.getD (D.L a) (Int.toNat (D.I d)) []) (0 + 1) default)) (D.I (List.getD (List.getD (D.L a) (Int.toNat (D.I d)) []) (0 + 1 + 1) default))) (T.leaf (Rd.out Ex.ret [D.i (D.I d)])) (T.leaf (Rd.again [D.l (D.L a), D.i (D.I b), D.i (D.I c), D.i (IntKind.wrap IntKind.i64 (D.I d + (1 : Int)))]))))) (T.leaf (Rd.out (Ex.exit 0) [])) := by kernel_rfl
theorem t104 (a b : D) : fnT C tab104 104 s104 [a, b] =
  T.need (yes (List.length (D.L a) < big ∧ fewN (D.I b))) (T.leaf [D.b (decide (firstFrom (fun j => !stretchAt (D.L a) (D.I b) j) 0 (List.length (D.L a)) ≥ (0 : Int)))]) := by kernel_rfl
theorem t63 (a b : D) : fnT C tab63 63 s63 [a, b] =
  T.ite (decide ((↑(List.length (D.L a)) : Int) ≤ (30 : Int))) (T.need (yes (List.length (D.L a) < big ∧ fewN (D.I b))) (T.leaf [D.b !!allFrom (stretchAt (D.L a) (D.I b)) 0 (List.length (D.L a))])) (T.leaf [D.b false]) := by kernel_rfl
theorem t65 (a b c d e f : D) : fnT C tab65 65 s65 [a, b, c, d, e, f] =
  T.need (yes (drivePre (D.L a) (D.L b) (D.L c) (D.I d) (D.L e) ∧ (0 : Int) ≤ D.I f ∧ D.I f ≤ (1000000 : Int) ∧ (↑(List.length (D.L e)) : Int) = (↑(List.length (D.L e)) : Int) ∧ (0 : Int) ≤ (0 : Int) ∧ (0 : Int) ≤ (↑(List.length (D.L e)) : Int) ∧ (0 : Int) ≤ (0 : Int) ∧ (0 : Int) ≤ (100000 : Int) * (0 : Int))) (T.leaf [D.i (driveFrom (D.L a) (D.L b) (D.L c) (D.I d) (D.L e) (Int.toNat (0 : Int)) (List.length (D.L e) - Int.toNat (0 : Int)) (D.I f) (0 : Int) true).snd.fst, D.i (driveFrom (D.L a) (D.L b) (D.L c) (D.I d) (D.L e) (Int.toNat (0 : Int)) (List.length (D.L e) - Int.toNat (0 : Int)) (D.I f) (0 : Int) true).fst, D.b (driveFrom (D.L a) (D.L b) (D.L c) (D.I d) (D.L e) (Int.toNat (0 : Int)) (List.length (D.L e) - Int.toNat (0 : Int)) (D.I f) (0 : Int) true).snd.snd]) := by kernel_rfl
theorem t65_3 (a b c d e f g h i j : D) : roundT C tab65 65 (loopOf C.P 65 3) l65_3 [a, b, c, d, e, f, g, h, i, j] =
  T.ite (decide (D.I f < D.I e)) (T.need (decide ((0 : Int) ≤ D.I f ∧ D.I f < (↑(List.length (D.L d)) : Int))) (T.need (yes (surfOk (D.L g) (D.L h) (D.I (List.getD (List.getD (D.L d) (Int.toNat (D.I f)) []) 0 default)) (D.B (List.getD (List.getD (D.L d) (Int.toNat (D.I f)) []) (0 + 1 + 1 + 1) default)) ∧ (-40 : Int) ≤ D.I (List.getD (List.getD (D.L d) (Int.toNat (D.I f)) []) (0 + 1 + 1) default) ∧ D.I (List.getD (List.getD (D.L d) (Int.toNat (D.I f)) []) (0 + 1 + 1) default) ≤ (80 : Int) ∧ (0 : Int) ≤ D.I j ∧ D.I j ≤ (1000 : Int) ∧ (0 : Int) ≤ D.I a ∧ D.I a ≤ (1000000 : Int))) (T.need true (T.need (decide ((0 : Int) ≤ D.I (List.getD (List.getD (D.L d) (Int.toNat (D.I f)) []) 0 default) ∧ D.I (List.getD (List.getD (D.L d) (Int.toNat (D.I f)) []) 0 default) < (↑(List.length (D.L i)) : Int))) (T.ite (decide (IntKind.wrap IntKind.i64 (D.I a + IntKind.wrap IntKind.i64 (D.I (List.getD (List.getD (D.L d) (Int.toNat (D.I f)) []) (0 + 1) default) * D.I (List.getD (List.getD (D.L i) (Int.toNat (D.I (List.getD (List.getD (D.L d) (Int.toNat (D.I f)) []) 0 default))) []) 0 default))) > (1000000 : Int))) (T.leaf (Rd.again [D.i (1000000 : Int), D.i (IntKind.wrap IntKind.i64 (D.I b + IntKind.wrap IntKind.i64 (Int.tdiv (IntKind.wrap IntKind.i64 (D.I (List.getD (List.getD (D.L d) (Int.toNat (D.I f)) []) (0 + 1) default) * IntKind.wrap IntKind.i64 ((1000 : Int) - gripC (D.L g) (D.L h) (D.I j) (D.I (List.getD (List.getD (D.L d) (Int.toNat (D.I f)) []) 0 default)) (D.I (List.getD (List.getD (D.L d) (Int.toNat (D.I f)) []) (0 + 1 + 1) default)) (D.B (List.getD (List.getD (D.L d) (Int.toNat (D.I f)) []) (0 + 1 + 1 + 1) default)) (D.I a)))) (1000 : Int)))), D.b false, D.l (D.L d), D.i (D.I e), D.i (IntKind.wrap IntKind.i64 (D.I f + (1 : Int))), D.l (D.L g), D.l (D.L h), D.l (D.L i), D.i (D.I j)])) (T.leaf (Rd.again [D.i (IntKind.wrap IntKind.i64 (D.I a + IntKind.wrap IntKind.i64 (D.I (List.getD (List.getD (D.L d) (Int.toNat (D.I f)) []) (0 + 1) default) * D.I (List.getD (List.getD (D.L i) (Int.toNat (D.I (List.getD (List.getD (D.L d) (Int.toNat (D.I f)) []) 0 default))) []) 0 default)))), D.i (IntKind.wrap IntKind.i64 (D.I b + IntKind.wrap IntKind.i64 (Int.tdiv (IntKind.wrap IntKind.i64 (D.I (List.getD (List.getD (D.L d) (Int.toNat (D.I f)) []) (0 + 1) default) * IntKind.wrap IntKind.i64 ((1000 : Int) - gripC (D.L g) (D.L h) (D.I j) (D.I (List.getD (List.getD (D.L d) (Int.toNat (D.I f)) []) 0 default)) (D.I (List.getD (List.getD (D.L d) (Int.toNat (D.I f)) []) (0 + 1 + 1) default)) (D.B (List.getD (List.getD (D.L d) (Int.toNat (D.I f)) []) (0 + 1 + 1 + 1) default)) (D.I a)))) (1000 : Int)))), D.b (D.B c), D.l (D.L d), D.i (D.I e), D.i (IntKind.wrap IntKind.i64 (D.I f + (1 : Int))), D.l (D.L g), D.l (D.L h), D.l (D.L i), D.i (D.I j)]))))))) (T.leaf (Rd.out (Ex.exit 0) [D.i (D.I a), D.i (D.I b), D.b (D.B c)])) := by kernel_rfl
theorem t21 (a b c d e f : D) : fnT C tab21 21 s21 [a, b, c, d, e, f] =
  T.need (yes (smallRows (D.L a) ∧ smallRows (D.L b) ∧ List.length (D.L c) < big)) (T.ite (!compoundOk (D.L a) (D.L b) (D.L c) (D.I d)) (T.leaf [D.i (0 : Int), D.i (0 : Int), D.i (2 : Int)]) (T.need (yes (fewN (↑(List.length (D.L a)) : Int))) (T.ite (!loopOk (D.L e) (↑(List.length (D.L a)) : Int)) (T.leaf [D.i (0 : Int), D.i (0 : Int), D.i (2 : Int)]) (T.ite (!within (D.I f) (0 : Int) (1000000 : Int)) (T.leaf [D.i (0 : Int), D.i (0 : Int), D.i (2 : Int)]) (T.need (yes (drivePre (D.L a) (D.L b) (D.L c) (D.I d) (D.L e) ∧ (0 : Int) ≤ D.I f ∧ D.I f ≤ (1000000 : Int))) (T.leaf [D.i (drive (D.L a) (D.L b) (D.L c) (D.I d) (D.L e) (D.I f)).snd.fst, D.i (drive (D.L a) (D.L b) (D.L c) (D.I d) (D.L e) (D.I f)).fst, D.i (0 : Int)])))))) := by kernel_rfl
theorem t23 (a b c d e f : D) : fnT C tab23 23 s23 [a, b, c, d, e, f] =
  T.need (yes (smallRows (D.L a) ∧ smallRows (D.L b) ∧ List.length (D.L c) < big)) (T.ite (!compoundOk (D.L a) (D.L b) (D.L c) (D.I d)) (T.leaf [D.b false, D.i (2 : Int)]) (T.need (yes (fewN (↑(List.length (D.L a)) : Int))) (T.ite (!loopOk (D.L e) (↑(List.length (D.L a)) : Int)) (T.leaf [D.b false, D.i (2 : Int)]) (T.ite (!within (D.I f) (0 : Int) (1000000 : Int)) (T.leaf [D.b false, D.i (2 : Int)]) (T.need (yes (drivePre (D.L a) (D.L b) (D.L c) (D.I d) (D.L e) ∧ (0 : Int) ≤ D.I f ∧ D.I f ≤ (1000000 : Int))) (T.leaf [D.b (drive (D.L a) (D.L b) (D.L c) (D.I d) (D.L e) (D.I f)).snd.snd, D.i (0 : Int)])))))) := by kernel_rfl
end Go.Proofs.Ytgoedfonmocafaa

namespace Go.Proofs.Ytgoedfonmocafaa
open Go.Lite

theorem hC : ∀ t Y, C.ty t = some Y → tyOf C.P t = some Y := by
  intro t Y h
  dsimp only [C] at h ⊢
  exact h
theorem fuelC : C.fuel = 18446744073709551616 := by kernel_rfl

theorem ok64 (n : Nat) : FnOK C (n + 1) 64 (mkF s64 G64) := by
  refine fn_of hC (sp := sp64) (lp := lp64) trivial (by kernel_rfl) [] (by kernel_rfl) rfl (fun k hk => by cases hk) fun ds r h => ?_
  unfold G64 at h
  split at h
  · rename_i a b c
    rw [← h]
    refine (congrArg T.run (t64 a b c)).trans ?_
    simp only [run_ite, run_leaf, within]
    split <;> rename_i hc
    · have : b.I ≤ a.I := of_decide_eq_true hc
      simp [this]
    · have : ¬ b.I ≤ a.I := fun h => hc (decide_eq_true h)
      simp [this]
  · cases h
theorem ok46 (n : Nat) : FnOK C (n + 1) 46 (mkF s46 G46) := by
  refine fn_of hC (sp := sp46) (lp := lp46) trivial (by kernel_rfl) [] (by kernel_rfl) rfl (fun k hk => by cases hk) fun ds r h => ?_
  unfold G46 at h
  split at h
  · rename_i a b c
    rw [← h]
    refine (congrArg T.run (t46 a b c)).trans ?_
    simp only [run_ite, run_leaf, within]
    split <;> rename_i hc
    · have : b.I ≤ a.I := of_decide_eq_true hc
      simp [this]
    · have : ¬ b.I ≤ a.I := fun h => hc (decide_eq_true h)
      simp [this]
  · cases h

theorem ok100_2 (n : Nat) : LoopSim C (n + 1) 100 (loopOf C.P 100 2) (mkL l100_2 G100_2) := by
  refine loop_of hC (sp := sp100) (lp := lp100) ⟨ok64 n, trivial⟩ [] (by kernel_rfl) rfl (fun k hk => by cases hk) (by kernel_rfl) (fun ds => ((ds.getD 2 default).I - (ds.getD 3 default).I).toNat) fun ds r h => ?_
  unfold G100_2 at h
  split at h
  · rename_i l0 l n i
    obtain ⟨hp, h⟩ := need_some h
    rw [yes_iff] at hp
    obtain ⟨h1, h2, h3, h4, h5⟩ := hp
    have hb : big = 4611686018427387904 := rfl
    refine ⟨by rw [fuelC]; simp; omega, ?_⟩
    rw [show roundT C (mkTab sp100 lp100) 100 (loopOf C.P 100 2) l100_2 [l0, l, n, i] = _ from t100_2 l0 l n i]
    obtain ⟨k, hk⟩ : ∃ k : Nat, i.I = k := ⟨i.I.toNat, by omega⟩
    simp only [run_ite, run_need, run_leaf, hk, h1, h2, Int.toNat_natCast, ix_def, Nat.zero_add] at h h4 ⊢
    refine all_loop (p := knotAt l.L) (i := k) (len := l.L.length) [D.l l.L, D.l l.L, D.i l.L.length, D.i (k + 1 : Nat)] h ?_ ?_
    · simp only [knotAt, wrap_succ (show k < 9223372036854775807 by omega), wrap_pred (show k < 9223372036854775807 by omega), toNat_pred]
      grind
    · intro hlt hp hh
      refine ⟨Eq.trans (need_yes (p := _) (t := _) ?_) hh, ?_⟩
      · simp only [I_i, L_l]
        exact ⟨trivial, trivial, by omega, by omega, h5⟩
      · show ((l.L.length : Int) - ((k + 1 : Nat) : Int)).toNat < (n.I - i.I).toNat
        omega
  · cases h

theorem ok100 (n : Nat) : FnOK C (n + 2) 100 (mkF s100 G100) := by
  refine fn_of hC (sp := sp100) (lp := lp100) ⟨ok64 n, trivial⟩ (by kernel_rfl) [2] (by kernel_rfl) (by kernel_rfl) (fun k hk L hL => by simp at hk; subst hk; cases hL; exact ok100_2 n) fun ds r h => ?_
  unfold G100 at h
  split at h
  · rename_i l
    obtain ⟨hp, h⟩ := need_some h
    rw [yes_iff] at hp
    rw [← h]
    refine (congrArg T.run (t100 l)).trans ?_
    simp [run_ite, run_need, run_leaf, yes_iff, hp, rowOk]
    split <;> rename_i hc <;> simp [hc]
  · cases h
theorem ok99 (n : Nat) : FnOK C (n + 3) 99 (mkF s99 G99) := by
  refine fn_of hC (sp := sp99) (lp := lp99) ⟨ok100 n, trivial⟩ (by kernel_rfl) [] (by kernel_rfl) rfl (fun k hk => by cases hk) fun ds r h => ?_
  unfold G99 at h
  split at h
  · rename_i l
    rw [← h]
    exact congrArg T.run (t99 l)
  · cases h
theorem ok103 (n : Nat) : FnOK C (n + 2) 103 (mkF s103 G103) := by
  refine fn_of hC (sp := sp103) (lp := lp103) ⟨ok64 n, trivial⟩ (by kernel_rfl) [] (by kernel_rfl) rfl (fun k hk => by cases hk) fun ds r h => ?_
  unfold G103 at h
  split at h
  · rename_i l
    rw [← h]
    exact congrArg T.run (t103 l)
  · cases h
theorem ok129_2 (n : Nat) : LoopSim C (n + 3) 129 (loopOf C.P 129 2) (mkL l129_2 G129_2) := by
  refine loop_of hC (sp := sp129) (lp := lp129) ⟨ok99 n, trivial⟩ [] (by kernel_rfl) rfl (fun k hk => by cases hk) (by kernel_rfl) (fun ds => ((ds.getD 1 default).I - (ds.getD 2 default).I).toNat) fun ds r h => ?_
  unfold G129_2 at h
  split at h
  · rename_i l n i
    obtain ⟨hp, h⟩ := need_some h
    rw [yes_iff] at hp
    obtain ⟨h1, h2, h3, h4⟩ := hp
    have hb : big = 4611686018427387904 := rfl
    have hsm := h1.1
    refine ⟨by rw [fuelC]; simp; omega, ?_⟩
    rw [show roundT C (mkTab sp129 lp129) 129 (loopOf C.P 129 2) l129_2 [l, n, i] = _ from t129_2 l n i]
    obtain ⟨k, hk⟩ : ∃ k : Nat, i.I = k := ⟨i.I.toNat, by omega⟩
    simp only [run_ite, run_need, run_leaf, hk, h2, Int.toNat_natCast] at h h4 ⊢
    refine first_loop (p := fun j => !rowOk (rowAt l.L j)) (i := k) (len := l.L.length) [D.l l.L, D.i l.L.length, D.i (k + 1 : Nat)] h ?_ ?_
    · simp only [wrap_succ (show k < 9223372036854775807 by omega)]
      have := h1.2 k
      simp only [rowAt, lx_def, yes_iff] at this ⊢
      grind
    · intro hlt hp hh
      refine ⟨Eq.trans (need_yes (p := _) (t := _) ?_) hh, ?_⟩
      · simp only [I_i, L_l]
        exact ⟨h1, trivial, by omega, by omega⟩
      · show ((l.L.length : Int) - ((k + 1 : Nat) : Int)).toNat < (n.I - i.I).toNat
        omega
  · cases h
theorem ok129 (n : Nat) : FnOK C (n + 4) 129 (mkF s129 G129) := by
  refine fn_of hC (sp := sp129) (lp := lp129) ⟨ok99 n, trivial⟩ (by kernel_rfl) [2] (by kernel_rfl) (by kernel_rfl) (fun k hk L hL => by simp at hk; subst hk; cases hL; exact ok129_2 n) fun ds r h => ?_
  unfold G129 at h
  split at h
  · rename_i l
    obtain ⟨hp, h⟩ := need_some h
    rw [yes_iff] at hp
    rw [← h]
    refine (congrArg T.run (t129 l)).trans ?_
    refine (need_yes ⟨hp, by omega, by omega, by omega⟩).trans ?_
    simp only [run_ite, run_leaf, Int.toNat_zero, Nat.sub_zero]
    split
    · rfl
    · rename_i hc
      have : ¬ firstFrom (fun j => !rowOk (rowAt l.L j)) 0 l.L.length ≥ 0 := fun hh => hc (decide_eq_true hh)
      rw [firstFrom_neg (by omega)]
  · cases h
theorem ok130_2 (n : Nat) : LoopSim C (n + 2) 130 (loopOf C.P 130 2) (mkL l130_2 G130_2) := by
  refine loop_of hC (sp := sp130) (lp := lp130) ⟨ok103 n, trivial⟩ [] (by kernel_rfl) rfl (fun k hk => by cases hk) (by kernel_rfl) (fun ds => ((ds.getD 1 default).I - (ds.getD 2 default).I).toNat) fun ds r h => ?_
  unfold G130_2 at h
  split at h
  · rename_i l n i
    obtain ⟨hp, h⟩ := need_some h
    rw [yes_iff] at hp
    obtain ⟨h1, h2, h3, h4⟩ := hp
    have hb : big = 4611686018427387904 := rfl
    refine ⟨by rw [fuelC]; simp; omega, ?_⟩
    rw [show roundT C (mkTab sp130 lp130) 130 (loopOf C.P 130 2) l130_2 [l, n, i] = _ from t130_2 l n i]
    obtain ⟨k, hk⟩ : ∃ k : Nat, i.I = k := ⟨i.I.toNat, by omega⟩
    simp only [run_ite, run_need, run_leaf, hk, h2, Int.toNat_natCast] at h h4 ⊢
    refine first_loop (p := fun j => !within (ix (l.L.getD j []) 0) 0 1000) (i := k) (len := l.L.length) [D.l l.L, D.i l.L.length, D.i (k + 1 : Nat)] h ?_ ?_
    · simp only [wrap_succ (show k < 9223372036854775807 by omega), ix_def]
      grind
    · intro hlt hp hh
      refine ⟨Eq.trans (need_yes (p := _) (t := _) ?_) hh, ?_⟩
      · simp only [I_i, L_l]
        exact ⟨h1, trivial, by omega, by omega⟩
      · show ((l.L.length : Int) - ((k + 1 : Nat) : Int)).toNat < (n.I - i.I).toNat
        omega
  · cases h
theorem ok130 (n : Nat) : FnOK C (n + 3) 130 (mkF s130 G130) := by
  refine fn_of hC (sp := sp130) (lp := lp130) ⟨ok103 n, trivial⟩ (by kernel_rfl) [2] (by kernel_rfl) (by kernel_rfl) (fun k hk L hL => by simp at hk; subst hk; cases hL; exact ok130_2 n) fun ds r h => ?_
  unfold G130 at h
  split at h
  · rename_i l
    obtain ⟨hp, h⟩ := need_some h
    rw [yes_iff] at hp
    rw [← h]
    refine (congrArg T.run (t130 l)).trans ?_
    refine (need_yes ⟨hp, by omega, by omega, by omega⟩).trans ?_
    simp only [run_ite, run_leaf, Int.toNat_zero, Nat.sub_zero]
    split
    · rfl
    · rename_i hc
      have : ¬ firstFrom (fun j => !within (ix (l.L.getD j []) 0) 0 1000) 0 l.L.length ≥ 0 := fun hh => hc (decide_eq_true hh)
      rw [firstFrom_neg (by omega)]
  · cases h
theorem ok101 (n : Nat) : FnOK C (n + 5) 101 (mkF s101 G101) := by
  refine fn_of hC (sp := sp101) (lp := lp101) ⟨ok129 n, (ok99 (n + 1)), trivial⟩ (by kernel_rfl) [] (by kernel_rfl) rfl (fun k hk => by cases hk) fun ds r h => ?_
  unfold G101 at h
  split at h
  · rename_i l
    rw [← h]
    refine (congrArg T.run (t101 l)).trans ?_
    rw [firstFrom_all]
    simp only [Bool.not_not]
    rfl
  · cases h
theorem ok102 (n : Nat) : FnOK C (n + 4) 102 (mkF s102 G102) := by
  refine fn_of hC (sp := sp102) (lp := lp102) ⟨ok130 n, ok103 (n + 1), trivial⟩ (by kernel_rfl) [] (by kernel_rfl) rfl (fun k hk => by cases hk) fun ds r h => ?_
  unfold G102 at h
  split at h
  · rename_i l
    rw [← h]
    refine (congrArg T.run (t102 l)).trans ?_
    rw [firstFrom_all]
    simp only [Bool.not_not]
    rfl
  · cases h
theorem ok62 (n : Nat) : FnOK C (n + 6) 62 (mkF s62 G62) := by
  refine fn_of hC (sp := sp62) (lp := lp62) ⟨ok64 (n + 4), ok101 n, ok102 (n + 1), trivial⟩ (by kernel_rfl) [] (by kernel_rfl) rfl (fun k hk => by cases hk) fun ds r h => ?_
  unfold G62 at h
  split at h
  · rename_i a b c d
    obtain ⟨hp, h⟩ := need_some h
    rw [yes_iff] at hp
    rw [← h]
    refine (congrArg T.run (t62 a b c d)).trans ?_
    simp only [run_ite, run_need, run_leaf, compoundOk, yes_true hp.1, yes_true hp.2.1, yes_true hp.2.2, if_true]
    have e1 : ((b.L.length : Int) = a.L.length) ↔ b.L.length = a.L.length := Int.ofNat_inj
    have e2 : ((c.L.length : Int) = a.L.length) ↔ c.L.length = a.L.length := Int.ofNat_inj
    grind
  · cases h
end Go.Proofs.Ytgoedfonmocafaa

namespace Go.Proofs.Ytgoedfonmocafaa
open Go.Lite

/-! ### Bounds -/
theorem row_len {l : List (List D)} (h : rowOk l = true) : 1 ≤ l.length ∧ l.length ≤ 10 := by
  simp only [rowOk, Bool.and_eq_true, Lite.within_iff] at h
  omega
theorem row_knot {l : List (List D)} (h : rowOk l = true) {j : Nat} (hj : j < l.length) : (-40 ≤ ix (l.getD j []) 0 ∧ ix (l.getD j []) 0 ≤ 80) ∧ (0 ≤ ix (l.getD j []) 1 ∧ ix (l.getD j []) 1 ≤ 1000) ∧ (j = 0 ∨ ix (l.getD (j - 1) []) 0 < ix (l.getD j []) 0) := by
  simp only [rowOk, Bool.and_eq_true, allFrom_iff] at h
  have := h.1 j (Nat.zero_le _) (by omega)
  simp only [knotAt, Bool.and_eq_true, Lite.within_iff, Bool.or_eq_true, decide_eq_true_eq] at this
  exact ⟨this.1.1, this.1.2, this.2⟩
theorem interp_between {a b : List D} {d : Int} (ha : 0 ≤ ix a 1 ∧ ix a 1 ≤ 1000) (hb : 0 ≤ ix b 1 ∧ ix b 1 ≤ 1000) (h1 : ix a 0 ≤ d) (h2 : d ≤ ix b 0) (h3 : ix a 0 < ix b 0) : 0 ≤ interp a b d ∧ interp a b d ≤ 1000 := by
  unfold interp
  have := @Lite.tdiv_between (ix b 1 - ix a 1) (d - ix a 0) (ix b 0 - ix a 0) (by omega) (by omega) (by omega)
  generalize ((ix b 1 - ix a 1) * (d - ix a 0)).tdiv (ix b 0 - ix a 0) = x at *
  omega
theorem freshFrom_range {l : List (List D)} {d : Int} (h : rowOk l = true) : ∀ (k i : Nat), 1 ≤ i → i + k = l.length → ix (l.getD (i - 1) []) 0 ≤ d → 0 ≤ freshFrom l d i k ∧ freshFrom l d i k ≤ 1000
  | 0, i, h1, h2, h3 => by
    simp only [freshFrom]
    have := (row_knot h (j := l.length - 1) (by omega)).2.1
    omega
  | k + 1, i, h1, h2, h3 => by
    simp only [freshFrom]
    have ha := row_knot h (j := i - 1) (by omega)
    have hb := row_knot h (j := i) (by omega)
    split
    · exact interp_between ha.2.1 hb.2.1 h3 ‹_› (hb.2.2.resolve_left (by omega))
    · refine freshFrom_range h k (i + 1) (by omega) (by omega) ?_
      simp only [Nat.add_sub_cancel]
      omega
theorem freshV_range {l : List (List D)} {d : Int} (h : rowOk l = true) : 0 ≤ freshV l d ∧ freshV l d ≤ 1000 := by
  unfold freshV
  have hl := row_len h
  split
  · have := (row_knot h (j := 0) (by omega)).2.1
    omega
  · refine freshFrom_range h _ _ (by omega) (by omega) ?_
    simp only [Nat.sub_self]
    omega
/-- One step of the reckoning between two knots, within the machine's numbers. -/
theorem interp_wrap {a b : List D} {d : Int} (ha : 0 ≤ ix a 1 ∧ ix a 1 ≤ 1000) (hb : 0 ≤ ix b 1 ∧ ix b 1 ≤ 1000) (ha0 : -40 ≤ ix a 0 ∧ ix a 0 ≤ 80) (hb0 : -40 ≤ ix b 0 ∧ ix b 0 ≤ 80) (hd : -40 ≤ d ∧ d ≤ 80) :
    IntKind.wrap IntKind.i64 (ix a 1 + IntKind.wrap IntKind.i64 (Int.tdiv (IntKind.wrap IntKind.i64 (IntKind.wrap IntKind.i64 (ix b 1 - ix a 1) * IntKind.wrap IntKind.i64 (d - ix a 0))) (IntKind.wrap IntKind.i64 (ix b 0 - ix a 0)))) = interp a b d := by
  unfold interp
  rw [wrap_id (x := ix b 1 - ix a 1) (by omega) (by omega), wrap_id (x := d - ix a 0) (by omega) (by omega), wrap_id (x := ix b 0 - ix a 0) (by omega) (by omega)]
  have h1 : ((ix b 1 - ix a 1) * (d - ix a 0)).natAbs ≤ 1000 * 120 := mul_abs (by omega) (by omega)
  rw [wrap_abs h1 (by decide)]
  have h2 := @Lite.tdiv_abs _ (ix b 0 - ix a 0) _ h1
  rw [wrap_abs h2 (by decide)]
  generalize ((ix b 1 - ix a 1) * (d - ix a 0)).tdiv (ix b 0 - ix a 0) = x at *
  exact wrap_id (by omega) (by omega)

theorem ok128_7 (n : Nat) : LoopSim C (n + 1) 128 (loopOf C.P 128 7) (mkL l128_7 G128_7) := by
  refine loop_of hC (sp := sp128) (lp := lp128) trivial [] (by kernel_rfl) rfl (fun k hk => by cases hk) (by kernel_rfl) (fun ds => (((ds.getD 1 default).L.length : Int) - (ds.getD 2 default).I).toNat) fun ds r h => ?_
  unfold G128_7 at h
  split at h
  · rename_i a b c
    obtain ⟨hp, h⟩ := need_some h
    rw [yes_iff] at hp
    obtain ⟨h1, h2, h3, h4, h5⟩ := hp
    have hl := row_len h1
    refine ⟨by rw [fuelC]; simp; omega, ?_⟩
    rw [show roundT C (mkTab sp128 lp128) 128 (loopOf C.P 128 7) l128_7 [a, b, c] = _ from t128_7 a b c]
    obtain ⟨k, hk⟩ : ∃ k : Nat, c.I = k := ⟨c.I.toNat, by omega⟩
    simp only [run_ite, run_need, run_leaf, hk, Int.toNat_natCast] at h h4 ⊢
    refine find_loop (q := fun j => !decide (a.I ≤ ix (b.L.getD j []) 0)) (i := k) (len := b.L.length) (val := fun i k => (.ret, [.i (freshFrom b.L a.I i k)])) (w := (.ret, [.i (interp (b.L.getD (k - 1) []) (b.L.getD k []) a.I)])) [D.i a.I, D.l b.L, D.i (k + 1 : Nat)] h ?_ ?_ ?_
    · intro k'
      simp only [freshFrom]
      by_cases hh : a.I ≤ ix (b.L.getD k []) 0
      · simp only [hh, decide_true, Bool.not_true, Bool.false_eq_true, if_true, if_false]
      · simp only [hh, decide_false, Bool.not_false, if_true, if_false]
    · by_cases hlt : k < b.L.length
      · have ka := row_knot h1 (j := k - 1) (by omega)
        have kb := row_knot h1 (j := k) hlt
        have kk := kb.2.2.resolve_left (by omega)
        simp only [wrap_succ (show k < 9223372036854775807 by omega), wrap_pred (show k < 9223372036854775807 by omega), toNat_pred, ix_def, Nat.zero_add]
        rw [interp_wrap ka.2.1 kb.2.1 ka.1 kb.1 ⟨h2, h3⟩, wrap_id (x := ix (b.L.getD k []) 0 - ix (b.L.getD (k - 1) []) 0) (by omega) (by omega)]
        have e1 : ((ix (b.L.getD k []) 0 - ix (b.L.getD (k - 1) []) 0 == 0) = false) := beq_eq_false_iff_ne.2 (by omega)
        grind
      · grind
    · intro hlt hp hh
      refine ⟨Eq.trans (need_yes (p := _) (t := _) ?_) hh, ?_⟩
      · simp only [I_i, L_l]
        exact ⟨h1, h2, h3, by omega, by omega⟩
      · show ((b.L.length : Int) - ((k + 1 : Nat) : Int)).toNat < ((b.L.length : Int) - c.I).toNat
        omega
  · cases h
theorem rowFor_true {a b : List (List D)} {e : Int} : rowFor a b e true = rowAt b e.toNat := rfl
theorem rowFor_false {a b : List (List D)} {e : Int} : rowFor a b e false = rowAt a e.toNat := rfl
/-- What reading a row at a degree comes to. -/
theorem fresh_run {l : List (List D)} {d : Int} (h1 : rowOk l = true) (h2 : -40 ≤ d) (h3 : d ≤ 80) :
    (T.need (decide ((0 : Int) ≤ (0 : Int) ∧ (0 : Int) < (↑(List.length l) : Int))) (T.ite (decide (d ≤ D.I (List.getD (List.getD l (Int.toNat (0 : Int)) []) 0 default))) (T.need (decide ((0 : Int) ≤ (0 : Int) ∧ (0 : Int) < (↑(List.length l) : Int))) (T.leaf [D.i (D.I (List.getD (List.getD l (Int.toNat (0 : Int)) []) (0 + 1) default))])) (T.need (yes (rowOk l = true ∧ (-40 : Int) ≤ d ∧ d ≤ (80 : Int) ∧ (1 : Int) ≤ (1 : Int) ∧ (1 : Int) ≤ (↑(List.length l) : Int))) (T.ite (allFrom (fun j => !decide (d ≤ ix (List.getD l j []) 0)) (Int.toNat (1 : Int)) (List.length l - Int.toNat (1 : Int))) (T.need (decide ((0 : Int) ≤ IntKind.wrap IntKind.i64 ((↑(List.length l) : Int) - (1 : Int)) ∧ IntKind.wrap IntKind.i64 ((↑(List.length l) : Int) - (1 : Int)) < (↑(List.length l) : Int))) (T.leaf [D.i (D.I (List.getD (List.getD l (Int.toNat (IntKind.wrap IntKind.i64 ((↑(List.length l) : Int) - (1 : Int)))) []) (0 + 1) default))])) (T.leaf [D.i (freshFrom l d (Int.toNat (1 : Int)) (List.length l - Int.toNat (1 : Int)))]))))).run = some [D.i (freshV l d)] := by
  have hl := row_len h1
  have hall : ∀ k i, allFrom (fun j => !decide (d ≤ ix (l.getD j []) 0)) i k = true → freshFrom l d i k = ix (l.getD (l.length - 1) []) 1 := by
    intro k
    induction k with
    | zero => intro i _; rfl
    | succ k ih =>
      intro i h
      simp only [allFrom, Bool.and_eq_true] at h
      simp only [freshFrom]
      rw [if_neg (by simpa using h.1), ih _ h.2]
  have hn : ∃ m : Nat, l.length = m + 1 := ⟨l.length - 1, by omega⟩
  obtain ⟨m, hm⟩ := hn
  simp only [run_ite, run_need, run_leaf, ix_def, Nat.zero_add, wrap_pred (show l.length < 9223372036854775807 by omega), toNat_pred]
  unfold freshV
  have c1 : decide ((0 : Int) ≤ 0 ∧ (0 : Int) < (l.length : Int)) = true := decide_eq_true ⟨by omega, by omega⟩
  have c2 : decide ((0 : Int) ≤ (l.length : Int) - 1 ∧ (l.length : Int) - 1 < (l.length : Int)) = true := decide_eq_true ⟨by omega, by omega⟩
  have c3 : yes (rowOk l = true ∧ (-40 : Int) ≤ d ∧ d ≤ (80 : Int) ∧ (1 : Int) ≤ (1 : Int) ∧ (1 : Int) ≤ (↑(List.length l) : Int)) = true := yes_true ⟨h1, h2, h3, by omega, by omega⟩
  rw [c1, c2, c3]
  simp only [if_true, Int.toNat_zero, show Int.toNat 1 = 1 from rfl]
  split
  · rename_i hc
    rw [if_pos (of_decide_eq_true hc)]
  · rename_i hc
    rw [if_neg (fun h => hc (decide_eq_true h))]
    split
    · rename_i hc
      rw [hall _ _ hc]
    · rfl
theorem ok128 (n : Nat) : FnOK C (n + 2) 128 (mkF s128 G128) := by
  refine fn_of hC (sp := sp128) (lp := lp128) trivial (by kernel_rfl) [7] (by kernel_rfl) (by kernel_rfl) (fun k hk L hL => by simp at hk; subst hk; cases hL; exact ok128_7 n) fun ds r h => ?_
  unfold G128 at h
  split at h
  · rename_i a b c d e f g
    obtain ⟨hp, h⟩ := need_some h
    rw [yes_iff] at hp
    obtain ⟨⟨h1, h2, h3, h4⟩, h5, h6⟩ := hp
    rw [← h]
    refine (congrArg T.run (t128 a b c d e f g)).trans ?_
    rw [run_need, if_pos (decide_eq_true ⟨h1, h2⟩), run_ite]
    cases hg : g.B with
    | true =>
      rw [hg, rowFor_true] at h4
      simp only [if_true, rowFor_true]
      rw [run_need, if_pos (decide_eq_true ⟨h1, h3⟩)]
      exact fresh_run h4 h5 h6
    | false =>
      rw [hg, rowFor_false] at h4
      simp only [Bool.false_eq_true, if_false, rowFor_false]
      exact fresh_run h4 h5 h6
  · cases h
/-- What the grip is, within the machine's numbers. -/
theorem grip_wrap {g d h : Int} (hg : 0 ≤ g ∧ g ≤ 1000) (hd : 0 ≤ d ∧ d ≤ 1000) (hh : 0 ≤ h ∧ h ≤ 1000000) :
    IntKind.wrap IntKind.i64 (g - IntKind.wrap IntKind.i64 (Int.tdiv (IntKind.wrap IntKind.i64 (IntKind.wrap IntKind.i64 (g * d) * h)) (1000000000 : Int))) = gripV g d h := by
  unfold gripV
  have h1 : (g * d).natAbs ≤ 1000 * 1000 := mul_abs (by omega) (by omega)
  rw [wrap_abs h1 (by decide)]
  have h2 : (g * d * h).natAbs ≤ 1000 * 1000 * 1000000 := mul_abs h1 (by omega)
  rw [wrap_abs h2 (by decide)]
  have h3 := @Lite.tdiv_abs _ 1000000000 _ h2
  rw [wrap_abs h3 (by decide)]
  generalize (g * d * h).tdiv 1000000000 = x at *
  exact wrap_id (by omega) (by omega)
theorem ok96 (n : Nat) : FnOK C (n + 3) 96 (mkF s96 G96) := by
  refine fn_of hC (sp := sp96) (lp := lp96) ⟨ok128 n, trivial⟩ (by kernel_rfl) [] (by kernel_rfl) rfl (fun k hk => by cases hk) fun ds r h => ?_
  unfold G96 at h
  split at h
  · rename_i a b c d e f g h0
    obtain ⟨hp, h⟩ := need_some h
    rw [yes_iff] at hp
    obtain ⟨hs, h5, h6, h7, h8, h9, h10⟩ := hp
    rw [← h]
    refine (congrArg T.run (t96 a b c d e f g h0)).trans ?_
    rw [need_yes ⟨hs, h5, h6⟩, run_need, if_pos rfl, grip_wrap (freshV_range hs.2.2.2) ⟨h7, h8⟩ ⟨h9, h10⟩]
    rfl
  · cases h
theorem surf_of {dry wet wear : List (List D)} {loss e : Int} {w : Bool} (h : compoundOk dry wet wear loss = true) (h2 : within e 0 (dry.length - 1) = true) : surfOk dry wet e w ∧ 0 ≤ loss ∧ loss ≤ 1000 := by
  simp only [compoundOk, Bool.and_eq_true, Lite.within_iff, decide_eq_true_eq, rowsOk, allFrom_iff] at h h2
  obtain ⟨⟨⟨⟨⟨⟨h3, h4⟩, h5⟩, h6⟩, h7⟩, h8⟩, h9⟩ := h
  refine ⟨⟨h2.1, by omega, by omega, ?_⟩, h6⟩
  cases w with
  | true => exact h8 _ (by omega) (by omega)
  | false => exact h7 _ (by omega) (by omega)
theorem ok50 (n : Nat) : FnOK C (n + 7) 50 (mkF s50 G50) := by
  refine fn_of hC (sp := sp50) (lp := lp50) ⟨ok62 n, ok64 (n + 5), ok96 (n + 3), trivial⟩ (by kernel_rfl) [] (by kernel_rfl) rfl (fun k hk => by cases hk) fun ds r h => ?_
  unfold G50 at h
  split at h
  · rename_i a b c d e f g h0
    obtain ⟨hp, h⟩ := need_some h
    rw [yes_iff] at hp
    rw [← h]
    refine (congrArg T.run (t50 a b c d e f g h0)).trans ?_
    rw [need_yes hp]
    have hb : big = 4611686018427387904 := rfl
    have hlen := hp.1.1
    simp only [wrap_pred (show a.L.length < 9223372036854775807 by omega), run_ite, run_leaf, run_need]
    by_cases c1 : compoundOk a.L b.L c.L d.I = true
    · by_cases c2 : within e.I 0 ((a.L.length : Int) - 1) = true
      · by_cases c3 : within f.I (-40) 80 = true
        · by_cases c4 : within h0.I 0 1000000 = true
          · have hs := surf_of (w := g.B) c1 c2
            rw [c1, c2, c3, c4]
            rw [Lite.within_iff] at c3 c4
            simp only [Bool.not_true, Bool.false_eq_true, if_false, Bool.and_self, if_true]
            rw [if_pos (yes_true ⟨hs.1, c3.1, c3.2, hs.2.1, hs.2.2, c4.1, c4.2⟩)]
          · simp [c1, c2, c3, c4]
        · simp [c1, c2, c3]
      · simp [c1, c2]
    · simp [c1]
  · cases h
end Go.Proofs.Ytgoedfonmocafaa

namespace Go.Proofs.Ytgoedfonmocafaa
open Go.Lite

theorem rowAt_def {l : List (List D)} {j : Nat} : D.L (List.getD (List.getD l j []) 0 default) = rowAt l j := rfl
theorem ok49_9 (n : Nat) : LoopSim C (n + 1) 49 (loopOf C.P 49 9) (mkL l49_9 G49_9) := by
  refine loop_of hC (sp := sp49) (lp := lp49) ⟨ok46 n, trivial⟩ [] (by kernel_rfl) rfl (fun k hk => by cases hk) (by kernel_rfl) (fun ds => (((rowAt (ds.getD 0 default).L (ds.getD 2 default).I.toNat).length : Int) - (ds.getD 3 default).I).toNat) fun ds r h => ?_
  unfold G49_9 at h
  split at h
  · rename_i a b c d
    obtain ⟨hp, h⟩ := need_some h
    rw [yes_iff] at hp
    obtain ⟨h1, h2, h3, h4, h5, h6⟩ := hp
    refine ⟨by rw [fuelC]; simp; omega, ?_⟩
    rw [show roundT C (mkTab sp49 lp49) 49 (loopOf C.P 49 9) l49_9 [a, b, c, d] = _ from t49_9 a b c d]
    obtain ⟨k, hk⟩ : ∃ k : Nat, d.I = k := ⟨d.I.toNat, by omega⟩
    rw [run_need, if_pos (decide_eq_true ⟨h2, h3⟩)]
    have c1 : decide (0 ≤ c.I ∧ c.I < (a.L.length : Int)) = true := decide_eq_true ⟨h2, h3⟩
    simp only [run_ite, run_need, run_leaf, hk, Int.toNat_natCast, rowAt_def, c1, if_true] at h h5 h6 ⊢
    refine all_loop (p := knotAt (rowAt a.L c.I.toNat)) (i := k) (len := (rowAt a.L c.I.toNat).length) [D.l a.L, D.i b.I, D.i c.I, D.i (k + 1 : Nat)] h ?_ ?_
    · simp only [knotAt, wrap_succ (show k < 9223372036854775807 by omega), wrap_pred (show k < 9223372036854775807 by omega), toNat_pred, ix_def, Nat.zero_add]
      grind
    · intro hlt hp hh
      refine ⟨Eq.trans (need_yes (p := _) (t := _) ?_) hh, ?_⟩
      · simp only [I_i, L_l]
        exact ⟨h1, h2, h3, h4, by omega, by omega⟩
      · show (((rowAt a.L c.I.toNat).length : Int) - ((k + 1 : Nat) : Int)).toNat < (((rowAt a.L c.I.toNat).length : Int) - d.I).toNat
        omega
  · cases h
theorem ok49_4 (n : Nat) : LoopSim C (n + 1) 49 (loopOf C.P 49 4) (mkL l49_4 G49_4) := by
  refine loop_of hC (sp := sp49) (lp := lp49) ⟨ok46 n, trivial⟩ [9] (by kernel_rfl) (by kernel_rfl) (fun k hk L hL => by simp at hk; subst hk; cases hL; exact ok49_9 n) (by kernel_rfl) (fun ds => (((ds.getD 0 default).L.length : Int) - (ds.getD 2 default).I).toNat) fun ds r h => ?_
  unfold G49_4 at h
  split at h
  · rename_i a b c
    obtain ⟨hp, h⟩ := need_some h
    rw [yes_iff] at hp
    obtain ⟨h1, h2, h3, h4⟩ := hp
    have hb : big = 4611686018427387904 := rfl
    refine ⟨by rw [fuelC]; simp; omega, ?_⟩
    rw [show roundT C (mkTab sp49 lp49) 49 (loopOf C.P 49 4) l49_4 [a, b, c] = _ from t49_4 a b c]
    obtain ⟨k, hk⟩ : ∃ k : Nat, c.I = k := ⟨c.I.toNat, by omega⟩
    simp only [run_ite, run_need, run_leaf, hk, h2, Int.toNat_natCast, rowAt_def, Int.toNat_zero, Nat.sub_zero] at h h3 h4 ⊢
    refine all_loop (p := fun j => rowOk (rowAt a.L j)) (i := k) (len := a.L.length) [D.l a.L, D.i a.L.length, D.i (k + 1 : Nat)] h ?_ ?_
    · simp only [rowOk, wrap_succ (show k < 9223372036854775807 by omega), yes_iff, within]
      grind
    · intro hlt hp hh
      refine ⟨Eq.trans (need_yes (p := _) (t := _) ?_) hh, ?_⟩
      · simp only [I_i, L_l]
        exact ⟨h1, trivial, by omega, by omega⟩
      · show ((a.L.length : Int) - ((k + 1 : Nat) : Int)).toNat < ((a.L.length : Int) - c.I).toNat
        omega
  · cases h
theorem ok49 (n : Nat) : FnOK C (n + 2) 49 (mkF s49 G49) := by
  refine fn_of hC (sp := sp49) (lp := lp49) ⟨ok46 n, trivial⟩ (by kernel_rfl) [4] (by kernel_rfl) (by kernel_rfl) (fun k hk L hL => by simp at hk; subst hk; cases hL; exact ok49_4 n) fun ds r h => ?_
  unfold G49 at h
  split at h
  · rename_i a b
    obtain ⟨hp, h⟩ := need_some h
    rw [yes_iff] at hp
    rw [← h]
    refine (congrArg T.run (t49 a b)).trans ?_
    simp only [run_ite, run_need, run_leaf, yes_iff, Int.toNat_zero, Nat.sub_zero, rowsOk]
    grind
  · cases h
theorem ok16_5 (n : Nat) : LoopSim C (n + 2) 16 (loopOf C.P 16 5) (mkL l16_5 G16_5) := by
  refine loop_of hC (sp := sp16) (lp := lp16) ⟨ok49 n, ok46 (n + 1), trivial⟩ [] (by kernel_rfl) rfl (fun k hk => by cases hk) (by kernel_rfl) (fun ds => ((ds.getD 0 default).I - (ds.getD 1 default).I).toNat) fun ds r h => ?_
  unfold G16_5 at h
  split at h
  · rename_i m i a b c d
    obtain ⟨hp, h⟩ := need_some h
    rw [yes_iff] at hp
    obtain ⟨h1, h2, h3, h4⟩ := hp
    have hb : big = 4611686018427387904 := rfl
    refine ⟨by rw [fuelC]; simp; omega, ?_⟩
    rw [show roundT C (mkTab sp16 lp16) 16 (loopOf C.P 16 5) l16_5 [m, i, a, b, c, d] = _ from t16_5 m i a b c d]
    obtain ⟨k, hk⟩ : ∃ k : Nat, i.I = k := ⟨i.I.toNat, by omega⟩
    simp only [run_ite, run_need, run_leaf, hk, h2, Int.toNat_natCast] at h h3 h4 ⊢
    refine all_loop (p := fun j => within (ix (c.L.getD j []) 0) 0 1000) (i := k) (len := c.L.length) [D.i c.L.length, D.i (k + 1 : Nat), D.l a.L, D.l b.L, D.l c.L, D.i d.I] h ?_ ?_
    · simp only [wrap_succ (show k < 9223372036854775807 by omega), ix_def]
      grind
    · intro hlt hp hh
      refine ⟨Eq.trans (need_yes (p := _) (t := _) ?_) hh, ?_⟩
      · simp only [I_i, L_l]
        exact ⟨h1, trivial, by omega, by omega⟩
      · show ((c.L.length : Int) - ((k + 1 : Nat) : Int)).toNat < (m.I - i.I).toNat
        omega
  · cases h
theorem ok16 (n : Nat) : FnOK C (n + 3) 16 (mkF s16 G16) := by
  refine fn_of hC (sp := sp16) (lp := lp16) ⟨ok49 n, ok46 (n + 1), trivial⟩ (by kernel_rfl) [5] (by kernel_rfl) (by kernel_rfl) (fun k hk L hL => by simp at hk; subst hk; cases hL; exact ok16_5 n) fun ds r h => ?_
  unfold G16 at h
  split at h
  · rename_i a b c d
    obtain ⟨hp, h⟩ := need_some h
    rw [yes_iff] at hp
    obtain ⟨h1, h2, h3⟩ := hp
    rw [← h]
    refine (congrArg T.run (t16 a b c d)).trans ?_
    simp only [run_ite, run_need, run_leaf, compoundOk, wearOk, yes_true h1, yes_true h2, yes_iff, if_true, Int.toNat_zero, Nat.sub_zero, within]
    have e1 : ((b.L.length : Int) = a.L.length) ↔ b.L.length = a.L.length := Int.ofNat_inj
    have e2 : ((c.L.length : Int) = a.L.length) ↔ c.L.length = a.L.length := Int.ofNat_inj
    grind
  · cases h
end Go.Proofs.Ytgoedfonmocafaa
