/-
  What the functions of losses compute.
-/
import Derived.Test.YtlofnkkokcihnaaCarSigL
namespace Go.Proofs.Ytlofnkkokcihnaa
open Go.Lite
noncomputable section

/-! ### Loops -/
def stretchP (n a b c : Int) : Bool := within a 0 (n - 1) && within b 0 100000 && within c (-40) 80
def stretchAt (l : List (List D)) (n : Int) (j : Nat) : Bool := stretchP n (ix (l.getD j []) 0) (ix (l.getD j []) 1) (ix (l.getD j []) 2)
def loopOk (l : List (List D)) (n : Int) : Bool := decide (l.length ≤ 30) && allFrom (stretchAt l n) 0 l.length
def stepLoss (dry wet : List (List D)) (loss w : Int) (c : List D) : Int := (ix c 1 * (1000 - gripC dry wet loss (ix c 0) (ix c 2) (bx c 3) w)).tdiv 1000
def stepWear (wl : List (List D)) (w : Int) (c : List D) : Int := w + ix c 1 * ix (wl.getD (ix c 0).toNat []) 0
/-- The loss, the wear at the end, and whether the tyre lasts. -/
def driveFrom (dry wet wl : List (List D)) (loss : Int) (l : List (List D)) : Nat → Nat → Int → Int → Bool → Int × Int × Bool
  | _, 0, w, s, b => (w, s, b)
  | i, k + 1, w, s, b => driveFrom dry wet wl loss l (i + 1) k (if stepWear wl w (l.getD i []) > 1000000 then 1000000 else stepWear wl w (l.getD i [])) (s + stepLoss dry wet loss w (l.getD i [])) (if stepWear wl w (l.getD i []) > 1000000 then false else b)
def useFrom (wl l : List (List D)) : Nat → Nat → Int
  | _, 0 => 0
  | i, k + 1 => ix (l.getD i []) 1 * ix (wl.getD (ix (l.getD i []) 0).toNat []) 0 + useFrom wl l (i + 1) k
def fewN (n : Int) : Prop := 0 ≤ n ∧ n ≤ 1000
def drivePre (dry wet wl : List (List D)) (loss : Int) (l : List (List D)) : Prop := compoundOk dry wet wl loss = true ∧ loopOk l dry.length = true
def drive (dry wet wl : List (List D)) (loss : Int) (l : List (List D)) (w : Int) : Int × Int × Bool := driveFrom dry wet wl loss l 0 l.length w 0 true
def lossOk (dry wet wl : List (List D)) (loss : Int) (l : List (List D)) (w : Int) : Bool := compoundOk dry wet wl loss && loopOk l dry.length && within w 0 1000000

/-! ### The functions -/
def G92 (ds : List D) : T (List D) := match ds with
  | [a, b, c, _, n] => .need (yes (fewN n.I)) (.leaf [.b (!stretchP n.I a.I b.I c.I)])
  | _ => .fail
def G104 (ds : List D) : T (List D) := match ds with
  | [l, n] => .need (yes (l.L.length < big ∧ fewN n.I)) (.leaf [.i (firstFrom (fun j => !stretchAt l.L n.I j) 0 l.L.length)])
  | _ => .fail
def G104_2 (ds : List D) : T (Ex × List D) := match ds with
  | [l, s, n, i] => .need (yes (l.L.length < big ∧ fewN s.I ∧ n.I = l.L.length ∧ 0 ≤ i.I ∧ i.I ≤ n.I))
      (.ite (decide (firstFrom (fun j => !stretchAt l.L s.I j) i.I.toNat (l.L.length - i.I.toNat) ≥ 0)) (.leaf (.ret, [.i (firstFrom (fun j => !stretchAt l.L s.I j) i.I.toNat (l.L.length - i.I.toNat))])) (.leaf (.exit 0, [])))
  | _ => .fail
def G91 (ds : List D) : T (List D) := match ds with
  | [l, n] => .need (yes (l.L.length < big ∧ fewN n.I)) (.leaf [.b (!allFrom (stretchAt l.L n.I) 0 l.L.length)])
  | _ => .fail
def G69 (ds : List D) : T (List D) := match ds with
  | [l, n] => .need (yes (fewN n.I)) (.leaf [.b (loopOk l.L n.I)])
  | _ => .fail
def G70 (ds : List D) : T (List D) := match ds with
  | [a, b, c, d, l, w] => .need (yes (drivePre a.L b.L c.L d.I l.L ∧ 0 ≤ w.I ∧ w.I ≤ 1000000)) (.leaf [.i (drive a.L b.L c.L d.I l.L w.I).2.1, .i (drive a.L b.L c.L d.I l.L w.I).1, .b (drive a.L b.L c.L d.I l.L w.I).2.2])
  | _ => .fail
def G70_3 (ds : List D) : T (Ex × List D) := match ds with
  | [w, s, o, l, n, i, a, b, c, d] => .need (yes (drivePre a.L b.L c.L d.I l.L ∧ 0 ≤ w.I ∧ w.I ≤ 1000000 ∧ n.I = l.L.length ∧ 0 ≤ i.I ∧ i.I ≤ n.I ∧ 0 ≤ s.I ∧ s.I ≤ 100000 * i.I))
      (.leaf (.exit 0, [.i (driveFrom a.L b.L c.L d.I l.L i.I.toNat (l.L.length - i.I.toNat) w.I s.I o.B).1, .i (driveFrom a.L b.L c.L d.I l.L i.I.toNat (l.L.length - i.I.toNat) w.I s.I o.B).2.1, .b (driveFrom a.L b.L c.L d.I l.L i.I.toNat (l.L.length - i.I.toNat) w.I s.I o.B).2.2]))
  | _ => .fail
def G35 (ds : List D) : T (List D) := match ds with
  | [a, b, c, d, l, w] => .need (yes (smallRows a.L ∧ smallRows b.L ∧ c.L.length < big))
      (.ite (lossOk a.L b.L c.L d.I l.L w.I) (.leaf [.i (drive a.L b.L c.L d.I l.L w.I).2.1, .i (drive a.L b.L c.L d.I l.L w.I).1, .i 0]) (.leaf [.i 0, .i 0, .i 2]))
  | _ => .fail
def G36 (ds : List D) : T (List D) := match ds with
  | [a, b, c, d, l, w] => .need (yes (smallRows a.L ∧ smallRows b.L ∧ c.L.length < big))
      (.ite (lossOk a.L b.L c.L d.I l.L w.I) (.leaf [.b (drive a.L b.L c.L d.I l.L w.I).2.2, .i 0]) (.leaf [.b false, .i 2]))
  | _ => .fail
def G37 (ds : List D) : T (List D) := match ds with
  | [l, n] => .need (yes (fewN n.I ∧ l.L.length < lim)) (.leaf [.b (loopOk l.L n.I)])
  | _ => .fail
def G37_2 (ds : List D) : T (Ex × List D) := match ds with
  | [l, n, i] => .need (yes (fewN n.I ∧ l.L.length < lim ∧ 0 ≤ i.I ∧ i.I ≤ l.L.length))
      (.ite (allFrom (stretchAt l.L n.I) i.I.toNat (l.L.length - i.I.toNat)) (.leaf (.exit 0, [.l l.L])) (.leaf (.ret, [.b false])))
  | _ => .fail
def G38 (ds : List D) : T (List D) := match ds with
  | [a, b, c, d, l, w] => .need (yes (drivePre a.L b.L c.L d.I l.L ∧ 0 ≤ w.I ∧ w.I ≤ 1000000)) (.leaf [.i (drive a.L b.L c.L d.I l.L w.I).2.1, .i (drive a.L b.L c.L d.I l.L w.I).1])
  | _ => .fail
def G38_3 (ds : List D) : T (Ex × List D) := match ds with
  | [l, w, s, i, a, b, c, d] => .need (yes (drivePre a.L b.L c.L d.I l.L ∧ 0 ≤ w.I ∧ w.I ≤ 1000000 ∧ 0 ≤ i.I ∧ i.I ≤ l.L.length ∧ 0 ≤ s.I ∧ s.I ≤ 100000 * i.I))
      (.leaf (.exit 0, [.i (driveFrom a.L b.L c.L d.I l.L i.I.toNat (l.L.length - i.I.toNat) w.I s.I true).1, .i (driveFrom a.L b.L c.L d.I l.L i.I.toNat (l.L.length - i.I.toNat) w.I s.I true).2.1]))
  | _ => .fail
def G39 (ds : List D) : T (List D) := match ds with
  | [a, b, c, d, l] => .need (yes (drivePre a.L b.L c.L d.I l.L)) (.leaf [.i (useFrom c.L l.L 0 l.L.length)])
  | _ => .fail
def G39_3 (ds : List D) : T (Ex × List D) := match ds with
  | [l, s, i, a, b, c, d] => .need (yes (drivePre a.L b.L c.L d.I l.L ∧ 0 ≤ i.I ∧ i.I ≤ l.L.length ∧ 0 ≤ s.I ∧ s.I ≤ 100000000 * i.I))
      (.leaf (.exit 0, [.i (s.I + useFrom c.L l.L i.I.toNat (l.L.length - i.I.toNat))]))
  | _ => .fail
end
end Go.Proofs.Ytlofnkkokcihnaa
