/-
  What the functions of fuel compute, as far as it is safe.
-/
import Derived.Test.YtlofnkkokcihnaaCarSigS
import Derived.Test.YtlofnkkokcihnaaCarSig3
namespace Go.Proofs.Ytlofnkkokcihnaa
open Go.Lite
noncomputable section

/-! ### Legs -/
def legP (a b c : Int) : Bool := within a 0 b && decide (b ≤ 1000000) && within c 0 1000000
def legOk (c : List D) : Bool := legP (ix c 0) (ix c 1) (ix c 2)
def legAt (l : List (List D)) (j : Nat) : Bool := legOk (l.getD j [])
def tankOk (t r s : Int) (l : List (List D)) : Bool := within t 1 1000000 && within r 0 t && within s 0 t && decide (l.length ≤ 50) && allFrom (legAt l) 0 l.length
def amOk (l am : List (List D)) (j : Nat) : Bool := within (ix (am.getD j []) 0) 0 (ix (l.getD j []) 2)
def lowOf (_l am : List (List D)) (i : Nat) (lo : Int) : Int := lo + ix (am.getD i []) 0
def safeFrom (t r : Int) (l am : List (List D)) : Nat → Nat → Int → Int → Bool
  | _, 0, _, _ => true
  | i, k + 1, lo, hi => if hi + ix (am.getD i []) 0 > t then false else if lo + ix (am.getD i []) 0 - ix (l.getD i []) 1 < r then false
    else safeFrom t r l am (i + 1) k (lo + ix (am.getD i []) 0 - ix (l.getD i []) 1) (hi + ix (am.getD i []) 0 - ix (l.getD i []) 0)
def refSafeFrom (t r : Int) (l am : List (List D)) : Nat → Nat → Int → Int → Bool
  | _, 0, _, _ => true
  | i, k + 1, lo, hi => if !amOk l am i then false else if hi + ix (am.getD i []) 0 > t then false else if lo + ix (am.getD i []) 0 - ix (l.getD i []) 1 < r then false
    else refSafeFrom t r l am (i + 1) k (lo + ix (am.getD i []) 0 - ix (l.getD i []) 1) (hi + ix (am.getD i []) 0 - ix (l.getD i []) 0)
def sumFrom (l : List (List D)) : Nat → Nat → Int
  | _, 0 => 0
  | i, k + 1 => ix (l.getD i []) 0 + sumFrom l (i + 1) k
def sameAt (a b : List (List D)) (j : Nat) : Bool := ix (a.getD j []) 0 == ix (b.getD j []) 0
def sameL (a b : List (List D)) : Bool := decide (a.length = b.length) && allFrom (sameAt a b) 0 a.length
/-- What is asked of a tank and its legs ahead of a walk over them. -/
def tankPre (t r : Int) (l am : List (List D)) : Prop := 0 ≤ r ∧ t ≤ 1000000 ∧ am.length = l.length ∧ l.length ≤ 50 ∧ allFrom (legAt l) 0 l.length = true
def bounds (t lo hi : Int) : Prop := 0 ≤ lo ∧ lo ≤ hi ∧ hi ≤ t

/-! ### The functions -/
def G88 (ds : List D) : T (List D) := match ds with
  | [a, b, c] => .leaf [.b (!legP a.I b.I c.I)]
  | _ => .fail
def G102 (ds : List D) : T (List D) := match ds with
  | [l] => .need (yes (l.L.length < big)) (.leaf [.i (firstFrom (fun j => !legAt l.L j) 0 l.L.length)])
  | _ => .fail
def G102_2 (ds : List D) : T (Ex × List D) := match ds with
  | [l, n, i] => .need (yes (l.L.length < big ∧ n.I = l.L.length ∧ 0 ≤ i.I ∧ i.I ≤ n.I))
      (.ite (decide (firstFrom (fun j => !legAt l.L j) i.I.toNat (l.L.length - i.I.toNat) ≥ 0)) (.leaf (.ret, [.i (firstFrom (fun j => !legAt l.L j) i.I.toNat (l.L.length - i.I.toNat))])) (.leaf (.exit 0, [])))
  | _ => .fail
def G87 (ds : List D) : T (List D) := match ds with
  | [l] => .need (yes (l.L.length < big)) (.leaf [.b (!allFrom (legAt l.L) 0 l.L.length)])
  | _ => .fail
def G58 (ds : List D) : T (List D) := match ds with
  | [t, r, s, l] => .need (yes (l.L.length < big)) (.leaf [.b (tankOk t.I r.I s.I l.L)])
  | _ => .fail
def G59 (ds : List D) : T (List D) := match ds with
  | [t, r, s, l, am] => .need (yes (tankPre t.I r.I l.L am.L ∧ allFrom (amOk l.L am.L) 0 l.L.length = true ∧ bounds t.I s.I s.I)) (.leaf [.b (safeFrom t.I r.I l.L am.L 0 l.L.length s.I s.I)])
  | _ => .fail
def G59_3 (ds : List D) : T (Ex × List D) := match ds with
  | [t, r, am, lo, hi, l, n, i] => .need (yes (tankPre t.I r.I l.L am.L ∧ allFrom (amOk l.L am.L) 0 l.L.length = true ∧ bounds t.I lo.I hi.I ∧ n.I = l.L.length ∧ 0 ≤ i.I ∧ i.I ≤ n.I))
      (.ite (safeFrom t.I r.I l.L am.L i.I.toNat (l.L.length - i.I.toNat) lo.I hi.I) (.leaf (.exit 0, [])) (.leaf (.ret, [.b false])))
  | _ => .fail
def G32 (ds : List D) : T (List D) := match ds with
  | [t, r, s, l, am] => .need (yes (l.L.length < big ∧ am.L.length < big)) (.leaf [.b (tankOk t.I r.I s.I l.L && decide (am.L.length = l.L.length) && allFrom (amOk l.L am.L) 0 am.L.length && safeFrom t.I r.I l.L am.L 0 l.L.length s.I s.I)])
  | _ => .fail
def G32_4 (ds : List D) : T (Ex × List D) := match ds with
  | [t, r, s, l, am, a2, n, i] => .need (yes (a2.L = am.L ∧ am.L.length = l.L.length ∧ l.L.length < big ∧ n.I = am.L.length ∧ 0 ≤ i.I ∧ i.I ≤ n.I))
      (.ite (allFrom (amOk l.L am.L) i.I.toNat (am.L.length - i.I.toNat)) (.leaf (.exit 0, [.i t.I, .i r.I, .i s.I, .l l.L, .l am.L])) (.leaf (.ret, [.b false])))
  | _ => .fail
def G26 (ds : List D) : T (List D) := match ds with
  | [t, r, s, l] => .leaf [.b (tankOk t.I r.I s.I l.L)]
  | _ => .fail
def G26_4 (ds : List D) : T (Ex × List D) := match ds with
  | [l, i] => .need (yes (l.L.length < big ∧ 0 ≤ i.I ∧ i.I ≤ l.L.length))
      (.ite (allFrom (legAt l.L) i.I.toNat (l.L.length - i.I.toNat)) (.leaf (.exit 0, [])) (.leaf (.ret, [.b false])))
  | _ => .fail
def G33 (ds : List D) : T (List D) := match ds with
  | [t, r, s, l, am] => .need (yes (0 ≤ r.I ∧ t.I ≤ 1000000 ∧ l.L.length ≤ 50 ∧ allFrom (legAt l.L) 0 l.L.length = true ∧ bounds t.I s.I s.I)) (.leaf [.b (decide (am.L.length = l.L.length) && refSafeFrom t.I r.I l.L am.L 0 l.L.length s.I s.I)])
  | _ => .fail
def G33_5 (ds : List D) : T (Ex × List D) := match ds with
  | [t, r, l, am, lo, hi, i] => .need (yes (tankPre t.I r.I l.L am.L ∧ bounds t.I lo.I hi.I ∧ 0 ≤ i.I ∧ i.I ≤ l.L.length))
      (.ite (refSafeFrom t.I r.I l.L am.L i.I.toNat (l.L.length - i.I.toNat) lo.I hi.I) (.leaf (.exit 0, [])) (.leaf (.ret, [.b false])))
  | _ => .fail
def G34 (ds : List D) : T (List D) := match ds with
  | [l] => .need (yes (l.L.length ≤ 1000 ∧ allFrom (fun j => within (ix (l.L.getD j []) 0) (-1000000) 1000000) 0 l.L.length = true)) (.leaf [.i (sumFrom l.L 0 l.L.length)])
  | _ => .fail
def G34_3 (ds : List D) : T (Ex × List D) := match ds with
  | [l, n, i] => .need (yes (l.L.length ≤ 1000 ∧ allFrom (fun j => within (ix (l.L.getD j []) 0) (-1000000) 1000000) 0 l.L.length = true ∧ 0 ≤ i.I ∧ i.I ≤ l.L.length ∧ -(1000000 * i.I) ≤ n.I ∧ n.I ≤ 1000000 * i.I))
      (.leaf (.exit 0, [.i (n.I + sumFrom l.L i.I.toNat (l.L.length - i.I.toNat))]))
  | _ => .fail
def G24 (ds : List D) : T (List D) := match ds with
  | [a, b] => .need (yes (a.L.length < big)) (.leaf [.b (sameL a.L b.L)])
  | _ => .fail
def G24_4 (ds : List D) : T (Ex × List D) := match ds with
  | [a, b, i] => .need (yes (a.L.length < big ∧ a.L.length = b.L.length ∧ 0 ≤ i.I ∧ i.I ≤ a.L.length))
      (.ite (allFrom (sameAt a.L b.L) i.I.toNat (a.L.length - i.I.toNat)) (.leaf (.exit 0, [])) (.leaf (.ret, [.b false])))
  | _ => .fail
end
end Go.Proofs.Ytlofnkkokcihnaa
