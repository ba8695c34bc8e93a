/-
  What the functions that raise times compute.
-/
import Derived.Test.YtipbcpobnciccaaTimSigB
import Derived.Test.YtipbcpobnciccaaTimSpecA
namespace Go.Proofs.Ytipbcpobnciccaa
open Go.Lite
noncomputable section

/-! ### Rows of integers -/
def rg (R : List (List D)) (j : Nat) : Int := ix (R.getD j []) 0
def rs (R : List (List D)) (j : Nat) (v : Int) : List (List D) := R.set j [.i v]
def bndR (R : List (List D)) (M : Int) : Prop := ∀ j, -M ≤ rg R j ∧ rg R j ≤ M

/-! ### All links -/
def extraF : Nat → Nat → List (List D)
  | _, 0 => []
  | i, k + 1 => [.i 0, .i (i : Int), .i 0] :: extraF (i + 1) k
def allL (n : Int) (l : List (List D)) : List (List D) := l ++ extraF 0 n.toNat
def netP (n : Int) (l : List (List D)) : Prop := netOk n l = true
/-- Links between so many moments. -/
def goodL (n : Int) (l : List (List D)) : Prop := 1 ≤ n ∧ n ≤ 500 ∧ l.length ≤ 5500 ∧ ∀ i, i < l.length → (0 ≤ lkF l i ∧ lkF l i < n) ∧ (0 ≤ lkT l i ∧ lkT l i < n) ∧ (-1000000 ≤ lkW l i ∧ lkW l i ≤ 1000000)

/-! ### Raising -/
abbrev RSt := List (List D) × List (List D) × Int
def stepR (l : List (List D)) (i : Nat) (s : RSt) : RSt :=
  if rg s.1 (lkF l i).toNat + lkW l i > rg s.1 (lkT l i).toNat then (rs s.1 (lkT l i).toNat (rg s.1 (lkF l i).toNat + lkW l i), rs s.2.1 (lkT l i).toNat i, lkT l i) else s
def passR (l : List (List D)) : Nat → Nat → RSt → RSt
  | _, 0, s => s
  | i, k + 1, s => passR l (i + 1) k (stepR l i s)
def roundsR (l : List (List D)) : Nat → RSt → RSt
  | 0, s => s
  | k + 1, s => if (passR l 0 l.length (s.1, s.2.1, -1)).2.2 < 0 then passR l 0 l.length (s.1, s.2.1, -1) else roundsR l k (passR l 0 l.length (s.1, s.2.1, -1))
def pushR (n : Int) (l t : List (List D)) : RSt := roundsR l (n.toNat + 1) (t, List.replicate n.toNat [.i (-1)], -1)

/-! ### The other way round -/
def revR : Nat → Nat → List (List D) → List (List D)
  | _, 0, r => r
  | i, k + 1, r => if (i : Int) < r.length - 1 - i then revR (i + 1) k (rs (rs r i (rg r (r.length - 1 - i))) (r.length - 1 - i) (rg r i)) else r

/-! ### The functions -/
def G49 (ds : List D) : T (List D) := match ds with
  | [n, l] => .need (yes (netP n.I l.L)) (.leaf [.i 0, .i n.I, .i (allL n.I l.L).length, .l (allL n.I l.L)])
  | _ => .fail
def G49_3 (ds : List D) : T (Ex × List D) := match ds with
  | [j, k, i, n, m, r] => .need (yes (j.I = 0 ∧ 0 ≤ i.I ∧ i.I ≤ k.I ∧ k.I ≤ 500 ∧ m.I = r.L.length ∧ r.L.length + (k.I - i.I) ≤ 5500))
      (.leaf (.exit 0, [.i 0, .i n.I, .i (r.L ++ extraF i.I.toNat (k.I - i.I).toNat).length, .l (r.L ++ extraF i.I.toNat (k.I - i.I).toNat)]))
  | [j, k, i, n] => .need (yes (j.I = 1 ∧ i.I = 0 ∧ 1 ≤ k.I ∧ k.I ≤ 500)) (.leaf (.exit 0, [.i 0, .i n.I, .i (extraF 0 k.I.toNat).length, .l (extraF 0 k.I.toNat)]))
  | _ => .fail
def G55 (ds : List D) : T (List D) := match ds with
  | [n, l] => .need (yes (netP n.I l.L)) (.leaf [.i 1, .i (allL n.I l.L).length, .l (allL n.I l.L)])
  | _ => .fail
def G55_3 (ds : List D) : T (Ex × List D) := match ds with
  | [j, n, m, i, r] => .need (yes (j.I = 1 ∧ 0 ≤ i.I ∧ i.I ≤ n.I ∧ n.I ≤ 500 ∧ m.I = r.L.length ∧ r.L.length + (n.I - i.I) ≤ 5500))
      (.leaf (.exit 0, [.i 1, .i (r.L ++ extraF i.I.toNat (n.I - i.I).toNat).length, .l (r.L ++ extraF i.I.toNat (n.I - i.I).toNat)]))
  | [j, n, i] => .need (yes (j.I = 0 ∧ i.I = 0 ∧ 1 ≤ n.I ∧ n.I ≤ 500)) (.leaf (.exit 0, [.i 1, .i (extraF 0 n.I.toNat).length, .l (extraF 0 n.I.toNat)]))
  | _ => .fail
def G53 (ds : List D) : T (List D) := match ds with
  | [m, r] => .need (yes (m.I = r.L.length ∧ r.L.length ≤ 1000000)) (.leaf [.l (revR 0 r.L.length r.L)])
  | _ => .fail
def G53_1 (ds : List D) : T (Ex × List D) := match ds with
  | [m, i, j, r] => .need (yes (m.I = r.L.length ∧ r.L.length ≤ 1000000 ∧ 0 ≤ i.I ∧ i.I ≤ r.L.length ∧ j.I = r.L.length - 1 - i.I)) (.leaf (.exit 0, [.l (revR i.I.toNat (r.L.length - i.I.toNat) r.L)]))
  | _ => .fail
def G68 (ds : List D) : T (List D) := match ds with
  | [n, l, m, t] => .need (yes (goodL n.I l.L ∧ m.I = n.I ∧ (t.L.length : Int) = n.I ∧ bndR t.L 1099511627776))
      (.leaf [.i n.I, .i (pushR n.I l.L t.L).2.2, .l (pushR n.I l.L t.L).1, .l (pushR n.I l.L t.L).2.1])
  | _ => .fail
def G68_3 (ds : List D) : T (Ex × List D) := match ds with
  | [n, l, m, q, k, i, t, b] => .need (yes (1 ≤ n.I ∧ n.I ≤ 500 ∧ m.I = n.I ∧ q.I = n.I ∧ k.I = n.I ∧ 0 ≤ i.I ∧ i.I ≤ n.I ∧ b.L = List.replicate i.I.toNat [.i (-1)] ++ List.replicate (n.I - i.I).toNat [.i 0]))
      (.leaf (.exit 0, [.i n.I, .l l.L, .i n.I, .i n.I, .l t.L, .l (List.replicate n.I.toNat [.i (-1)])]))
  | _ => .fail
/-- So many raisings more do not make a number too great. -/
def room (t : List (List D)) (k : Int) : Prop := ∃ M : Int, bndR t M ∧ M + 1000000 * k ≤ 4611686018427387904
def G68_9 (ds : List D) : T (Ex × List D) := match ds with
  | [n, l, m, q, r, k, i, t, b] => .need (yes (goodL n.I l.L ∧ m.I = n.I ∧ q.I = n.I ∧ k.I = n.I + 1 ∧ 0 ≤ i.I ∧ i.I ≤ n.I + 1 ∧ (t.L.length : Int) = n.I ∧ (b.L.length : Int) = n.I ∧ room t.L (l.L.length * (n.I + 1 - i.I))))
      (.leaf (.exit 2, [.i n.I, .i (roundsR l.L (n.I + 1 - i.I).toNat (t.L, b.L, r.I)).2.2, .l (roundsR l.L (n.I + 1 - i.I).toNat (t.L, b.L, r.I)).1, .l (roundsR l.L (n.I + 1 - i.I).toNat (t.L, b.L, r.I)).2.1]))
  | _ => .fail
def G68_12 (ds : List D) : T (Ex × List D) := match ds with
  | [n, l, m, q, r, k, i, l', k', i', t, b] => .need (yes (goodL n.I l.L ∧ m.I = n.I ∧ q.I = n.I ∧ l'.L = l.L ∧ k'.I = l.L.length ∧ 0 ≤ i'.I ∧ i'.I ≤ l.L.length ∧ (t.L.length : Int) = n.I ∧ (b.L.length : Int) = n.I ∧ room t.L (l.L.length - i'.I)))
      (.leaf (.exit 4, [.i n.I, .l l.L, .i n.I, .i n.I, .i (passR l.L i'.I.toNat (l.L.length - i'.I.toNat) (t.L, b.L, r.I)).2.2, .i k.I, .i i.I, .l (passR l.L i'.I.toNat (l.L.length - i'.I.toNat) (t.L, b.L, r.I)).1, .l (passR l.L i'.I.toNat (l.L.length - i'.I.toNat) (t.L, b.L, r.I)).2.1]))
  | _ => .fail
end
end Go.Proofs.Ytipbcpobnciccaa
