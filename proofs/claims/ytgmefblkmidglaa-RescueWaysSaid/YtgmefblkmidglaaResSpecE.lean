/-
  Arrivals with exactly so many hops.
-/
import Derived.Test.YtgmefblkmidglaaResSigE
import Derived.Test.YtgmefblkmidglaaResSpecD
namespace Go.Proofs.Ytgmefblkmidglaa
open Go.Lite
noncomputable section
def ex1 (c : List D) (a x : List (List D)) : List (List D) :=
  if rg a (ix c 0).toNat < 9223372036854775807 then rs x (ix c 1).toNat (if entW c (rg a (ix c 0).toNat) + ix c 2 < rg x (ix c 1).toNat then entW c (rg a (ix c 0).toNat) + ix c 2 else rg x (ix c 1).toNat) else x
def exF (r a : List (List D)) : Nat → Nat → List (List D) → List (List D)
  | _, 0, x => x
  | i, k + 1, x => exF r a (i + 1) k (ex1 (r.getD i []) a x)
def noneL (n : Int) : List (List D) := List.replicate n.toNat [.i 9223372036854775807]
def exactF (n : Int) (r : List (List D)) : Nat → List (List D) → List (List D)
  | 0, a => a
  | k + 1, a => exactF n r k (exF r a 0 r.length (noneL n))
/-- Times after exactly so many hops. -/
def okEx (n : Int) (k : Int) (a : List (List D)) : Prop := (a.length : Int) = n ∧ ∀ v, 0 ≤ rg a v ∧ (rg a v ≤ 1099511627776 + 10000 * k ∨ rg a v = 9223372036854775807)
def startE (n v t : Int) : List (List D) := rs (noneL n) v.toNat t
def G50 (ds : List D) : T (List D) := match ds with
  | [n, r, v, t, to, h] => .need (yes (netB n.I r.L = true ∧ (0 ≤ v.I ∧ v.I < n.I) ∧ (0 ≤ t.I ∧ t.I ≤ 1099511627776) ∧ (0 ≤ to.I ∧ to.I < n.I) ∧ 0 ≤ h.I ∧ h.I ≤ 1000)) (.leaf [.i (rg (exactF n.I r.L h.I.toNat (startE n.I v.I t.I)) to.I.toNat)])
  | _ => .fail
def G50_3 (ds : List D) : T (Ex × List D) := match ds with
  | [to, h, m, m', i, n, r, v, t, a] => .need (yes ((1 ≤ n.I ∧ n.I ≤ 200) ∧ m.I = n.I ∧ m'.I = n.I ∧ (a.L.length : Int) = n.I ∧ 0 ≤ i.I ∧ i.I ≤ n.I)) (.leaf (.exit 0, [.i to.I, .i h.I, .i n.I, .i n.I, .l r.L, .i v.I, .i t.I, .l (fillF 9223372036854775807 i.I.toNat (n.I.toNat - i.I.toNat) a.L)]))
  | _ => .fail
def G50_9 (ds : List D) : T (Ex × List D) := match ds with
  | [to, m, h, k, n, r, a] => .need (yes (netB n.I r.L = true ∧ m.I = n.I ∧ okEx n.I k.I a.L ∧ 0 ≤ k.I ∧ k.I ≤ h.I ∧ h.I ≤ 1000)) (.leaf (.exit 2, [.i to.I, .i n.I, .l (exactF n.I r.L (h.I.toNat - k.I.toNat) a.L)]))
  | _ => .fail
def G50_12 (ds : List D) : T (Ex × List D) := match ds with
  | [to, m, m', h, k, q, i, n, r, a, x] => .need (yes ((1 ≤ n.I ∧ n.I ≤ 200) ∧ m.I = n.I ∧ m'.I = n.I ∧ q.I = n.I ∧ (a.L.length : Int) = n.I ∧ (x.L.length : Int) = n.I ∧ 0 ≤ i.I ∧ i.I ≤ n.I))
      (.leaf (.exit 4, [.i to.I, .i n.I, .i n.I, .i h.I, .i k.I, .i n.I, .l r.L, .l a.L, .l (fillF 9223372036854775807 i.I.toNat (n.I.toNat - i.I.toNat) x.L)]))
  | _ => .fail
def G50_17 (ds : List D) : T (Ex × List D) := match ds with
  | [to, m, m', h, k, r', q, i, n, r, a, x] => .need (yes (netB n.I r.L = true ∧ r'.L = r.L ∧ q.I = r.L.length ∧ m.I = n.I ∧ m'.I = n.I ∧ okEx n.I k.I a.L ∧ okEx n.I (k.I + 1) x.L ∧ 0 ≤ k.I ∧ k.I ≤ 1000 ∧ 0 ≤ i.I ∧ i.I ≤ r.L.length))
      (.leaf (.exit 6, [.i to.I, .i n.I, .i h.I, .i k.I, .i n.I, .l r.L, .l (exF r.L a.L i.I.toNat (r.L.length - i.I.toNat) x.L)]))
  | _ => .fail
end
end Go.Proofs.Ytgmefblkmidglaa
