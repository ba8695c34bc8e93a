/-
  Searches: what they come to, whatever is yielded.
-/
import Derived.Test.YtgmefblkmidglaaResSigB
import Derived.Test.YtgmefblkmidglaaResSpecA
namespace Go.Proofs.Ytgmefblkmidglaa
open Go.Lite
noncomputable section
/-- A search's state: the times, how many wait, and who. -/
structure Sr where
  o : List (List D)
  k : Nat
  q : List (List D)
def relF : List (List D) → Sr → Sr
  | [], s => s
  | e :: es, s => if ix e 1 < rg s.o (ix e 0).toNat then relF es ⟨rs s.o (ix e 0).toNat (ix e 1), s.k + 1, pushR s.q s.k (ix e 0) (ix e 1)⟩ else relF es s
/-- Who is taken. -/
def takeV (s : Sr) : Int := ix ((popR s.q s.k).getD (s.k - 1) []) 0
def takeT (s : Sr) : Int := ix ((popR s.q s.k).getD (s.k - 1) []) 1
def stepS (r : List (List D)) (s : Sr) : Sr :=
  if takeT s > rg s.o (takeV s).toNat then ⟨s.o, s.k - 1, popR s.q s.k⟩ else relF (nextF r (takeV s) (takeT s) 0 r.length) ⟨s.o, s.k - 1, popR s.q s.k⟩
/-- What a step needs; n: how many places there are. -/
def needS (n : Nat) (r : List (List D)) (s : Sr) : Prop := s.k ≤ s.q.length ∧ s.k < 274877906944 ∧ n ≤ s.o.length ∧ (0 ≤ takeV s ∧ takeV s < n) ∧ okS (takeT s) ∧ okR r ∧ r.length < 274877906944 ∧ ∀ i, i < r.length → 0 ≤ ix (r.getD i []) 1 ∧ ix (r.getD i []) 1 < n
/-- A search ends after so many steps. -/
def endsS (n : Nat) (r : List (List D)) : Nat → Sr → Prop
  | 0, s => s.k = 0
  | f + 1, s => s.k ≠ 0 ∧ needS n r s ∧ endsS n r f (stepS r s)
def runSr (r : List (List D)) : Nat → Sr → List (List D)
  | 0, s => s.o
  | f + 1, s => runSr r f (stepS r s)
def lenS (n : Nat) (r : List (List D)) (s : Sr) : Nat := Classical.epsilon fun f => endsS n r f s
def resS (n : Nat) (r : List (List D)) (s : Sr) : List (List D) := runSr r (lenS n r s) s
def haltS (n : Nat) (r : List (List D)) (s : Sr) : Prop := ∃ f, f < 9223372036854775808 ∧ endsS n r f s
def mkSr (o k q : D) : Sr := ⟨o.L, k.I.toNat, q.L⟩
def fillF (v : Int) : Nat → Nat → List (List D) → List (List D)
  | _, 0, l => l
  | i, k + 1, l => fillF v (i + 1) k (rs l i v)
def G73_3 (ds : List D) : T (Ex × List D) := match ds with
  | [n, r, m, i, x, y, k, l] => .need (yes (m.I = (k.I.toNat : Int) ∧ k.I.toNat ≤ l.L.length ∧ 0 ≤ i.I ∧ i.I ≤ m.I ∧ m.I < 1099511627776)) (.leaf (.exit 0, [.i n.I, .l r.L, .i x.I, .i y.I, .i (k.I.toNat : Int), .l (fillF 9223372036854775807 i.I.toNat (k.I.toNat - i.I.toNat) l.L)]))
  | _ => .fail
def G73_9 (ds : List D) : T (Ex × List D) := match ds with
  | [_, r, n, o, k, q] => .need (yes (haltS n.I.toNat r.L (mkSr o k q))) (.leaf (.exit 2, [.i (n.I.toNat : Int), .l (resS n.I.toNat r.L (mkSr o k q))]))
  | _ => .fail
def G73_14 (L : List (List D)) (ds : List D) : T (Ex × List D) := match ds with
  | [a, r, a', r', n, o, k, q] => .need (yes (n.I.toNat ≤ o.L.length ∧ k.I.toNat ≤ q.L.length ∧ k.I.toNat + L.length < 549755813888 ∧ ∀ e ∈ L, 0 ≤ ix e 0 ∧ ix e 0 < (n.I.toNat : Int)))
      (.leaf (.normal, [.i a.I, .l r.L, .i a'.I, .l r'.L, .i (n.I.toNat : Int), .l (relF L (mkSr o k q)).o, .i ((relF L (mkSr o k q)).k : Int), .l (relF L (mkSr o k q)).q]))
  | _ => .fail
/-- Where a search begins. -/
def startS (n : Int) (v t : Int) : Sr := ⟨rs (List.replicate n.toNat [.i 9223372036854775807]) v.toNat t, 1, [[.i v, .i t]]⟩
def G73 (ds : List D) : T (List D) := match ds with
  | [n, v, t, _, r] => .need (yes (0 ≤ n.I ∧ n.I < 1099511627776 ∧ 0 ≤ v.I ∧ v.I < n.I ∧ haltS n.I.toNat r.L (startS n.I v.I t.I))) (.leaf [.i n.I, .l (resS n.I.toNat r.L (startS n.I v.I t.I))])
  | _ => .fail
/-- Places that cannot be reached. -/
def noneF : Nat → Nat → List (List D) → List (List D)
  | _, 0, l => l
  | i, k + 1, l => noneF (i + 1) k (if rg l i = 9223372036854775807 then rs l i (-1) else l)
def G46_3 (ds : List D) : T (Ex × List D) := match ds with
  | [n, n2, m, i, l] => .need (yes (m.I = (n.I.toNat : Int) ∧ n2.I.toNat = n.I.toNat ∧ n.I.toNat ≤ l.L.length ∧ 0 ≤ i.I ∧ i.I ≤ m.I ∧ m.I < 1099511627776)) (.leaf (.exit 0, [.i (n.I.toNat : Int), .l (noneF i.I.toNat (n.I.toNat - i.I.toNat) l.L)]))
  | _ => .fail
def arrF (n : Int) (r : List (List D)) (v t : Int) : List (List D) := noneF 0 n.toNat (resS n.toNat r (startS n v t))
def G46 (ds : List D) : T (List D) := match ds with
  | [n, r, v, t] => .need (yes (0 ≤ n.I ∧ n.I < 1099511627776 ∧ 0 ≤ v.I ∧ v.I < n.I ∧ haltS n.I.toNat r.L (startS n.I v.I t.I))) (.leaf [.i n.I, .l (arrF n.I r.L v.I t.I)])
  | _ => .fail
end
end Go.Proofs.Ytgmefblkmidglaa
