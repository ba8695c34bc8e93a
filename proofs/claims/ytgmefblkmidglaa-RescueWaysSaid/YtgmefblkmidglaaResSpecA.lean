/-
  What a search computes: roads, heaps, and what is yielded.
-/
import Derived.Test.YtgmefblkmidglaaResSigA
import Derived.Test.YtgmefblkmidglaaResBase
namespace Go.Proofs.Ytgmefblkmidglaa
open Go.Lite
noncomputable section
def G45 (ds : List D) : T (List D) := match ds with
  | [n, a, b] => .leaf [.b (within n.I a.I b.I)]
  | _ => .fail

/-! ### When a road can be entered -/
def entF (l : List (List D)) (c : Int) : Nat → Nat → Int → Int
  | _, 0, s => s
  | i, k + 1, s => entF l c (i + 1) k (if s + c > ix (l.getD i []) 0 ∧ s < ix (l.getD i []) 1 then ix (l.getD i []) 1 else s)
def okC (l : List (List D)) : Prop := l.length < big ∧ ∀ j, (-1099511627776 ≤ ix (l.getD j []) 0 ∧ ix (l.getD j []) 0 ≤ 1099511627776) ∧ (-1099511627776 ≤ ix (l.getD j []) 1 ∧ ix (l.getD j []) 1 ≤ 1099511627776)
def okS (s : Int) : Prop := -1152921504606846976 ≤ s ∧ s ≤ 1152921504606846976
def okT (c : Int) : Prop := -1099511627776 ≤ c ∧ c ≤ 1099511627776
def G51 (ds : List D) : T (List D) := match ds with
  | [_, _, c, l, s] => .need (yes (okT c.I ∧ okS s.I ∧ okC l.L)) (.leaf [.i (entF l.L c.I 0 l.L.length s.I)])
  | _ => .fail
def G51_2 (ds : List D) : T (Ex × List D) := match ds with
  | [s, l, m, i, _, _, c, _] => .need (yes (okT c.I ∧ okS s.I ∧ okC l.L ∧ m.I = l.L.length ∧ 0 ≤ i.I ∧ i.I ≤ l.L.length)) (.leaf (.exit 0, [.i (entF l.L c.I i.I.toNat (l.L.length - i.I.toNat) s.I)]))
  | _ => .fail

/-! ### Heaps -/
def atR (l : List (List D)) (i : Nat) : Int := ix (l.getD i []) 1
def row2 (c : List D) : List D := [.i (ix c 0), .i (ix c 1)]
def swapR (l : List (List D)) (i j : Nat) : List (List D) := (l.set i (row2 (l.getD j []))).set j (row2 (l.getD i []))
def upF : Nat → List (List D) → Nat → List (List D)
  | 0, l, _ => l
  | f + 1, l, j => if (j - 1) / 2 = j ∨ ¬ atR l j < atR l ((j - 1) / 2) then l else upF f (swapR l ((j - 1) / 2) j) ((j - 1) / 2)
def kidR (l : List (List D)) (m i : Nat) : Nat := if 2 * i + 2 < m ∧ atR l (2 * i + 2) < atR l (2 * i + 1) then 2 * i + 2 else 2 * i + 1
def downF : Nat → List (List D) → Nat → Nat → List (List D) × Nat
  | 0, l, _, i => (l, i)
  | f + 1, l, m, i => if 2 * i + 1 ≥ m ∨ ¬ atR l (kidR l m i) < atR l i then (l, i) else downF f (swapR l i (kidR l m i)) m (kidR l m i)
def G123 (ds : List D) : T (List D) := match ds with
  | [l] => .leaf [.i l.L.length]
  | _ => .fail
def G124 (ds : List D) : T (List D) := match ds with
  | [l, i, j] => .need (yes ((0 ≤ i.I ∧ i.I < l.L.length) ∧ 0 ≤ j.I ∧ j.I < l.L.length)) (.leaf [.b (decide (atR l.L i.I.toNat < atR l.L j.I.toNat))])
  | _ => .fail
def G126 (ds : List D) : T (List D) := match ds with
  | [n, i, j, l] => .need (yes ((0 ≤ i.I ∧ i.I < (n.I.toNat : Int)) ∧ (0 ≤ j.I ∧ j.I < (n.I.toNat : Int)) ∧ n.I.toNat ≤ l.L.length)) (.leaf [.l (swapR l.L i.I.toNat j.I.toNat)])
  | _ => .fail
def G131 (ds : List D) : T (List D) := match ds with
  | [n, l] => .need (yes (1 ≤ n.I.toNat ∧ n.I.toNat ≤ l.L.length ∧ n.I.toNat < 1099511627776)) (.leaf [.i (ix (l.L.getD (n.I.toNat - 1) []) 0), .i (ix (l.L.getD (n.I.toNat - 1) []) 1), .i ((n.I.toNat - 1 : Nat) : Int), .l l.L])
  | _ => .fail
def G125 (ds : List D) : T (List D) := match ds with
  | [v, t, n, l] => .need (yes (n.I.toNat ≤ l.L.length ∧ n.I.toNat < 1099511627776)) (.leaf [.i ((n.I.toNat + 1 : Nat) : Int), .l (l.L.take n.I.toNat ++ [[.i v.I, .i t.I]])])
  | _ => .fail
def G101 (ds : List D) : T (List D) := match ds with
  | [j, n, l] => .need (yes (0 ≤ j.I ∧ j.I < (n.I.toNat : Int) ∧ n.I.toNat ≤ l.L.length ∧ n.I.toNat < 2199023255552)) (.leaf [.i (n.I.toNat : Int), .l (upF (j.I.toNat + 1) l.L j.I.toNat)])
  | _ => .fail
def G101_0 (ds : List D) : T (Ex × List D) := match ds with
  | [j, n, l] => .need (yes (0 ≤ j.I ∧ j.I < (n.I.toNat : Int) ∧ n.I.toNat ≤ l.L.length ∧ n.I.toNat < 2199023255552)) (.leaf (.exit 0, [.i (n.I.toNat : Int), .l (upF (j.I.toNat + 1) l.L j.I.toNat)]))
  | _ => .fail
def G129 (ds : List D) : T (List D) := match ds with
  | [s, m, n, l] => .need (yes (0 ≤ s.I ∧ s.I ≤ m.I ∧ m.I ≤ (n.I.toNat : Int) ∧ n.I.toNat ≤ l.L.length ∧ n.I.toNat < 2199023255552))
      (.leaf [.b (decide (((downF (m.I.toNat + 1) l.L m.I.toNat s.I.toNat).2 : Int) > s.I)), .i (n.I.toNat : Int), .l (downF (m.I.toNat + 1) l.L m.I.toNat s.I.toNat).1])
  | _ => .fail
def G129_2 (ds : List D) : T (Ex × List D) := match ds with
  | [s, m, i, n, l] => .need (yes (0 ≤ i.I ∧ i.I ≤ m.I ∧ m.I ≤ (n.I.toNat : Int) ∧ n.I.toNat ≤ l.L.length ∧ n.I.toNat < 2199023255552))
      (.leaf (.exit 0, [.i s.I, .i ((downF (m.I.toNat + 1) l.L m.I.toNat i.I.toNat).2 : Int), .i (n.I.toNat : Int), .l (downF (m.I.toNat + 1) l.L m.I.toNat i.I.toNat).1]))
  | _ => .fail
def pushR (l : List (List D)) (n : Nat) (v t : Int) : List (List D) := upF (n + 1) (l.take n ++ [[.i v, .i t]]) n
def popR (l : List (List D)) (n : Nat) : List (List D) := (downF n (swapR l 0 (n - 1)) (n - 1) 0).1
def G93 (ds : List D) : T (List D) := match ds with
  | [v, t, n, l] => .need (yes (n.I.toNat ≤ l.L.length ∧ n.I.toNat < 1099511627776)) (.leaf [.i ((n.I.toNat + 1 : Nat) : Int), .l (pushR l.L n.I.toNat v.I t.I)])
  | _ => .fail
def G128 (ds : List D) : T (List D) := match ds with
  | [n, l] => .need (yes (1 ≤ n.I.toNat ∧ n.I.toNat ≤ l.L.length ∧ n.I.toNat < 1099511627776))
      (.leaf [.i (ix ((popR l.L n.I.toNat).getD (n.I.toNat - 1) []) 0), .i (ix ((popR l.L n.I.toNat).getD (n.I.toNat - 1) []) 1), .i ((n.I.toNat - 1 : Nat) : Int), .l (popR l.L n.I.toNat)])
  | _ => .fail
def G127 : List D → T (List D) := G128

/-! ### What is yielded from a place -/
def okR (r : List (List D)) : Prop := r.length < 1099511627776 ∧ ∀ i, i < r.length → okT (ix (r.getD i []) 2) ∧ okC (lx (r.getD i []) 3)
def entW (c : List D) (t : Int) : Int := entF (lx c 3) (ix c 2) 0 (lx c 3).length t
def nextF (r : List (List D)) (v t : Int) : Nat → Nat → List (List D)
  | _, 0 => []
  | i, k + 1 => if ix (r.getD i []) 0 = v then [.i (ix (r.getD i []) 1), .i (entW (r.getD i []) t + ix (r.getD i []) 2)] :: nextF r v t (i + 1) k else nextF r v t (i + 1) k
def G74 (ds : List D) : T (List D) := match ds with
  | [v, t, n, r] => .leaf [.i n.I, .l r.L, .i v.I, .i t.I]
  | _ => .fail
def G75 (ds : List D) : T (List (List D)) := match ds with
  | [_, r, v, t] => .need (yes (okR r.L ∧ okS t.I)) (.leaf (nextF r.L v.I t.I 0 r.L.length))
  | _ => .fail
def G75_1 (q : Nat) (ds : List D) : T (Ex × List D) := match ds with
  | [g, r, m, i, v, t] => .need (yes (okR r.L ∧ okS t.I ∧ m.I = r.L.length ∧ 0 ≤ i.I ∧ i.I ≤ r.L.length ∧ g.L.length ≤ q))
      (.ite (decide (q < g.L.length + (nextF r.L v.I t.I i.I.toNat (r.L.length - i.I.toNat)).length))
        (.leaf (.ret, [.l (g.L ++ (nextF r.L v.I t.I i.I.toNat (r.L.length - i.I.toNat)).take (q + 1 - g.L.length)), .i v.I, .i t.I]))
        (.leaf (.exit 0, [.l (g.L ++ nextF r.L v.I t.I i.I.toNat (r.L.length - i.I.toNat)), .i v.I, .i t.I])))
  | _ => .fail
end
end Go.Proofs.Ytgmefblkmidglaa
