/-
  What the functions of the least fuel compute.
-/
import Derived.Test.YtlofnkkokcihnaaCarSigF
namespace Go.Proofs.Ytlofnkkokcihnaa
open Go.Lite
noncomputable section

/-! ### Rows of integers -/
def mkI (xs : List Int) : List (List D) := xs.map fun n => [.i n]
def ints (l : List (List D)) : List Int := l.map fun c => ix c 0
def tabI (n : Nat) (f : Nat → Int) : List (List D) := mkI ((List.range n).map f)

/-! ### Legs -/
def leastOf (l : List (List D)) (j : Nat) : Int := ix (l.getD j []) 0
def mostOf (l : List (List D)) (j : Nat) : Int := ix (l.getD j []) 1
def fillOf (l : List (List D)) (j : Nat) : Int := ix (l.getD j []) 2

/-! ### The program's sums: what is needed up to a leg, the greatest need up to it, what must be filled in up to it, and before it -/
def needAt (l : List (List D)) (r s : Int) : Nat → Int
  | 0 => r - s
  | j + 1 => needAt l r s j + mostOf l j
def upAt (l : List (List D)) (r s : Int) : Nat → Int
  | 0 => 0
  | j + 1 => max (upAt l r s j) (needAt l r s (j + 1))
/-- Up to the leg j, of which there are k more. -/
def downAt (l : List (List D)) (r s : Int) : Nat → Nat → Int
  | 0, j => upAt l r s (j + 1)
  | k + 1, j => max (upAt l r s (j + 1)) (downAt l r s k (j + 1) - fillOf l (j + 1))
def sumAt (l : List (List D)) (r s : Int) (j : Nat) : Int := downAt l r s (l.length - 1 - j) j
def outAt (l : List (List D)) (r s : Int) : Nat → Int
  | 0 => sumAt l r s 0
  | j + 1 => sumAt l r s (j + 1) - sumAt l r s j
def beforeAt (l : List (List D)) (r s : Int) : Nat → Int
  | 0 => 0
  | j + 1 => sumAt l r s j
def upTo (l : List (List D)) (r s : Int) (i : Nat) : List (List D) := tabI l.length fun j => if j < i then upAt l r s (j + 1) else 0
def downTo (l : List (List D)) (r s : Int) (i : Int) : List (List D) := tabI l.length fun j => if i < (j : Int) then sumAt l r s j else upAt l r s (j + 1)
def outTo (l : List (List D)) (r s : Int) (i : Nat) : List (List D) := tabI l.length fun j => if j < i then outAt l r s j else 0
def sums (l : List (List D)) (r s : Int) : List (List D) := tabI l.length (sumAt l r s)
def outs (l : List (List D)) (r s : Int) : List (List D) := tabI l.length (outAt l r s)
def outOk (l : List (List D)) (r s : Int) (j : Nat) : Bool := decide (outAt l r s j ≤ fillOf l j)
def fuelOk (t r s : Int) (l : List (List D)) : Bool := allFrom (outOk l r s) 0 l.length && safeFrom t r l (outs l r s) 0 l.length s s

/-! ### The document's search -/
def lowFrom (l : List (List D)) (A : List Int) : Nat → Nat → Int → Int
  | _, 0, w => w
  | k, n + 1, w => lowFrom l A (k + 1) n (w + A.getD k 0 - mostOf l k)
def roomFrom (l : List (List D)) (A : List Int) (t : Int) (k i : Nat) : Nat → Nat → Int → Int → Int
  | _, 0, room, _ => room
  | j, n + 1, room, high => roomFrom l A t k i (j + 1) n (if k ≤ j ∧ j ≤ i then min room (t - (high + A.getD j 0)) else room) (high + A.getD j 0 - leastOf l j)
def roomAt (l : List (List D)) (A : List Int) (t s : Int) (k i : Nat) : Int := roomFrom l A t k i 0 l.length (fillOf l k - A.getD k 0) s
/-- The amounts and what is there at worst after the leg i, from the zone k - 1 back. -/
def fillFrom (l : List (List D)) (t r s : Int) (i : Nat) : Nat → List Int → Int → List Int × Int
  | 0, A, low => (A, low)
  | k + 1, A, low => if low < r then
      (if roomAt l A t s k i > 0 then fillFrom l t r s i k (A.set k (A.getD k 0 + min (roomAt l A t s k i) (r - low))) (low + min (roomAt l A t s k i) (r - low)) else fillFrom l t r s i k A low) else (A, low)
def fillAt (l : List (List D)) (t r s : Int) (A : List Int) (i : Nat) : List Int × Int := fillFrom l t r s i (i + 1) A (lowFrom l A 0 (i + 1) s)
def searchFrom (l : List (List D)) (t r s : Int) : Nat → Nat → List Int → Bool × List Int
  | _, 0, A => (true, A)
  | i, k + 1, A => if (fillAt l t r s A i).2 < r then (false, []) else searchFrom l t r s (i + 1) k (fillAt l t r s A i).1
def searchAll (l : List (List D)) (t r s : Int) : Bool × List Int := searchFrom l t r s 0 l.length (List.replicate l.length 0)
/-- Amounts that can be filled in. -/
def amts (l : List (List D)) (A : List Int) : Prop := A.length = l.length ∧ ∀ j, j < l.length → 0 ≤ A.getD j 0 ∧ A.getD j 0 ≤ fillOf l j
def tankP (t r s : Int) (l : List (List D)) : Prop := tankOk t r s l = true

/-! ### The functions -/
def G25 (ds : List D) : T (List D) := match ds with
  | [t, r, s, l] => .need (yes (l.L.length < big)) (.ite (tankOk t.I r.I s.I l.L) (.ite (fuelOk t.I r.I s.I l.L) (.leaf [.i 1, .i l.L.length, .i 0, .l (outs l.L r.I s.I)]) (.leaf [.i 0, .i 5])) (.leaf [.i 0, .i 2]))
  | _ => .fail
def G25_8 (ds : List D) : T (Ex × List D) := match ds with
  | [t, r, s, l, n, m, need, most, l', n', i, row] => .need (yes (tankP t.I r.I s.I l.L ∧ n.I = l.L.length ∧ m.I = l.L.length ∧ l'.L = l.L ∧ n'.I = l.L.length ∧ 0 ≤ i.I ∧ i.I ≤ l.L.length ∧
        need.I = needAt l.L r.I s.I i.I.toNat ∧ most.I = upAt l.L r.I s.I i.I.toNat ∧ row.L = upTo l.L r.I s.I i.I.toNat))
      (.leaf (.exit 0, [.i t.I, .i r.I, .i s.I, .l l.L, .i l.L.length, .i l.L.length, .l (upTo l.L r.I s.I l.L.length)]))
  | _ => .fail
def G25_15 (ds : List D) : T (Ex × List D) := match ds with
  | [t, r, s, l, n, m, i, row] => .need (yes (tankP t.I r.I s.I l.L ∧ n.I = l.L.length ∧ m.I = l.L.length ∧ -2 ≤ i.I ∧ i.I ≤ l.L.length - 2 ∧ row.L = downTo l.L r.I s.I i.I))
      (.leaf (.exit 2, [.i t.I, .i r.I, .i s.I, .l l.L, .i l.L.length, .i l.L.length, .l (sums l.L r.I s.I)]))
  | _ => .fail
def G25_21 (ds : List D) : T (Ex × List D) := match ds with
  | [t, r, s, l, m, b, m', n, i, row, row'] => .need (yes (tankP t.I r.I s.I l.L ∧ m.I = l.L.length ∧ m'.I = l.L.length ∧ n.I = l.L.length ∧ 0 ≤ i.I ∧ i.I ≤ l.L.length ∧ b.I = beforeAt l.L r.I s.I i.I.toNat ∧
        row.L = outTo l.L r.I s.I i.I.toNat ∧ row'.L = sums l.L r.I s.I))
      (.ite (allFrom (outOk l.L r.I s.I) i.I.toNat (l.L.length - i.I.toNat)) (.leaf (.exit 4, [.i t.I, .i r.I, .i s.I, .l l.L, .i l.L.length, .l (outs l.L r.I s.I)])) (.leaf (.ret, [.i 5])))
  | _ => .fail
def G27 (ds : List D) : T (List D) := match ds with
  | [t, r, s, l] => .need (yes (tankP t.I r.I s.I l.L)) (.ite (searchAll l.L t.I r.I s.I).1
      (.leaf [.i 0, .i l.L.length, .b (refSafeFrom t.I r.I l.L (mkI (searchAll l.L t.I r.I s.I).2) 0 l.L.length s.I s.I), .l (mkI (searchAll l.L t.I r.I s.I).2)]) (.leaf [.i 1, .b false]))
  | _ => .fail
def G27_3 (ds : List D) : T (Ex × List D) := match ds with
  | [t, r, s, l, m, i, row] => .need (yes (tankP t.I r.I s.I l.L ∧ m.I = l.L.length ∧ 0 ≤ i.I ∧ i.I ≤ l.L.length ∧ row.L = mkI (ints row.L) ∧ amts l.L (ints row.L)))
      (.ite (searchFrom l.L t.I r.I s.I i.I.toNat (l.L.length - i.I.toNat) (ints row.L)).1
        (.leaf (.exit 0, [.i t.I, .i r.I, .i s.I, .l l.L, .i l.L.length, .l (mkI (searchFrom l.L t.I r.I s.I i.I.toNat (l.L.length - i.I.toNat) (ints row.L)).2)])) (.leaf (.ret, [.b false])))
  | _ => .fail
def G27_7 (ds : List D) : T (Ex × List D) := match ds with
  | [t, r, s, l, m, i, w, k, row] => .need (yes (tankP t.I r.I s.I l.L ∧ m.I = l.L.length ∧ 0 ≤ i.I ∧ i.I < l.L.length ∧ 0 ≤ k.I ∧ k.I ≤ i.I + 1 ∧ -1000000 * k.I ≤ w.I ∧ w.I ≤ 1000000 * (k.I + 1) ∧ row.L = mkI (ints row.L) ∧ amts l.L (ints row.L)))
      (.leaf (.exit 2, [.i t.I, .i r.I, .i s.I, .l l.L, .i l.L.length, .i i.I, .i (lowFrom l.L (ints row.L) k.I.toNat (i.I.toNat + 1 - k.I.toNat) w.I), .l row.L]))
  | _ => .fail
def G27_11 (ds : List D) : T (Ex × List D) := match ds with
  | [t, r, s, l, m, i, w, k, row] => .need (yes (tankP t.I r.I s.I l.L ∧ m.I = l.L.length ∧ 0 ≤ i.I ∧ i.I < l.L.length ∧ -1 ≤ k.I ∧ k.I ≤ i.I ∧ -100000000 ≤ w.I ∧ w.I ≤ 100000000 ∧ row.L = mkI (ints row.L) ∧ amts l.L (ints row.L)))
      (.leaf (.exit 4, [.i t.I, .i r.I, .i s.I, .l l.L, .i l.L.length, .i i.I, .i (fillFrom l.L t.I r.I s.I i.I.toNat (k.I + 1).toNat (ints row.L) w.I).2, .l (mkI (fillFrom l.L t.I r.I s.I i.I.toNat (k.I + 1).toNat (ints row.L) w.I).1)]))
  | _ => .fail
def G27_16 (ds : List D) : T (Ex × List D) := match ds with
  | [t, r, s, l, m, i, w, k, room, high, j, row] => .need (yes (tankP t.I r.I s.I l.L ∧ m.I = l.L.length ∧ 0 ≤ i.I ∧ i.I < l.L.length ∧ 0 ≤ k.I ∧ k.I ≤ i.I ∧ 0 ≤ j.I ∧ j.I ≤ l.L.length ∧ -1000000 * j.I ≤ high.I ∧ high.I ≤ 1000000 * (j.I + 1) ∧
        row.L = mkI (ints row.L) ∧ amts l.L (ints row.L)))
      (.leaf (.exit 6, [.i t.I, .i r.I, .i s.I, .l l.L, .i l.L.length, .i i.I, .i w.I, .i k.I, .i (roomFrom l.L (ints row.L) t.I k.I.toNat i.I.toNat j.I.toNat (l.L.length - j.I.toNat) room.I high.I), .l row.L]))
  | _ => .fail
end
end Go.Proofs.Ytlofnkkokcihnaa
