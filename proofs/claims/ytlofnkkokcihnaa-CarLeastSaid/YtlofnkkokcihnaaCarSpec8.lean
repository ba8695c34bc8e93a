/-
  The loops of the theorem of fuel.
-/
import Derived.Test.YtlofnkkokcihnaaCarSig8
import Derived.Test.YtlofnkkokcihnaaCarSpec3
import Derived.Test.YtlofnkkokcihnaaCarSpecF
namespace Go.Proofs.Ytlofnkkokcihnaa
open Go.Lite
noncomputable section
/-- The tank after so many legs at worst, and at best. -/
def lowAt (l am : List (List D)) (s : Int) : Nat → Int
  | 0 => s
  | j + 1 => lowAt l am s j + ix (am.getD j []) 0 - mostOf l j
def highAt (l am : List (List D)) (s : Int) : Nat → Int
  | 0 => s
  | j + 1 => highAt l am s j + ix (am.getD j []) 0 - leastOf l j
/-- Safe all along. -/
def SafeP (t r s : Int) (l am : List (List D)) : Prop := am.length = l.length ∧ ∀ j, j < l.length → amOk l am j = true ∧ highAt l am s j + ix (am.getD j []) 0 ≤ t ∧ r ≤ lowAt l am s (j + 1)
def G8_11 (ds : List D) : T (Ex × List D) := match ds with
  | [t, r, l, o, _mix, is, n, v, i, row] => .need (yes (∃ s, tankP t.I r.I s l.L ∧ row.L.length = n.I ∧ SafeP t.I r.I s l.L row.L ∧ 0 ≤ i.I ∧ i.I ≤ l.L.length ∧ lowAt l.L row.L s i.I.toNat ≤ v.I ∧ v.I ≤ highAt l.L row.L s i.I.toNat))
      (.leaf (.exit 0, [.l o.L, .b is.B, .i n.I, .l row.L]))
  | _ => .fail
/-- The last place at which two lists differ: the first one has more there. -/
def moreAt (o l : List (List D)) : Nat → Bool
  | 0 => true
  | j + 1 => if ix (l.getD j []) 0 = ix (o.getD j []) 0 then moreAt o l j else decide (ix (l.getD j []) 0 > ix (o.getD j []) 0)
def G8_27 (ds : List D) : T (Ex × List D) := match ds with
  | [o, n, i, row] => .need (yes (n.I = row.L.length ∧ o.L.length = row.L.length ∧ row.L.length < big ∧ -1 ≤ i.I ∧ i.I < row.L.length))
      (.ite (allFrom (sameAt row.L o.L) 0 (i.I + 1).toNat) (.leaf (.exit 2, [])) (.leaf (.ret, [.b (moreAt o.L row.L (i.I + 1).toNat)])))
  | _ => .fail
end
end Go.Proofs.Ytlofnkkokcihnaa
