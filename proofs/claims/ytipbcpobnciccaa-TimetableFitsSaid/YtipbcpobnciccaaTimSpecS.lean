/-
  Tables that keep a plan.
-/
import Derived.Test.YtipbcpobnciccaaTimSigS
import Derived.Test.YtipbcpobnciccaaTimSpecR
namespace Go.Proofs.Ytipbcpobnciccaa
open Go.Lite
noncomputable section
def G26 (ds : List D) : T (List D) := match ds with
  | [c, f, w] => .leaf [.b (planB c.I f.I w.L)]
  | _ => .fail
def G26_4 (ds : List D) : T (Ex × List D) := match ds with
  | [i, _, _, w] => .need (yes (w.L.length ≤ 60 ∧ 0 ≤ i.I ∧ i.I ≤ w.L.length)) (.ite (allFrom (wayL w.L) i.I.toNat (w.L.length - i.I.toNat)) (.leaf (.exit 0, [])) (.leaf (.ret, [.b false])))
  | _ => .fail
def G26_12 (ds : List D) : T (Ex × List D) := match ds with
  | [i, k, c, f, w, _, _, _, _, _, _, _, h] => .need (yes (h.L.length ≤ 10 ∧ 0 ≤ k.I ∧ k.I ≤ h.L.length)) (.ite (allFrom (hourB h.L) k.I.toNat (h.L.length - k.I.toNat)) (.leaf (.exit 2, [.i i.I, .i c.I, .i f.I, .l w.L])) (.leaf (.ret, [.b false])))
  | _ => .fail
/-- When the next control is due after a road. -/
def nextB (c : Int) (w du : List (List D)) (j : Nat) : Bool :=
  if j + 1 < w.length ∧ bx (w.getD (j + 1) []) 4 = true then decide (rg du j + ix (w.getD j []) 0 + spanF c (w.getD j []) + ix (w.getD (j + 1) []) 5 ≤ rg du (j + 1) ∧ rg du (j + 1) ≤ rg du j + ix (w.getD j []) 0 + spanF c (w.getD j []) + ix (w.getD (j + 1) []) 6)
  else decide (rg du (j + 1) = rg du j + ix (w.getD j []) 0)
def nextR (c : Int) (w du : List (List D)) (j : Nat) : Bool := j == 0 || nextB c w du (j - 1)
def choB (h : List (List D)) (cl op ch : Int) : Bool :=
  if h.length = 0 then decide (ch = -1) else decide ((0 ≤ ch ∧ ch ≤ (h.length : Int) - 1) ∧ ix (h.getD ch.toNat []) 0 ≤ cl ∧ op ≤ ix (h.getD ch.toNat []) 1 ∧ op - cl ≤ ix (h.getD ch.toNat []) 2)
def restB (c : Int) (w du cl op ch : List (List D)) (j : Nat) : Bool := decide (rg cl j ≤ rg du j - ix (w.getD j []) 1 ∧ rg du j + busyF c (w.getD j []) ≤ rg op j) && choB (lx (w.getD j []) 7) (rg cl j) (rg op j) (rg ch j)
def fitH (f : Int) (du cl op ch : List (List D)) (r : Nat) : Bool := timedB du (r + 1) && (timedB cl r && (timedB op r && decide (ch.length = r ∧ f ≤ rg du 0)))
def fitsR (c f : Int) (w du cl op ch : List (List D)) : Bool := fitH f du cl op ch w.length && (allFrom (nextR c w du) 0 (w.length + 1) && allFrom (restB c w du cl op ch) 0 w.length)
def fitsP (c f : Int) (w du cl op ch : List (List D)) : Bool := planB c f w && (fitH f du cl op ch w.length && allFrom (fun j => nextB c w du j && restB c w du cl op ch j) 0 w.length)
def okT (c f : Int) (w du cl op ch : List (List D)) : Prop := planB c f w = true ∧ fitH f du cl op ch w.length = true
def G27 (ds : List D) : T (List D) := match ds with
  | [c, f, w, du, cl, op, ch] => .need (yes (planB c.I f.I w.L = true ∧ du.L.length < big ∧ cl.L.length < big ∧ op.L.length < big ∧ ch.L.length < big)) (.leaf [.b (fitsR c.I f.I w.L du.L cl.L op.L ch.L)])
  | _ => .fail
def G27_5 (ds : List D) : T (Ex × List D) := match ds with
  | [r, j, c, f, w, du, cl, op, ch] => .need (yes (okT c.I f.I w.L du.L cl.L op.L ch.L ∧ r.I = w.L.length ∧ 0 ≤ j.I ∧ j.I ≤ r.I + 1))
      (.ite (allFrom (nextR c.I w.L du.L) j.I.toNat (w.L.length + 1 - j.I.toNat)) (.leaf (.exit 0, [.i r.I, .i c.I, .i f.I, .l w.L, .l du.L, .l cl.L, .l op.L, .l ch.L])) (.leaf (.ret, [.b false])))
  | _ => .fail
def G27_15 (ds : List D) : T (Ex × List D) := match ds with
  | [r, j, c, f, w, du, cl, op, ch] => .need (yes (okT c.I f.I w.L du.L cl.L op.L ch.L ∧ r.I = w.L.length ∧ 0 ≤ j.I ∧ j.I ≤ r.I))
      (.ite (allFrom (restB c.I w.L du.L cl.L op.L ch.L) j.I.toNat (w.L.length - j.I.toNat)) (.leaf (.exit 2, [])) (.leaf (.ret, [.b false])))
  | _ => .fail
def dueB (c f : Int) (w du : List (List D)) (car at' : Int) : Bool := planB c f w && (timedB du (w.length + 1) && decide ((0 ≤ car ∧ car ≤ c - 1) ∧ 0 ≤ at' ∧ at' ≤ (w.length : Int) - 1))
def dueF (w du : List (List D)) (car : Int) (k : Nat) : Int := rg du k + car * ix (w.getD k []) 3
def G38 (ds : List D) : T (List D) := match ds with
  | [c, f, w, du, _, _, _, car, k] => .need (yes (du.L.length < big)) (.ite (dueB c.I f.I w.L du.L car.I k.I) (.leaf [.i (dueF w.L du.L car.I k.I.toNat), .i (dueF w.L du.L car.I k.I.toNat + ix (w.L.getD k.I.toNat []) 0), .i 0]) (.leaf [.i 0, .i 0, .i 2]))
  | _ => .fail
end
end Go.Proofs.Ytipbcpobnciccaa
