/-
  Ways, plainly: the first hop that still comes in time.
-/
import Derived.Test.YtgmefblkmidglaaResSpecE
namespace Go.Proofs.Ytgmefblkmidglaa
open Go.Lite
noncomputable section
/-- The first number from k on. -/
def seekF (p : Nat → Bool) : Nat → Nat → Nat
  | 0, k => k
  | f + 1, k => if p k then k else seekF p f (k + 1)
/-- The first road of r from i on that p takes. -/
def roadF (p : Nat → Bool) : Nat → Nat → Option Nat
  | _, 0 => none
  | i, m + 1 => if p i then some i else roadF p (i + 1) m
/-- A way of so many hops; q l v t: with l hops from v at t one still comes in time. -/
def wayF (r : List (List D)) (q : Nat → Int → Int → Bool) : Nat → Int → Int → List (List D)
  | 0, _, _ => []
  | l + 1, v, t =>
    match roadF (fun i => decide (ix (r.getD i []) 0 = v) && q l (ix (r.getD i []) 1) (entW (r.getD i []) t + ix (r.getD i []) 2)) 0 r.length with
    | none => wayF r q l v t
    | some i => [.i i, .i (entW (r.getD i []) t)] :: wayF r q l (ix (r.getD i []) 1) (entW (r.getD i []) t + ix (r.getD i []) 2)
def qE (n : Int) (r : List (List D)) (to best : Int) (l : Nat) (v t : Int) : Bool := rg (exactF n r l (startE n v t)) to.toNat == best
def qR (n : Int) (r : List (List D)) (to best : Int) (l : Nat) (v t : Int) : Bool := rg (reachF r l (beginF n v t)) to.toNat == best
end
end Go.Proofs.Ytgmefblkmidglaa
