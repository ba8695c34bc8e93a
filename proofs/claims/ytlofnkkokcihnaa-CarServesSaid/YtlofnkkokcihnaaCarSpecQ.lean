/-
  What the functions of plans of tyres compute.
-/
import Derived.Test.YtlofnkkokcihnaaCarSigQ
import Derived.Test.YtlofnkkokcihnaaCarSpecF
import Derived.Test.YtlofnkkokcihnaaCarSpecL
namespace Go.Proofs.Ytlofnkkokcihnaa
open Go.Lite
noncomputable section

/-! ### Compounds and loops -/
def compC (c : List D) : Bool := compoundOk (lx c 0) (lx c 1) (lx c 2) (ix c 3)
def shortC (c : List D) : Bool := shortOk (lx c 0) (lx c 1) (lx c 2)
def smallC (c : List D) : Prop := smallRows (lx c 0) ∧ smallRows (lx c 1) ∧ (lx c 2).length < big
def smallCs (cs : List (List D)) : Prop := cs.length < big ∧ ∀ j, j < cs.length → smallC (cs.getD j [])
def surfs (cs : List (List D)) : Int := ((lx (cs.getD 0 []) 0).length : Int)
def kindAt (n : Int) (cs : List (List D)) (j : Nat) : Bool := compC (cs.getD j []) && decide (((lx (cs.getD j []) 0).length : Int) = n)
def loopAt (n : Int) (ls : List (List D)) (j : Nat) : Bool := loopOk (rowAt ls j) n
def fewC (cs : List (List D)) (j : Nat) : Bool := shortC (cs.getD j [])
def fewL (ls : List (List D)) (j : Nat) : Bool := decide ((rowAt ls j).length ≤ 40)
def fewOk (cs ls : List (List D)) : Bool := decide (cs.length ≤ 10) && decide (ls.length ≤ 10) && allFrom (fewC cs) 0 cs.length && allFrom (fewL ls) 0 ls.length
def taskOk (cs ls : List (List D)) (n : Int) : Bool := within cs.length 1 8 && decide (ls.length ≤ 8) && within n 1 8 && allFrom (kindAt (surfs cs) cs) 0 cs.length && allFrom (loopAt (surfs cs) ls) 0 ls.length
def TaskP (cs ls : List (List D)) : Prop := ∃ n, taskOk cs ls n = true

/-! ### Sets -/
def drv (c : List D) (l : List (List D)) (w : Int) : Int × Int × Bool := drive (lx c 0) (lx c 1) (lx c 2) (ix c 3) l w
/-- The loss of a set, and whether it lasts. -/
def usedFrom (c : List D) (ls sets : List (List D)) (set : Int) : Nat → Nat → Int → Int → Int × Bool
  | _, 0, _, s => (s, true)
  | i, k + 1, w, s => if ix (sets.getD i []) 0 = set then
      (if (drv c (rowAt ls i) w).2.2 then usedFrom c ls sets set (i + 1) k (drv c (rowAt ls i) w).1 (s + (drv c (rowAt ls i) w).2.1) else (0, false)) else usedFrom c ls sets set (i + 1) k w s
def usedAll (c : List D) (ls sets : List (List D)) (set : Int) : Int × Bool := usedFrom c ls sets set 0 ls.length 0 0
/-- How many sets there are; false: they are not numbered in the order of their first use. -/
def countFrom (sets : List (List D)) : Nat → Nat → Int → Int × Bool
  | _, 0, n => (n, true)
  | i, k + 1, n => if within (ix (sets.getD i []) 0) 0 n then countFrom sets (i + 1) k (max n (ix (sets.getD i []) 0 + 1)) else (0, false)
def sumsFrom (cs ls sets comps : List (List D)) : Nat → Nat → Int → Int × Bool
  | _, 0, s => (s, true)
  | i, k + 1, s => if within (ix (comps.getD i []) 0) 0 (cs.length - 1) then
      (if (usedAll (cs.getD (ix (comps.getD i []) 0).toNat []) ls sets i).2 then sumsFrom cs ls sets comps (i + 1) k (s + (usedAll (cs.getD (ix (comps.getD i []) 0).toNat []) ls sets i).1) else (0, false)) else (0, false)
def possC (cs ls sets comps : List (List D)) (n : Int) : Int × Bool :=
  if taskOk cs ls n && decide ((comps.length : Int) ≤ n) && decide (sets.length = ls.length) && (countFrom sets 0 sets.length 0).2 && decide ((countFrom sets 0 sets.length 0).1 = comps.length)
  then sumsFrom cs ls sets comps 0 comps.length 0 else (0, false)
/-! ### The document's way -/
def compAt (cs comps : List (List D)) (j : Nat) : Bool := within (ix (comps.getD j []) 0) 0 (cs.length - 1)
def kindOfSet (cs comps : List (List D)) (s : Int) : List D := cs.getD (ix (comps.getD s.toNat []) 0).toNat []
/-- The loss, how many sets are used, and whether all is possible. -/
def refFrom (cs ls sets comps : List (List D)) : Nat → Nat → Int → Int → List Int → Int × Int × Bool
  | _, 0, used, loss, _ => (used, loss, true)
  | i, k + 1, used, loss, W => if 0 ≤ ix (sets.getD i []) 0 ∧ ix (sets.getD i []) 0 ≤ used ∧ ix (sets.getD i []) 0 < comps.length ∧
        W.getD (ix (sets.getD i []) 0).toNat 0 + useFrom (lx (kindOfSet cs comps (ix (sets.getD i []) 0)) 2) (rowAt ls i) 0 (rowAt ls i).length ≤ 1000000 then
      refFrom cs ls sets comps (i + 1) k (if ix (sets.getD i []) 0 = used then used + 1 else used) (loss + (drv (kindOfSet cs comps (ix (sets.getD i []) 0)) (rowAt ls i) (W.getD (ix (sets.getD i []) 0).toNat 0)).2.1)
        (W.set (ix (sets.getD i []) 0).toNat (drv (kindOfSet cs comps (ix (sets.getD i []) 0)) (rowAt ls i) (W.getD (ix (sets.getD i []) 0).toNat 0)).1)
    else (0, 0, false)
def refAll (cs ls sets comps : List (List D)) : Int × Int × Bool := refFrom cs ls sets comps 0 ls.length 0 0 (List.replicate comps.length 0)
def possR (cs ls sets comps : List (List D)) (n : Int) : Int × Bool :=
  if decide ((comps.length : Int) ≤ n) && decide (sets.length = ls.length) && allFrom (compAt cs comps) 0 comps.length && (refAll cs ls sets comps).2.2 && decide ((refAll cs ls sets comps).1 = comps.length) then ((refAll cs ls sets comps).2.1, true) else (0, false)

/-! ### The functions -/
def G20 (ds : List D) : T (List D) := match ds with
  | [cs, ls] => .leaf [.b (fewOk cs.L ls.L)]
  | _ => .fail
def G20_4 (ds : List D) : T (Ex × List D) := match ds with
  | [cs, ls, i] => .need (yes (cs.L.length ≤ 10 ∧ 0 ≤ i.I ∧ i.I ≤ cs.L.length)) (.ite (allFrom (fewC cs.L) i.I.toNat (cs.L.length - i.I.toNat)) (.leaf (.exit 0, [.l ls.L])) (.leaf (.ret, [.b false])))
  | _ => .fail
def G20_9 (ds : List D) : T (Ex × List D) := match ds with
  | [ls, i] => .need (yes (ls.L.length ≤ 10 ∧ 0 ≤ i.I ∧ i.I ≤ ls.L.length)) (.ite (allFrom (fewL ls.L) i.I.toNat (ls.L.length - i.I.toNat)) (.leaf (.exit 2, [])) (.leaf (.ret, [.b false])))
  | _ => .fail
def G81 (ds : List D) : T (List D) := match ds with
  | [a, b, c, d, cs] => .need (yes (smallRows a.L ∧ smallRows b.L ∧ c.L.length < big ∧ 0 < cs.L.length)) (.leaf [.b (!(compoundOk a.L b.L c.L d.I && decide ((a.L.length : Int) = surfs cs.L)))])
  | _ => .fail
def G100 (ds : List D) : T (List D) := match ds with
  | [cs, c'] => .need (yes (smallCs cs.L ∧ 0 < c'.L.length)) (.leaf [.i (firstFrom (fun j => !kindAt (surfs c'.L) cs.L j) 0 cs.L.length)])
  | _ => .fail
def G100_2 (ds : List D) : T (Ex × List D) := match ds with
  | [cs, c', n, i] => .need (yes (smallCs cs.L ∧ 0 < c'.L.length ∧ n.I = cs.L.length ∧ 0 ≤ i.I ∧ i.I ≤ n.I))
      (.ite (decide (firstFrom (fun j => !kindAt (surfs c'.L) cs.L j) i.I.toNat (cs.L.length - i.I.toNat) ≥ 0)) (.leaf (.ret, [.i (firstFrom (fun j => !kindAt (surfs c'.L) cs.L j) i.I.toNat (cs.L.length - i.I.toNat))])) (.leaf (.exit 0, [])))
  | _ => .fail
def G80 (ds : List D) : T (List D) := match ds with
  | [cs, c'] => .need (yes (smallCs cs.L ∧ 0 < c'.L.length)) (.leaf [.b (!allFrom (kindAt (surfs c'.L) cs.L) 0 cs.L.length)])
  | _ => .fail
def G83 (ds : List D) : T (List D) := match ds with
  | [l, cs] => .need (yes (0 < cs.L.length ∧ fewN (surfs cs.L))) (.leaf [.b (!loopOk l.L (surfs cs.L))])
  | _ => .fail
def G101 (ds : List D) : T (List D) := match ds with
  | [ls, cs] => .need (yes (ls.L.length < big ∧ 0 < cs.L.length ∧ fewN (surfs cs.L))) (.leaf [.i (firstFrom (fun j => !loopAt (surfs cs.L) ls.L j) 0 ls.L.length)])
  | _ => .fail
def G101_2 (ds : List D) : T (Ex × List D) := match ds with
  | [ls, cs, n, i] => .need (yes (ls.L.length < big ∧ 0 < cs.L.length ∧ fewN (surfs cs.L) ∧ n.I = ls.L.length ∧ 0 ≤ i.I ∧ i.I ≤ n.I))
      (.ite (decide (firstFrom (fun j => !loopAt (surfs cs.L) ls.L j) i.I.toNat (ls.L.length - i.I.toNat) ≥ 0)) (.leaf (.ret, [.i (firstFrom (fun j => !loopAt (surfs cs.L) ls.L j) i.I.toNat (ls.L.length - i.I.toNat))])) (.leaf (.exit 0, [])))
  | _ => .fail
def G82 (ds : List D) : T (List D) := match ds with
  | [ls, cs] => .need (yes (ls.L.length < big ∧ 0 < cs.L.length ∧ fewN (surfs cs.L))) (.leaf [.b (!allFrom (loopAt (surfs cs.L) ls.L) 0 ls.L.length)])
  | _ => .fail
def G52 (ds : List D) : T (List D) := match ds with
  | [cs, ls, n] => .need (yes (smallCs cs.L)) (.leaf [.b (taskOk cs.L ls.L n.I)])
  | _ => .fail
def G54 (ds : List D) : T (List D) := match ds with
  | [a, b, c, d, ls, sets, set] => .need (yes (compoundOk a.L b.L c.L d.I = true ∧ ls.L.length ≤ 8 ∧ sets.L.length = ls.L.length ∧ allFrom (loopAt a.L.length ls.L) 0 ls.L.length = true))
      (.leaf [.i (usedAll [.l a.L, .l b.L, .l c.L, .i d.I] ls.L sets.L set.I).1, .b (usedAll [.l a.L, .l b.L, .l c.L, .i d.I] ls.L sets.L set.I).2])
  | _ => .fail
def G54_3 (ds : List D) : T (Ex × List D) := match ds with
  | [sets, set, sum, wear, ls, n, i, a, b, c, d] => .need (yes (compoundOk a.L b.L c.L d.I = true ∧ ls.L.length ≤ 8 ∧ sets.L.length = ls.L.length ∧ allFrom (loopAt a.L.length ls.L) 0 ls.L.length = true ∧ n.I = ls.L.length ∧ 0 ≤ i.I ∧ i.I ≤ n.I ∧
        0 ≤ wear.I ∧ wear.I ≤ 1000000 ∧ 0 ≤ sum.I ∧ sum.I ≤ 3000000 * i.I))
      (.ite (usedFrom [.l a.L, .l b.L, .l c.L, .i d.I] ls.L sets.L set.I i.I.toNat (ls.L.length - i.I.toNat) wear.I sum.I).2 (.leaf (.exit 0, [.i (usedFrom [.l a.L, .l b.L, .l c.L, .i d.I] ls.L sets.L set.I i.I.toNat (ls.L.length - i.I.toNat) wear.I sum.I).1])) (.leaf (.ret, [.i 0, .b false])))
  | _ => .fail
def G22 (ds : List D) : T (List D) := match ds with
  | [cs, ls, n] => .need (yes (smallCs cs.L ∧ ∀ j, j < ls.L.length → (rowAt ls.L j).length < lim)) (.leaf [.b (taskOk cs.L ls.L n.I)])
  | _ => .fail
def G22_4 (ds : List D) : T (Ex × List D) := match ds with
  | [cs, ls, i] => .need (yes (smallCs cs.L ∧ 0 < cs.L.length ∧ 0 ≤ i.I ∧ i.I ≤ cs.L.length)) (.ite (allFrom (kindAt (surfs cs.L) cs.L) i.I.toNat (cs.L.length - i.I.toNat)) (.leaf (.exit 0, [.l cs.L, .l ls.L])) (.leaf (.ret, [.b false])))
  | _ => .fail
def G22_9 (ds : List D) : T (Ex × List D) := match ds with
  | [cs, ls, i] => .need (yes (0 < cs.L.length ∧ fewN (surfs cs.L) ∧ ls.L.length ≤ 8 ∧ (∀ j, j < ls.L.length → (rowAt ls.L j).length < lim) ∧ 0 ≤ i.I ∧ i.I ≤ ls.L.length)) (.ite (allFrom (loopAt (surfs cs.L) ls.L) i.I.toNat (ls.L.length - i.I.toNat)) (.leaf (.exit 2, [])) (.leaf (.ret, [.b false])))
  | _ => .fail
def G40 (ds : List D) : T (List D) := match ds with
  | [cs, ls, n, sets, comps, _] => .need (yes (smallCs cs.L)) (.leaf [.i (possC cs.L ls.L sets.L comps.L n.I).1, .b (possC cs.L ls.L sets.L comps.L n.I).2])
  | _ => .fail
def G40_5 (ds : List D) : T (Ex × List D) := match ds with
  | [cs, ls, n, sets', m, i, sets, comps, p] => .need (yes (sets.L.length ≤ 8 ∧ sets'.L = sets.L ∧ m.I = sets.L.length ∧ 0 ≤ i.I ∧ i.I ≤ m.I ∧ 0 ≤ n.I ∧ n.I ≤ i.I))
      (.ite (countFrom sets.L i.I.toNat (sets.L.length - i.I.toNat) n.I).2 (.leaf (.exit 0, [.l cs.L, .l ls.L, .i (countFrom sets.L i.I.toNat (sets.L.length - i.I.toNat) n.I).1, .l sets.L, .l comps.L, .i p.I])) (.leaf (.ret, [.i 0, .b false])))
  | _ => .fail
def G40_15 (ds : List D) : T (Ex × List D) := match ds with
  | [cs, ls, s, comps', m, i, sets, comps, _] => .need (yes (TaskP cs.L ls.L ∧ sets.L.length = ls.L.length ∧ comps'.L = comps.L ∧ m.I = comps.L.length ∧ comps.L.length ≤ 8 ∧ 0 ≤ i.I ∧ i.I ≤ m.I ∧ 0 ≤ s.I ∧ s.I ≤ 24000000 * i.I))
      (.ite (sumsFrom cs.L ls.L sets.L comps.L i.I.toNat (comps.L.length - i.I.toNat) s.I).2 (.leaf (.exit 2, [.i (sumsFrom cs.L ls.L sets.L comps.L i.I.toNat (comps.L.length - i.I.toNat) s.I).1])) (.leaf (.ret, [.i 0, .b false])))
  | _ => .fail
def G41 (ds : List D) : T (List D) := match ds with
  | [cs, ls, n, sets, comps, _] => .need (yes (taskOk cs.L ls.L n.I = true)) (.leaf [.i (possR cs.L ls.L sets.L comps.L n.I).1, .b (possR cs.L ls.L sets.L comps.L n.I).2])
  | _ => .fail
def G41_4 (ds : List D) : T (Ex × List D) := match ds with
  | [cs, ls, i, sets, comps, p] => .need (yes (cs.L.length ≤ 8 ∧ comps.L.length ≤ 8 ∧ 0 ≤ i.I ∧ i.I ≤ comps.L.length))
      (.ite (allFrom (compAt cs.L comps.L) i.I.toNat (comps.L.length - i.I.toNat)) (.leaf (.exit 0, [.l cs.L, .l ls.L, .l sets.L, .l comps.L, .i p.I])) (.leaf (.ret, [.i 0, .b false])))
  | _ => .fail
def G41_11 (ds : List D) : T (Ex × List D) := match ds with
  | [cs, ls, used, loss, m, i, sets, comps, p, row] => .need (yes (TaskP cs.L ls.L ∧ sets.L.length = ls.L.length ∧ comps.L.length ≤ 8 ∧ allFrom (compAt cs.L comps.L) 0 comps.L.length = true ∧ m.I = comps.L.length ∧ 0 ≤ i.I ∧ i.I ≤ ls.L.length ∧ 0 ≤ used.I ∧ used.I ≤ i.I ∧
        0 ≤ loss.I ∧ loss.I ≤ 3000000 * i.I ∧ row.L = mkI (ints row.L) ∧ (ints row.L).length = comps.L.length ∧ ∀ j, j < comps.L.length → 0 ≤ (ints row.L).getD j 0 ∧ (ints row.L).getD j 0 ≤ 1000000))
      (.ite (refFrom cs.L ls.L sets.L comps.L i.I.toNat (ls.L.length - i.I.toNat) used.I loss.I (ints row.L)).2.2
        (.leaf (.exit 2, [.i (refFrom cs.L ls.L sets.L comps.L i.I.toNat (ls.L.length - i.I.toNat) used.I loss.I (ints row.L)).1, .i (refFrom cs.L ls.L sets.L comps.L i.I.toNat (ls.L.length - i.I.toNat) used.I loss.I (ints row.L)).2.1, .l sets.L, .l comps.L, .i p.I])) (.leaf (.ret, [.i 0, .b false])))
  | _ => .fail
end
end Go.Proofs.Ytlofnkkokcihnaa
