/-
  Words of the functions of losses where no error is met, and what a loop in two pieces comes to.
-/
import Derived.Test.YtlofnkkokcihnaaCarSpecL
namespace Go.Proofs.Ytlofnkkokcihnaa
open Go.Lite
noncomputable section
def lossPre (dry wet wl : List (List D)) (loss : Int) (l : List (List D)) (w : Int) : Prop := smallRows dry ∧ smallRows wet ∧ wl.length < big ∧ lossOk dry wet wl loss l w = true
def G35w (ds : List D) : T (List D) := match ds with
  | [a, b, c, d, l, w] => .need (yes (lossPre a.L b.L c.L d.I l.L w.I)) (.leaf [.i (drive a.L b.L c.L d.I l.L w.I).2.1, .i (drive a.L b.L c.L d.I l.L w.I).1, .i 0])
  | _ => .fail
def G36w (ds : List D) : T (List D) := match ds with
  | [a, b, c, d, l, w] => .need (yes (lossPre a.L b.L c.L d.I l.L w.I)) (.leaf [.b (drive a.L b.L c.L d.I l.L w.I).2.2, .i 0])
  | _ => .fail
end
end Go.Proofs.Ytlofnkkokcihnaa
