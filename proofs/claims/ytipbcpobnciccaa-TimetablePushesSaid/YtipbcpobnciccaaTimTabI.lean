/-
  Tables. Written by program.
-/
import Derived.Test.YtipbcpobnciccaaTimTabH
import Derived.Test.YtipbcpobnciccaaTimSigI
namespace Go.Proofs.Ytipbcpobnciccaa
open Go.Lite
noncomputable def sp10 : SpL := [(15, mkF s15 G15), (16, mkF s16 G16), (34, mkF s34 G34), (18, mkF s18 G18), (35, mkF s35 G35), (19, mkF s19 G19), (36, mkF s36 G36), (21, mkF s21 G21)]
noncomputable def lp10 : LpL := []
noncomputable def sw10 : SwL := []
noncomputable def tab10 : Tab := mkTab sp10 lp10 sw10
end Go.Proofs.Ytipbcpobnciccaa
