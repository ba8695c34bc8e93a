/-
  Tables. Written by program.
-/
import Derived.Test.YtipbcpobnciccaaTimSigS
import Derived.Test.YtipbcpobnciccaaTimSpecS
import Derived.Test.YtipbcpobnciccaaTimTabR
namespace Go.Proofs.Ytipbcpobnciccaa
open Go.Lite
noncomputable def sp26 : SpL := [(54, mkF s54 G54)]
noncomputable def lp26 : LpL := [(4, mkL l26_4 G26_4), (12, mkL l26_12 G26_12)]
noncomputable def sw26 : SwL := []
noncomputable def tab26 : Tab := mkTab sp26 lp26 sw26
noncomputable def sp27 : SpL := [(59, mkF s59 G59), (60, mkF s60 G60), (54, mkF s54 G54)]
noncomputable def lp27 : LpL := [(5, mkL l27_5 G27_5), (15, mkL l27_15 G27_15)]
noncomputable def sw27 : SwL := []
noncomputable def tab27 : Tab := mkTab sp27 lp27 sw27
noncomputable def sp38 : SpL := [(41, mkF s41 G41), (70, mkF s70 G70), (48, mkF s48 G48)]
noncomputable def lp38 : LpL := []
noncomputable def sw38 : SwL := []
noncomputable def tab38 : Tab := mkTab sp38 lp38 sw38
end Go.Proofs.Ytipbcpobnciccaa
