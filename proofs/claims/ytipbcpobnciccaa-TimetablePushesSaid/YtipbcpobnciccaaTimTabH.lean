/-
  Tables. Written by program.
-/
import Derived.Test.YtipbcpobnciccaaTimTabE
import Derived.Test.YtipbcpobnciccaaTimSigH
import Derived.Test.YtipbcpobnciccaaTimSpecH
namespace Go.Proofs.Ytipbcpobnciccaa
open Go.Lite
noncomputable def sp66 : SpL := [(48, mkF s48 G48)]
noncomputable def lp66 : LpL := []
noncomputable def sw66 : SwL := []
noncomputable def tab66 : Tab := mkTab sp66 lp66 sw66
noncomputable def sp1080 : SpL := [(66, mkF s66 G66)]
noncomputable def lp1080 : LpL := [(2, mkL l1080_2 G1080_2)]
noncomputable def sw1080 : SwL := []
noncomputable def tab1080 : Tab := mkTab sp1080 lp1080 sw1080
noncomputable def sp1061 : SpL := [(80, mkF s1080 G1080), (66, mkF s66 G66)]
noncomputable def lp1061 : LpL := []
noncomputable def sw1061 : SwL := []
noncomputable def tab1061 : Tab := mkTab sp1061 lp1061 sw1061
noncomputable def sp35 : SpL := []
noncomputable def lp35 : LpL := [(2, mkL l35_2 G35_2)]
noncomputable def sw35 : SwL := []
noncomputable def tab35 : Tab := mkTab sp35 lp35 sw35
noncomputable def sp67 : SpL := []
noncomputable def lp67 : LpL := []
noncomputable def sw67 : SwL := []
noncomputable def tab67 : Tab := mkTab sp67 lp67 sw67
noncomputable def sp34 : SpL := [(47, mkF s47 G47), (61, mkF s1061 G1061), (67, mkF s67 Gcl1), (49, mkF s49 G49)]
noncomputable def lp34 : LpL := []
noncomputable def sw34 : SwL := [(68, mkFW s68 G68)]
noncomputable def tab34 : Tab := mkTab sp34 lp34 sw34
end Go.Proofs.Ytipbcpobnciccaa
