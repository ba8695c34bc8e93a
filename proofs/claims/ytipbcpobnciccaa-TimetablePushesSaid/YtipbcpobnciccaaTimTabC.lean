/-
  Tables. Written by program.
-/
import Derived.Test.YtipbcpobnciccaaTimTabB
import Derived.Test.YtipbcpobnciccaaTimSpecC
namespace Go.Proofs.Ytipbcpobnciccaa
open Go.Lite
noncomputable def sp69 : SpL := [(55, mkF s55 G55)]
noncomputable def lp69 : LpL := [(3, mkLK 1 l69_3 G69_3), (7, mkLK 1 l69_7 G69_7)]
noncomputable def sw69 : SwL := []
noncomputable def tab69 : Tab := mkTab sp69 lp69 sw69
noncomputable def sp36 : SpL := []
noncomputable def lp36 : LpL := []
noncomputable def sw36 : SwL := [(69, mkFW s69 G69)]
noncomputable def tab36 : Tab := mkTab sp36 lp36 sw36
noncomputable def sp19 : SpL := [(36, mkF s36 G36)]
noncomputable def lp19 : LpL := []
noncomputable def sw19 : SwL := []
noncomputable def tab19 : Tab := mkTab sp19 lp19 sw19
noncomputable def sp76 : SpL := []
noncomputable def lp76 : LpL := []
noncomputable def sw76 : SwL := []
noncomputable def tab76 : Tab := mkTab sp76 lp76 sw76
noncomputable def sp50 : SpL := [(76, mkF s76 G76)]
noncomputable def lp50 : LpL := [(7, mkL l50_7 G50_7), (12, mkL l50_12 G50_12)]
noncomputable def sw50 : SwL := [(68, mkFW s68 G68), (53, mkFW s53 G53)]
noncomputable def tab50 : Tab := mkTab sp50 lp50 sw50
noncomputable def sp28 : SpL := [(47, mkF s47 G47), (49, mkF s49 G49), (50, mkF s50 G50)]
noncomputable def lp28 : LpL := []
noncomputable def sw28 : SwL := []
noncomputable def tab28 : Tab := mkTab sp28 lp28 sw28
end Go.Proofs.Ytipbcpobnciccaa
