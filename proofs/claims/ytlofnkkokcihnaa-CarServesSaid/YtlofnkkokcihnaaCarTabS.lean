/-
  Tables. Written by program.
-/
import Derived.Test.YtlofnkkokcihnaaCarSpecS
namespace Go.Proofs.Ytlofnkkokcihnaa
open Go.Lite
noncomputable def sp88 : SpL := [(47, mkF s47 G47)]
noncomputable def lp88 : LpL := []
noncomputable def tab88 : Tab := mkTab sp88 lp88
noncomputable def sp102 : SpL := [(88, mkF s88 G88)]
noncomputable def lp102 : LpL := [(2, mkL l102_2 G102_2)]
noncomputable def tab102 : Tab := mkTab sp102 lp102
noncomputable def sp87 : SpL := [(102, mkF s102 G102), (88, mkF s88 G88)]
noncomputable def lp87 : LpL := []
noncomputable def tab87 : Tab := mkTab sp87 lp87
noncomputable def sp58 : SpL := [(47, mkF s47 G47), (87, mkF s87 G87)]
noncomputable def lp58 : LpL := []
noncomputable def tab58 : Tab := mkTab sp58 lp58
noncomputable def sp59 : SpL := []
noncomputable def lp59 : LpL := [(3, mkL l59_3 G59_3)]
noncomputable def tab59 : Tab := mkTab sp59 lp59
noncomputable def sp32 : SpL := [(58, mkF s58 G58), (47, mkF s47 G47), (59, mkF s59 G59)]
noncomputable def lp32 : LpL := [(4, mkL l32_4 G32_4)]
noncomputable def tab32 : Tab := mkTab sp32 lp32
noncomputable def sp26 : SpL := [(50, mkF s50 G50)]
noncomputable def lp26 : LpL := [(4, mkL l26_4 G26_4)]
noncomputable def tab26 : Tab := mkTab sp26 lp26
noncomputable def sp33 : SpL := [(50, mkF s50 G50)]
noncomputable def lp33 : LpL := [(5, mkL l33_5 G33_5)]
noncomputable def tab33 : Tab := mkTab sp33 lp33
noncomputable def sp34 : SpL := []
noncomputable def lp34 : LpL := [(3, mkL l34_3 G34_3)]
noncomputable def tab34 : Tab := mkTab sp34 lp34
noncomputable def sp24 : SpL := []
noncomputable def lp24 : LpL := [(4, mkL l24_4 G24_4)]
noncomputable def tab24 : Tab := mkTab sp24 lp24
end Go.Proofs.Ytlofnkkokcihnaa
