/-
  Tables. Written by program.
-/
import Derived.Test.YtlofnkkokcihnaaCarSpecA
namespace Go.Proofs.Ytlofnkkokcihnaa
open Go.Lite
noncomputable def sp47 : SpL := []
noncomputable def lp47 : LpL := []
noncomputable def tab47 : Tab := mkTab sp47 lp47
noncomputable def sp50 : SpL := []
noncomputable def lp50 : LpL := []
noncomputable def tab50 : Tab := mkTab sp50 lp50
noncomputable def sp75 : SpL := [(47, mkF s47 G47)]
noncomputable def lp75 : LpL := [(2, mkL l75_2 G75_2)]
noncomputable def tab75 : Tab := mkTab sp75 lp75
noncomputable def sp74 : SpL := [(75, mkF s75 G75)]
noncomputable def lp74 : LpL := []
noncomputable def tab74 : Tab := mkTab sp74 lp74
noncomputable def sp78 : SpL := [(47, mkF s47 G47)]
noncomputable def lp78 : LpL := []
noncomputable def tab78 : Tab := mkTab sp78 lp78
noncomputable def sp98 : SpL := [(74, mkF s74 G74)]
noncomputable def lp98 : LpL := [(2, mkL l98_2 G98_2)]
noncomputable def tab98 : Tab := mkTab sp98 lp98
noncomputable def sp99 : SpL := [(78, mkF s78 G78)]
noncomputable def lp99 : LpL := [(2, mkL l99_2 G99_2)]
noncomputable def tab99 : Tab := mkTab sp99 lp99
noncomputable def sp76 : SpL := [(98, mkF s98 G98), (74, mkF s74 G74)]
noncomputable def lp76 : LpL := []
noncomputable def tab76 : Tab := mkTab sp76 lp76
noncomputable def sp77 : SpL := [(99, mkF s99 G99), (78, mkF s78 G78)]
noncomputable def lp77 : LpL := []
noncomputable def tab77 : Tab := mkTab sp77 lp77
noncomputable def sp46 : SpL := [(47, mkF s47 G47), (76, mkF s76 G76), (77, mkF s77 G77)]
noncomputable def lp46 : LpL := []
noncomputable def tab46 : Tab := mkTab sp46 lp46
noncomputable def sp79 : SpL := []
noncomputable def lp79 : LpL := [(7, mkL l79_7 G79_7)]
noncomputable def tab79 : Tab := mkTab sp79 lp79
noncomputable def sp48 : SpL := [(79, mkF s79 G79)]
noncomputable def lp48 : LpL := []
noncomputable def tab48 : Tab := mkTab sp48 lp48
noncomputable def sp17 : SpL := [(46, mkF s46 G46), (47, mkF s47 G47), (48, mkF s48 G48)]
noncomputable def lp17 : LpL := []
noncomputable def tab17 : Tab := mkTab sp17 lp17
noncomputable def sp49 : SpL := [(50, mkF s50 G50)]
noncomputable def lp49 : LpL := [(4, mkL l49_4 G49_4), (9, mkL l49_9 G49_9)]
noncomputable def tab49 : Tab := mkTab sp49 lp49
noncomputable def sp18 : SpL := [(49, mkF s49 G49), (50, mkF s50 G50)]
noncomputable def lp18 : LpL := [(5, mkL l18_5 G18_5)]
noncomputable def tab18 : Tab := mkTab sp18 lp18
noncomputable def sp51 : SpL := []
noncomputable def lp51 : LpL := [(4, mkL l51_4 G51_4)]
noncomputable def tab51 : Tab := mkTab sp51 lp51
noncomputable def sp19 : SpL := [(51, mkF s51 G51)]
noncomputable def lp19 : LpL := []
noncomputable def tab19 : Tab := mkTab sp19 lp19
noncomputable def sp15 : SpL := []
noncomputable def lp15 : LpL := [(4, mkL l15_4 G15_4), (9, mkL l15_9 G15_9)]
noncomputable def tab15 : Tab := mkTab sp15 lp15
end Go.Proofs.Ytlofnkkokcihnaa
