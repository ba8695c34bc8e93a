/-
  Tables. Written by program.
-/
import Derived.Test.YtgmefblkmidglaaResSigC
import Derived.Test.YtgmefblkmidglaaResSpecC
namespace Go.Proofs.Ytgmefblkmidglaa
open Go.Lite
noncomputable def sp47 : SpL := []
noncomputable def lp47 : LpL := []
noncomputable def sw47 : SwL := []
noncomputable def tab47 : Tab := mkTab sp47 lp47 sw47
noncomputable def sp25 : SpL := []
noncomputable def lp25 : LpL := [(2, mkL l25_2 G25_2)]
noncomputable def sw25 : SwL := []
noncomputable def tab25 : Tab := mkTab sp25 lp25 sw25
noncomputable def sp48 : SpL := [(47, mkF s47 G47)]
noncomputable def lp48 : LpL := [(4, mkL l48_4 G48_4)]
noncomputable def sw48 : SwL := []
noncomputable def tab48 : Tab := mkTab sp48 lp48 sw48
noncomputable def sp15 : SpL := []
noncomputable def lp15 : LpL := [(4, mkL l15_4 G15_4)]
noncomputable def sw15 : SwL := []
noncomputable def tab15 : Tab := mkTab sp15 lp15 sw15
noncomputable def sp18 : SpL := [(45, mkF s45 G45)]
noncomputable def lp18 : LpL := [(4, mkL l18_4 G18_4), (10, mkL l18_10 G18_10)]
noncomputable def sw18 : SwL := []
noncomputable def tab18 : Tab := mkTab sp18 lp18 sw18
noncomputable def sp19 : SpL := [(47, mkF s47 G47), (48, mkF s48 G48)]
noncomputable def lp19 : LpL := [(4, mkL l19_4 G19_4)]
noncomputable def sw19 : SwL := []
noncomputable def tab19 : Tab := mkTab sp19 lp19 sw19
noncomputable def sp20 : SpL := []
noncomputable def lp20 : LpL := []
noncomputable def sw20 : SwL := []
noncomputable def tab20 : Tab := mkTab sp20 lp20 sw20
noncomputable def sp21 : SpL := []
noncomputable def lp21 : LpL := [(4, mkL l21_4 G21_4)]
noncomputable def sw21 : SwL := []
noncomputable def tab21 : Tab := mkTab sp21 lp21 sw21
noncomputable def sp49 : SpL := [(25, mkF s25 G25)]
noncomputable def lp49 : LpL := [(3, mkL l49_3 G49_3), (8, mkL l49_8 G49_8), (12, mkL l49_12 G49_12)]
noncomputable def sw49 : SwL := []
noncomputable def tab49 : Tab := mkTab sp49 lp49 sw49
noncomputable def sp22 : SpL := [(49, mkF s49 G49)]
noncomputable def lp22 : LpL := []
noncomputable def sw22 : SwL := []
noncomputable def tab22 : Tab := mkTab sp22 lp22 sw22
noncomputable def sp17 : SpL := [(18, mkF s18 G18), (45, mkF s45 G45), (46, mkF s46 G46)]
noncomputable def lp17 : LpL := []
noncomputable def sw17 : SwL := []
noncomputable def tab17 : Tab := mkTab sp17 lp17 sw17
noncomputable def sp3 : SpL := [(15, mkF s15 G15), (17, mkF s17 G17), (18, mkF s18 G18), (19, mkF s19 G19), (20, mkF s20 G20), (22, mkF s22 G22), (21, mkF s21 G21)]
noncomputable def lp3 : LpL := []
noncomputable def sw3 : SwL := []
noncomputable def tab3 : Tab := mkTab sp3 lp3 sw3
end Go.Proofs.Ytgmefblkmidglaa
