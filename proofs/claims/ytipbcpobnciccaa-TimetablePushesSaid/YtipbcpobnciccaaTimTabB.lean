/-
  Tables. Written by program.
-/
import Derived.Test.YtipbcpobnciccaaTimTabA
import Derived.Test.YtipbcpobnciccaaTimSpecB
namespace Go.Proofs.Ytipbcpobnciccaa
open Go.Lite
noncomputable def sp49 : SpL := [(75, mkF s75 Gcl)]
noncomputable def lp49 : LpL := [(3, mkL l49_3 G49_3)]
noncomputable def sw49 : SwL := []
noncomputable def tab49 : Tab := mkTab sp49 lp49 sw49
noncomputable def sp55 : SpL := []
noncomputable def lp55 : LpL := [(3, mkL l55_3 G55_3)]
noncomputable def sw55 : SwL := []
noncomputable def tab55 : Tab := mkTab sp55 lp55 sw55
noncomputable def sp53 : SpL := []
noncomputable def lp53 : LpL := [(1, mkLK 1 l53_1 G53_1)]
noncomputable def sw53 : SwL := []
noncomputable def tab53 : Tab := mkTab sp53 lp53 sw53
noncomputable def sp68 : SpL := []
noncomputable def lp68 : LpL := [(3, mkLK 1 l68_3 G68_3), (9, mkLK 1 l68_9 G68_9), (12, mkLK 1 l68_12 G68_12)]
noncomputable def sw68 : SwL := []
noncomputable def tab68 : Tab := mkTab sp68 lp68 sw68
end Go.Proofs.Ytipbcpobnciccaa
