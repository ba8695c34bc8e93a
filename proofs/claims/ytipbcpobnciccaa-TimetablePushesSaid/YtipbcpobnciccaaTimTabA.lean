/-
  Tables. Written by program.
-/
import Derived.Test.YtipbcpobnciccaaTimSpecA
namespace Go.Proofs.Ytipbcpobnciccaa
open Go.Lite
noncomputable def sp48 : SpL := []
noncomputable def lp48 : LpL := []
noncomputable def sw48 : SwL := []
noncomputable def tab48 : Tab := mkTab sp48 lp48 sw48
noncomputable def sp54 : SpL := []
noncomputable def lp54 : LpL := []
noncomputable def sw54 : SwL := []
noncomputable def tab54 : Tab := mkTab sp54 lp54 sw54
noncomputable def sp74 : SpL := [(48, mkF s48 G48)]
noncomputable def lp74 : LpL := []
noncomputable def sw74 : SwL := []
noncomputable def tab74 : Tab := mkTab sp74 lp74 sw74
noncomputable def sp51 : SpL := [(74, mkF s74 G74)]
noncomputable def lp51 : LpL := [(2, mkL l51_2 G51_2)]
noncomputable def sw51 : SwL := []
noncomputable def tab51 : Tab := mkTab sp51 lp51 sw51
noncomputable def sp63 : SpL := [(51, mkF s51 G51), (74, mkF s74 G74)]
noncomputable def lp63 : LpL := []
noncomputable def sw63 : SwL := []
noncomputable def tab63 : Tab := mkTab sp63 lp63 sw63
noncomputable def sp47 : SpL := [(48, mkF s48 G48), (63, mkF s63 G63), (74, mkF s74 G74)]
noncomputable def lp47 : LpL := []
noncomputable def sw47 : SwL := []
noncomputable def tab47 : Tab := mkTab sp47 lp47 sw47
noncomputable def sp18 : SpL := [(54, mkF s54 G54)]
noncomputable def lp18 : LpL := [(4, mkL l18_4 G18_4)]
noncomputable def sw18 : SwL := []
noncomputable def tab18 : Tab := mkTab sp18 lp18 sw18
noncomputable def sp75 : SpL := []
noncomputable def lp75 : LpL := []
noncomputable def sw75 : SwL := []
noncomputable def tab75 : Tab := mkTab sp75 lp75 sw75
end Go.Proofs.Ytipbcpobnciccaa
