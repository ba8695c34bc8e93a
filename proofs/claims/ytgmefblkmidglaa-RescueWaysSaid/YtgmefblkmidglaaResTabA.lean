/-
  Tables. Written by program.
-/
import Derived.Test.YtgmefblkmidglaaResSpecA
namespace Go.Proofs.Ytgmefblkmidglaa
open Go.Lite
noncomputable def sp45 : SpL := []
noncomputable def lp45 : LpL := []
noncomputable def sw45 : SwL := []
noncomputable def tab45 : Tab := mkTab sp45 lp45 sw45
noncomputable def sp51 : SpL := []
noncomputable def lp51 : LpL := [(2, mkL l51_2 G51_2)]
noncomputable def sw51 : SwL := []
noncomputable def tab51 : Tab := mkTab sp51 lp51 sw51
noncomputable def sp123 : SpL := []
noncomputable def lp123 : LpL := []
noncomputable def sw123 : SwL := []
noncomputable def tab123 : Tab := mkTab sp123 lp123 sw123
noncomputable def sp124 : SpL := []
noncomputable def lp124 : LpL := []
noncomputable def sw124 : SwL := []
noncomputable def tab124 : Tab := mkTab sp124 lp124 sw124
noncomputable def sp126 : SpL := []
noncomputable def lp126 : LpL := []
noncomputable def sw126 : SwL := []
noncomputable def tab126 : Tab := mkTab sp126 lp126 sw126
noncomputable def sp131 : SpL := []
noncomputable def lp131 : LpL := []
noncomputable def sw131 : SwL := []
noncomputable def tab131 : Tab := mkTab sp131 lp131 sw131
noncomputable def sp125 : SpL := []
noncomputable def lp125 : LpL := []
noncomputable def sw125 : SwL := []
noncomputable def tab125 : Tab := mkTab sp125 lp125 sw125
noncomputable def sp101 : SpL := [(124, mkF s124 G124)]
noncomputable def lp101 : LpL := [(0, mkLK 2 l101_0 G101_0)]
noncomputable def sw101 : SwL := [(126, mkFW s126 G126)]
noncomputable def tab101 : Tab := mkTab sp101 lp101 sw101
noncomputable def sp129 : SpL := [(124, mkF s124 G124)]
noncomputable def lp129 : LpL := [(2, mkLK 2 l129_2 G129_2)]
noncomputable def sw129 : SwL := [(126, mkFW s126 G126)]
noncomputable def tab129 : Tab := mkTab sp129 lp129 sw129
noncomputable def sp93 : SpL := [(123, mkF s123 G123)]
noncomputable def lp93 : LpL := []
noncomputable def sw93 : SwL := [(101, mkFW s101 G101), (125, mkFW s125 G125)]
noncomputable def tab93 : Tab := mkTab sp93 lp93 sw93
noncomputable def sp128 : SpL := [(123, mkF s123 G123)]
noncomputable def lp128 : LpL := []
noncomputable def sw128 : SwL := [(129, mkFW s129 G129), (126, mkFW s126 G126), (131, mkFW s131 G131)]
noncomputable def tab128 : Tab := mkTab sp128 lp128 sw128
noncomputable def sp127 : SpL := []
noncomputable def lp127 : LpL := []
noncomputable def sw127 : SwL := [(128, mkFW s128 G128)]
noncomputable def tab127 : Tab := mkTab sp127 lp127 sw127
noncomputable def sp74 : SpL := []
noncomputable def lp74 : LpL := []
noncomputable def sw74 : SwL := []
noncomputable def tab74 : Tab := mkTab sp74 lp74 sw74
noncomputable def sp75 : SpL := [(51, mkF s51 G51)]
noncomputable def lp75 (q : Nat) : LpL := [(1, mkLY 2 l75_1 (G75_1 q))]
noncomputable def sw75 : SwL := []
noncomputable def tab75 (q : Nat) : Tab := mkTabY sp75 (lp75 q) sw75 y75 q
end Go.Proofs.Ytgmefblkmidglaa
