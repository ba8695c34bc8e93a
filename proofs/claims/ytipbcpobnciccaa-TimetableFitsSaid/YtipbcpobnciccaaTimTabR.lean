/-
  Tables. Written by program.
-/
import Derived.Test.YtipbcpobnciccaaTimSigR
import Derived.Test.YtipbcpobnciccaaTimSpecR
namespace Go.Proofs.Ytipbcpobnciccaa
open Go.Lite
noncomputable def sp48 : SpL := []
noncomputable def lp48 : LpL := []
noncomputable def sw48 : SwL := []
noncomputable def tab48 : Tab := mkTab sp48 lp48 sw48
noncomputable def sp54 : SpL := []
noncomputable def lp54 : LpL := []
noncomputable def sw54 : SwL := []
noncomputable def tab54 : Tab := mkTab sp54 lp54 sw54
noncomputable def sp86 : SpL := [(48, mkF s48 G48)]
noncomputable def lp86 : LpL := []
noncomputable def sw86 : SwL := []
noncomputable def tab86 : Tab := mkTab sp86 lp86 sw86
noncomputable def sp88 : SpL := [(86, mkF s86 G86)]
noncomputable def lp88 : LpL := [(2, mkL l88_2 G88_2)]
noncomputable def sw88 : SwL := []
noncomputable def tab88 : Tab := mkTab sp88 lp88 sw88
noncomputable def sp85 : SpL := [(88, mkF s88 G88), (86, mkF s86 G86)]
noncomputable def lp85 : LpL := []
noncomputable def sw85 : SwL := []
noncomputable def tab85 : Tab := mkTab sp85 lp85 sw85
noncomputable def sp71 : SpL := [(48, mkF s48 G48), (85, mkF s85 G85)]
noncomputable def lp71 : LpL := []
noncomputable def sw71 : SwL := []
noncomputable def tab71 : Tab := mkTab sp71 lp71 sw71
noncomputable def sp1071 : SpL := [(48, mkF s48 G48), (85, mkF s85 G85)]
noncomputable def lp1071 : LpL := []
noncomputable def sw1071 : SwL := []
noncomputable def tab1071 : Tab := mkTab sp1071 lp1071 sw1071
noncomputable def sp41 : SpL := [(48, mkF s48 G48), (71, mkF2 s71 G71 s1071 G1071)]
noncomputable def lp41 : LpL := [(5, mkL l41_5 G41_5)]
noncomputable def sw41 : SwL := []
noncomputable def tab41 : Tab := mkTab sp41 lp41 sw41
noncomputable def sp84 : SpL := [(48, mkF s48 G48)]
noncomputable def lp84 : LpL := []
noncomputable def sw84 : SwL := []
noncomputable def tab84 : Tab := mkTab sp84 lp84 sw84
noncomputable def sp87 : SpL := [(84, mkF s84 G84)]
noncomputable def lp87 : LpL := []
noncomputable def sw87 : SwL := []
noncomputable def tab87 : Tab := mkTab sp87 lp87 sw87
noncomputable def sp2080 : SpL := [(87, mkF s87 G87), (84, mkF s84 G84)]
noncomputable def lp2080 : LpL := [(2, mkL l2080_2 G2080_2)]
noncomputable def sw2080 : SwL := []
noncomputable def tab2080 : Tab := mkTab sp2080 lp2080 sw2080
noncomputable def sp2061 : SpL := [(80, mkF s2080 G2080), (87, mkF s87 G87), (84, mkF s84 G84)]
noncomputable def lp2061 : LpL := []
noncomputable def sw2061 : SwL := []
noncomputable def tab2061 : Tab := mkTab sp2061 lp2061 sw2061
noncomputable def sp83 : SpL := [(61, mkF s2061 G2061), (84, mkF s84 G84), (87, mkF s87 G87)]
noncomputable def lp83 : LpL := []
noncomputable def sw83 : SwL := []
noncomputable def tab83 : Tab := mkTab sp83 lp83 sw83
noncomputable def sp70 : SpL := [(83, mkF s83 G83)]
noncomputable def lp70 : LpL := []
noncomputable def sw70 : SwL := []
noncomputable def tab70 : Tab := mkTab sp70 lp70 sw70
noncomputable def sp73 : SpL := []
noncomputable def lp73 : LpL := []
noncomputable def sw73 : SwL := []
noncomputable def tab73 : Tab := mkTab sp73 lp73 sw73
noncomputable def sp60 : SpL := []
noncomputable def lp60 : LpL := []
noncomputable def sw60 : SwL := []
noncomputable def tab60 : Tab := mkTab sp60 lp60 sw60
noncomputable def sp59 : SpL := [(54, mkF s54 G54)]
noncomputable def lp59 : LpL := [(2, mkL l59_2 G59_2)]
noncomputable def sw59 : SwL := []
noncomputable def tab59 : Tab := mkTab sp59 lp59 sw59
noncomputable def sp25 : SpL := []
noncomputable def lp25 : LpL := [(4, mkL l25_4 G25_4)]
noncomputable def sw25 : SwL := []
noncomputable def tab25 : Tab := mkTab sp25 lp25 sw25
noncomputable def sp37 : SpL := []
noncomputable def lp37 : LpL := []
noncomputable def sw37 : SwL := []
noncomputable def tab37 : Tab := mkTab sp37 lp37 sw37
end Go.Proofs.Ytipbcpobnciccaa
