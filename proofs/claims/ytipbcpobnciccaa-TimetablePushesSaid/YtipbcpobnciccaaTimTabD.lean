/-
  Tables. Written by program.
-/
import Derived.Test.YtipbcpobnciccaaTimTabC
import Derived.Test.YtipbcpobnciccaaTimSpecD
namespace Go.Proofs.Ytipbcpobnciccaa
open Go.Lite
noncomputable def sp20 : SpL := [(55, mkF s55 G55), (54, mkF s54 G54)]
noncomputable def lp20 : LpL := [(4, mkL l20_4 G20_4)]
noncomputable def sw20 : SwL := []
noncomputable def tab20 : Tab := mkTab sp20 lp20 sw20
noncomputable def sp29 : SpL := [(55, mkF s55 G55), (54, mkF s54 G54), (20, mkF s20 G20)]
noncomputable def lp29 : LpL := []
noncomputable def sw29 : SwL := []
noncomputable def tab29 : Tab := mkTab sp29 lp29 sw29
noncomputable def sp30 : SpL := [(47, mkF s47 G47), (48, mkF s48 G48), (49, mkF s49 G49)]
noncomputable def lp30 : LpL := [(6, mkL l30_6 G30_6)]
noncomputable def sw30 : SwL := []
noncomputable def tab30 : Tab := mkTab sp30 lp30 sw30
noncomputable def sp21 : SpL := []
noncomputable def lp21 : LpL := [(4, mkL l21_4 G21_4)]
noncomputable def sw21 : SwL := []
noncomputable def tab21 : Tab := mkTab sp21 lp21 sw21
noncomputable def sp32 : SpL := [(54, mkF s54 G54)]
noncomputable def lp32 : LpL := [(4, mkL l32_4 G32_4), (9, mkL l32_9 G32_9)]
noncomputable def sw32 : SwL := []
noncomputable def tab32 : Tab := mkTab sp32 lp32 sw32
noncomputable def sp15 : SpL := []
noncomputable def lp15 : LpL := []
noncomputable def sw15 : SwL := []
noncomputable def tab15 : Tab := mkTab sp15 lp15 sw15
noncomputable def sp64 : SpL := []
noncomputable def lp64 : LpL := []
noncomputable def sw64 : SwL := []
noncomputable def tab64 : Tab := mkTab sp64 lp64 sw64
noncomputable def sp1051 : SpL := [(64, mkF s64 G64)]
noncomputable def lp1051 : LpL := [(2, mkL l1051_2 G1051_2)]
noncomputable def sw1051 : SwL := []
noncomputable def tab1051 : Tab := mkTab sp1051 lp1051 sw1051
noncomputable def sp1063 : SpL := [(51, mkF s1051 G1051), (64, mkF s64 G64)]
noncomputable def lp1063 : LpL := []
noncomputable def sw1063 : SwL := []
noncomputable def tab1063 : Tab := mkTab sp1063 lp1063 sw1063
noncomputable def sp62 : SpL := []
noncomputable def lp62 : LpL := []
noncomputable def sw62 : SwL := []
noncomputable def tab62 : Tab := mkTab sp62 lp62 sw62
noncomputable def sp80 : SpL := [(62, mkF s62 G62)]
noncomputable def lp80 : LpL := [(2, mkL l80_2 G80_2)]
noncomputable def sw80 : SwL := []
noncomputable def tab80 : Tab := mkTab sp80 lp80 sw80
noncomputable def sp61 : SpL := [(80, mkF s80 G80), (62, mkF s62 G62)]
noncomputable def lp61 : LpL := []
noncomputable def sw61 : SwL := []
noncomputable def tab61 : Tab := mkTab sp61 lp61 sw61
noncomputable def sp31 : SpL := [(47, mkF s47 G47), (61, mkF s61 G61), (49, mkF s49 G49), (63, mkF s1063 G1063), (64, mkF s64 G64)]
noncomputable def lp31 : LpL := []
noncomputable def sw31 : SwL := []
noncomputable def tab31 : Tab := mkTab sp31 lp31 sw31
end Go.Proofs.Ytipbcpobnciccaa
