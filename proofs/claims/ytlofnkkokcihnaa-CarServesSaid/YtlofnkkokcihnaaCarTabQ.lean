/-
  Tables. Written by program.
-/
import Derived.Test.YtlofnkkokcihnaaCarSpecQ
namespace Go.Proofs.Ytlofnkkokcihnaa
open Go.Lite
noncomputable def sp20 : SpL := [(15, mkF s15 G15)]
noncomputable def lp20 : LpL := [(4, mkL l20_4 G20_4), (9, mkL l20_9 G20_9)]
noncomputable def tab20 : Tab := mkTab sp20 lp20
noncomputable def sp81 : SpL := [(46, mkF s46 G46)]
noncomputable def lp81 : LpL := []
noncomputable def tab81 : Tab := mkTab sp81 lp81
noncomputable def sp100 : SpL := [(81, mkF s81 G81)]
noncomputable def lp100 : LpL := [(2, mkL l100_2 G100_2)]
noncomputable def tab100 : Tab := mkTab sp100 lp100
noncomputable def sp80 : SpL := [(100, mkF s100 G100), (81, mkF s81 G81)]
noncomputable def lp80 : LpL := []
noncomputable def tab80 : Tab := mkTab sp80 lp80
noncomputable def sp83 : SpL := [(69, mkF s69 G69)]
noncomputable def lp83 : LpL := []
noncomputable def tab83 : Tab := mkTab sp83 lp83
noncomputable def sp101 : SpL := [(83, mkF s83 G83)]
noncomputable def lp101 : LpL := [(2, mkL l101_2 G101_2)]
noncomputable def tab101 : Tab := mkTab sp101 lp101
noncomputable def sp82 : SpL := [(101, mkF s101 G101), (83, mkF s83 G83)]
noncomputable def lp82 : LpL := []
noncomputable def tab82 : Tab := mkTab sp82 lp82
noncomputable def sp52 : SpL := [(47, mkF s47 G47), (80, mkF s80 G80), (82, mkF s82 G82), (81, mkF s81 G81), (83, mkF s83 G83)]
noncomputable def lp52 : LpL := []
noncomputable def tab52 : Tab := mkTab sp52 lp52
noncomputable def sp54 : SpL := [(70, mkF s70 G70)]
noncomputable def lp54 : LpL := [(3, mkL l54_3 G54_3)]
noncomputable def tab54 : Tab := mkTab sp54 lp54
noncomputable def sp22 : SpL := [(50, mkF s50 G50), (18, mkF s18 G18), (37, mkF s37 G37)]
noncomputable def lp22 : LpL := [(4, mkL l22_4 G22_4), (9, mkL l22_9 G22_9)]
noncomputable def tab22 : Tab := mkTab sp22 lp22
noncomputable def sp40 : SpL := [(52, mkF s52 G52), (47, mkF s47 G47), (54, mkF s54 G54)]
noncomputable def lp40 : LpL := [(5, mkL l40_5 G40_5), (15, mkL l40_15 G40_15)]
noncomputable def tab40 : Tab := mkTab sp40 lp40
noncomputable def sp41 : SpL := [(50, mkF s50 G50), (39, mkF s39 G39), (38, mkF s38 G38)]
noncomputable def lp41 : LpL := [(4, mkL l41_4 G41_4), (11, mkL l41_11 G41_11)]
noncomputable def tab41 : Tab := mkTab sp41 lp41
end Go.Proofs.Ytlofnkkokcihnaa
