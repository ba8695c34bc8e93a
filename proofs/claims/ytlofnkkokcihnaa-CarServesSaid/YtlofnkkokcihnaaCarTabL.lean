/-
  Tables. Written by program.
-/
import Derived.Test.YtlofnkkokcihnaaCarSpecL
namespace Go.Proofs.Ytlofnkkokcihnaa
open Go.Lite
noncomputable def sp92 : SpL := [(47, mkF s47 G47)]
noncomputable def lp92 : LpL := []
noncomputable def tab92 : Tab := mkTab sp92 lp92
noncomputable def sp104 : SpL := [(92, mkF s92 G92)]
noncomputable def lp104 : LpL := [(2, mkL l104_2 G104_2)]
noncomputable def tab104 : Tab := mkTab sp104 lp104
noncomputable def sp91 : SpL := [(104, mkF s104 G104), (92, mkF s92 G92)]
noncomputable def lp91 : LpL := []
noncomputable def tab91 : Tab := mkTab sp91 lp91
noncomputable def sp69 : SpL := [(91, mkF s91 G91), (92, mkF s92 G92)]
noncomputable def lp69 : LpL := []
noncomputable def tab69 : Tab := mkTab sp69 lp69
noncomputable def sp70 : SpL := [(48, mkF s48 G48)]
noncomputable def lp70 : LpL := [(3, mkL l70_3 G70_3)]
noncomputable def tab70 : Tab := mkTab sp70 lp70
noncomputable def sp35 : SpL := [(46, mkF s46 G46), (69, mkF s69 G69), (47, mkF s47 G47), (70, mkF s70 G70)]
noncomputable def lp35 : LpL := []
noncomputable def tab35 : Tab := mkTab sp35 lp35
noncomputable def sp36 : SpL := [(46, mkF s46 G46), (69, mkF s69 G69), (47, mkF s47 G47), (70, mkF s70 G70)]
noncomputable def lp36 : LpL := []
noncomputable def tab36 : Tab := mkTab sp36 lp36
noncomputable def sp37 : SpL := [(50, mkF s50 G50)]
noncomputable def lp37 : LpL := [(2, mkL l37_2 G37_2)]
noncomputable def tab37 : Tab := mkTab sp37 lp37
noncomputable def sp38 : SpL := [(19, mkF s19 G19)]
noncomputable def lp38 : LpL := [(3, mkL l38_3 G38_3)]
noncomputable def tab38 : Tab := mkTab sp38 lp38
noncomputable def sp39 : SpL := []
noncomputable def lp39 : LpL := [(3, mkL l39_3 G39_3)]
noncomputable def tab39 : Tab := mkTab sp39 lp39
end Go.Proofs.Ytlofnkkokcihnaa
