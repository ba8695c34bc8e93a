/-
  Tables. Written by program.
-/
import Derived.Test.YtgmefblkmidglaaResSpecB
import Derived.Test.YtgmefblkmidglaaResTabA
namespace Go.Proofs.Ytgmefblkmidglaa
open Go.Lite
noncomputable def it73_14 : ItL := [(75, mkFY s75 G75)]
noncomputable def sp73 : SpL := [(123, mkF s123 G123)]
noncomputable def lp73 : LpL := [(3, mkL l73_3 G73_3), (9, mkL l73_9 G73_9)]
noncomputable def sw73 : SwL := [(93, mkFW s93 G93), (74, mkFW s74 G74), (127, mkFW s127 G127)]
noncomputable def rg73 : LpL := [(14, rangeS 0 [2, 6, 7, 9, 51] (rangeOf C.P 73 14).1 it73_14 h73_14 G73_14)]
noncomputable def tab73 : Tab := mkTabR sp73 lp73 sw73 rg73
noncomputable def sp46 : SpL := [(73, mkF s73 G73)]
noncomputable def lp46 : LpL := [(3, mkL l46_3 G46_3)]
noncomputable def sw46 : SwL := [(74, mkFW s74 G74)]
noncomputable def tab46 : Tab := mkTab sp46 lp46 sw46
end Go.Proofs.Ytgmefblkmidglaa
