/-
  Shapes of arguments, results and loops. Written by program.
  Tables. Written by program.
  What the rounds and the functions come to. Written by program.
  The statement of CarServes follows once the law is reckoned to be true for arguments of the right shapes.
  The law of services holds for every input.
-/
import Derived.Test.YtlofnkkokcihnaaGX
import Derived.Test.YtlofnkkokcihnaaCarSpecS
import Derived.Test.YtlofnkkokcihnaaCarSpec3
import Derived.Test.YtlofnkkokcihnaaOver
import Derived.Test.YtlofnkkokcihnaaGZ
import Derived.Test.YtlofnkkokcihnaaCarPS
import Derived.Test.YtlofnkkokcihnaaCarK
namespace Go.Proofs.Ytlofnkkokcihnaa
open Go.Lite
def s6 : Sig := ⟨[.k (.ro [.int .i64, .int .i64, .bool, .ro [.int .i64]]), .k (.int .i64)], [(.k .bool, [])]⟩
end Go.Proofs.Ytlofnkkokcihnaa

namespace Go.Proofs.Ytlofnkkokcihnaa
open Go.Lite
noncomputable def sp6 : SpL := [(28, mkF s28 G28), (16, mkF s16 G16), (29, mkF s29 G29), (30, mkF s30 G30), (31, mkF s31 G31), (24, mkF s24 G24)]
noncomputable def lp6 : LpL := []
noncomputable def tab6 : Tab := mkTab sp6 lp6
end Go.Proofs.Ytlofnkkokcihnaa

namespace Go.Proofs.Ytlofnkkokcihnaa
open Go.Lite
set_option linter.unusedVariables false
set_option maxRecDepth 100000
theorem t6 (a b : D) : fnT C tab6 6 s6 [a, b] =
  T.need (yes (List.length (D.L a) < lim)) (T.ite (!needsOk (D.L a)) (T.leaf [D.b true]) (T.ite (decide ((↑(List.length (D.L a)) : Int) > (9 : Int))) (T.ite (decide ((↑(List.length (D.L a)) : Int) ≤ (20 : Int))) (T.leaf [D.b true]) (T.need (yes (needsOk (D.L a) = true)) (T.ite (jobsOk (D.L a) && within (D.I b) (0 : Int) (10000 : Int)) (T.ite (Option.isSome (bestAll (D.L a) (D.I b))) (T.ite (List.isEmpty (bitsL (Int.toNat (ix (Option.getD (bestAll (D.L a) (D.I b)) []) 0)))) (T.need (yes (needsOk (D.L a) = true)) (T.ite (!(jobsOk (D.L a) && within (D.I b) (0 : Int) (10000 : Int))) (T.ite false (T.ite true (T.leaf [D.b true]) (T.leaf [D.b false])) (T.leaf [D.b false])) (T.need (yes (jobsOk (D.L a) = true)) (T.ite (List.isEmpty (searchR (D.L a) (D.I b) 0 (2 ^ List.length (D.L a)) (false, [])).snd) (T.ite (!(searchR (D.L a) (D.I b) 0 (2 ^ List.length (D.L a)) (false, [])).fst) (T.ite false (T.ite true (T.leaf [D.b true]) (T.leaf [D.b false])) (T.leaf [D.b false])) (T.ite true (T.need (yes (List.length ([] : List (List D)) < big)) (T.ite true (T.leaf [D.b true]) (T.leaf [D.b false]))) (T.leaf [D.b false]))) (T.ite (!(searchR (D.L a) (D.I b) 0 (2 ^ List.length (D.L a)) (false, [])).fst) (T.ite false (T.ite true (T.leaf [D.b true]) (T.leaf [D.b false])) (T.leaf [D.b false])) (T.ite true (T.need (decide (Int.toNat (↑(List.length (searchR (D.L a) (D.I b) 0 (2 ^ List.length (D.L a)) (false, [])).snd) : Int) ≤ List.length (mkI (searchR (D.L a) (D.I b) 0 (2 ^ List.length (D.L a)) (false, [])).snd))) (T.need (yes (List.length ([] : List (List D)) < big)) (T.ite (sameL [] (List.take (Int.toNat (↑(List.length (searchR (D.L a) (D.I b) 0 (2 ^ List.length (D.L a)) (false, [])).snd) : Int)) (mkI (searchR (D.L a) (D.I b) 0 (2 ^ List.length (D.L a)) (false, [])).snd))) (T.leaf [D.b true]) (T.leaf [D.b false])))) (T.leaf [D.b false]))))))) (T.need (yes (needsOk (D.L a) = true)) (T.ite (!(jobsOk (D.L a) && within (D.I b) (0 : Int) (10000 : Int))) (T.ite false (T.ite ((↑(Int.toNat (↑(List.length (bitsL (Int.toNat (ix (Option.getD (bestAll (D.L a) (D.I b)) []) 0)))) : Int)) : Int) == (0 : Int)) (T.leaf [D.b true]) (T.leaf [D.b false])) (T.leaf [D.b false])) (T.need (yes (jobsOk (D.L a) = true)) (T.ite (List.isEmpty (searchR (D.L a) (D.I b) 0 (2 ^ List.length (D.L a)) (false, [])).snd) (T.ite (!(searchR (D.L a) (D.I b) 0 (2 ^ List.length (D.L a)) (false, [])).fst) (T.ite false (T.ite ((↑(Int.toNat (↑(List.length (bitsL (Int.toNat (ix (Option.getD (bestAll (D.L a) (D.I b)) []) 0)))) : Int)) : Int) == (0 : Int)) (T.leaf [D.b true]) (T.leaf [D.b false])) (T.leaf [D.b false])) (T.ite true (T.need (decide (Int.toNat (↑(List.length (bitsL (Int.toNat (ix (Option.getD (bestAll (D.L a) (D.I b)) []) 0)))) : Int) ≤ List.length (mkI (bitsL (Int.toNat (ix (Option.getD (bestAll (D.L a) (D.I b)) []) 0)))))) (T.need (yes (List.length (List.take (Int.toNat (↑(List.length (bitsL (Int.toNat (ix (Option.getD (bestAll (D.L a) (D.I b)) []) 0)))) : Int)) (mkI (bitsL (Int.toNat (ix (Option.getD (bestAll (D.L a) (D.I b)) []) 0))))) < big)) (T.ite (sameL (List.take (Int.toNat (↑(List.length (bitsL (Int.toNat (ix (Option.getD (bestAll (D.L a) (D.I b)) []) 0)))) : Int)) (mkI (bitsL (Int.toNat (ix (Option.getD (bestAll (D.L a) (D.I b)) []) 0))))) []) (T.leaf [D.b true]) (T.leaf [D.b false])))) (T.leaf [D.b false]))) (T.ite (!(searchR (D.L a) (D.I b) 0 (2 ^ List.length (D.L a)) (false, [])).fst) (T.ite false (T.ite ((↑(Int.toNat (↑(List.length (bitsL (Int.toNat (ix (Option.getD (bestAll (D.L a) (D.I b)) []) 0)))) : Int)) : Int) == (0 : Int)) (T.leaf [D.b true]) (T.leaf [D.b false])) (T.leaf [D.b false])) (T.ite true (T.need (decide (Int.toNat (↑(List.length (bitsL (Int.toNat (ix (Option.getD (bestAll (D.L a) (D.I b)) []) 0)))) : Int) ≤ List.length (mkI (bitsL (Int.toNat (ix (Option.getD (bestAll (D.L a) (D.I b)) []) 0)))))) (T.need (decide (Int.toNat (↑(List.length (searchR (D.L a) (D.I b) 0 (2 ^ List.length (D.L a)) (false, [])).snd) : Int) ≤ List.length (mkI (searchR (D.L a) (D.I b) 0 (2 ^ List.length (D.L a)) (false, [])).snd))) (T.need (yes (List.length (List.take (Int.toNat (↑(List.length (bitsL (Int.toNat (ix (Option.getD (bestAll (D.L a) (D.I b)) []) 0)))) : Int)) (mkI (bitsL (Int.toNat (ix (Option.getD (bestAll (D.L a) (D.I b)) []) 0))))) < big)) (T.ite (sameL (List.take (Int.toNat (↑(List.length (bitsL (Int.toNat (ix (Option.getD (bestAll (D.L a) (D.I b)) []) 0)))) : Int)) (mkI (bitsL (Int.toNat (ix (Option.getD (bestAll (D.L a) (D.I b)) []) 0))))) (List.take (Int.toNat (↑(List.length (searchR (D.L a) (D.I b) 0 (2 ^ List.length (D.L a)) (false, [])).snd) : Int)) (mkI (searchR (D.L a) (D.I b) 0 (2 ^ List.length (D.L a)) (false, [])).snd))) (T.leaf [D.b true]) (T.leaf [D.b false]))))) (T.leaf [D.b false])))))))) (T.need (yes (needsOk (D.L a) = true)) (T.ite (!(jobsOk (D.L a) && within (D.I b) (0 : Int) (10000 : Int))) (T.ite false (T.ite true (T.leaf [D.b true]) (T.leaf [D.b false])) (T.leaf [D.b false])) (T.need (yes (jobsOk (D.L a) = true)) (T.ite (List.isEmpty (searchR (D.L a) (D.I b) 0 (2 ^ List.length (D.L a)) (false, [])).snd) (T.ite (!(searchR (D.L a) (D.I b) 0 (2 ^ List.length (D.L a)) (false, [])).fst) (T.ite true (T.ite true (T.leaf [D.b true]) (T.leaf [D.b false])) (T.leaf [D.b false])) (T.ite false (T.need (yes (List.length ([] : List (List D)) < big)) (T.ite true (T.leaf [D.b true]) (T.leaf [D.b false]))) (T.leaf [D.b false]))) (T.ite (!(searchR (D.L a) (D.I b) 0 (2 ^ List.length (D.L a)) (false, [])).fst) (T.ite true (T.ite true (T.leaf [D.b true]) (T.leaf [D.b false])) (T.leaf [D.b false])) (T.ite false (T.need (decide (Int.toNat (↑(List.length (searchR (D.L a) (D.I b) 0 (2 ^ List.length (D.L a)) (false, [])).snd) : Int) ≤ List.length (mkI (searchR (D.L a) (D.I b) 0 (2 ^ List.length (D.L a)) (false, [])).snd))) (T.need (yes (List.length ([] : List (List D)) < big)) (T.ite (sameL [] (List.take (Int.toNat (↑(List.length (searchR (D.L a) (D.I b) 0 (2 ^ List.length (D.L a)) (false, [])).snd) : Int)) (mkI (searchR (D.L a) (D.I b) 0 (2 ^ List.length (D.L a)) (false, [])).snd))) (T.leaf [D.b true]) (T.leaf [D.b false])))) (T.leaf [D.b false])))))))) (T.need (yes (needsOk (D.L a) = true)) (T.ite (!(jobsOk (D.L a) && within (D.I b) (0 : Int) (10000 : Int))) (T.ite true (T.ite true (T.leaf [D.b true]) (T.leaf [D.b false])) (T.leaf [D.b false])) (T.need (yes (jobsOk (D.L a) = true)) (T.ite (List.isEmpty (searchR (D.L a) (D.I b) 0 (2 ^ List.length (D.L a)) (false, [])).snd) (T.ite (!(searchR (D.L a) (D.I b) 0 (2 ^ List.length (D.L a)) (false, [])).fst) (T.ite false (T.ite true (T.leaf [D.b true]) (T.leaf [D.b false])) (T.leaf [D.b false])) (T.ite false (T.need (yes (List.length ([] : List (List D)) < big)) (T.ite true (T.leaf [D.b true]) (T.leaf [D.b false]))) (T.leaf [D.b false]))) (T.ite (!(searchR (D.L a) (D.I b) 0 (2 ^ List.length (D.L a)) (false, [])).fst) (T.ite false (T.ite true (T.leaf [D.b true]) (T.leaf [D.b false])) (T.leaf [D.b false])) (T.ite false (T.need (decide (Int.toNat (↑(List.length (searchR (D.L a) (D.I b) 0 (2 ^ List.length (D.L a)) (false, [])).snd) : Int) ≤ List.length (mkI (searchR (D.L a) (D.I b) 0 (2 ^ List.length (D.L a)) (false, [])).snd))) (T.need (yes (List.length ([] : List (List D)) < big)) (T.ite (sameL [] (List.take (Int.toNat (↑(List.length (searchR (D.L a) (D.I b) 0 (2 ^ List.length (D.L a)) (false, [])).snd) : Int)) (mkI (searchR (D.L a) (D.I b) 0 (2 ^ List.length (D.L a)) (false, [])).snd))) (T.leaf [D.b true]) (T.leaf [D.b false])))) (T.leaf [D.b false])))))))))) (T.need (yes (needsOk (D.L a) = true)) (T.ite (jobsOk (D.L a) && within (D.I b) (0 : Int) (10000 : Int)) (T.ite (Option.isSome (bestAll (D.L a) (D.I b))) (T.ite (List.isEmpty (bitsL (Int.toNat (ix (Option.getD (bestAll (D.L a) (D.I b)) []) 0)))) (T.need (yes (needsOk (D.L a) = true)) (T.ite (!(jobsOk (D.L a) && within (D.I b) (0 : Int) (10000 : Int))) (T.ite false (T.ite true (T.leaf [D.b true]) (T.leaf [D.b false])) (T.leaf [D.b false])) (T.need (yes (jobsOk (D.L a) = true)) (T.ite (List.isEmpty (searchR (D.L a) (D.I b) 0 (2 ^ List.length (D.L a)) (false, [])).snd) (T.ite (!(searchR (D.L a) (D.I b) 0 (2 ^ List.length (D.L a)) (false, [])).fst) (T.ite false (T.ite true (T.leaf [D.b true]) (T.leaf [D.b false])) (T.leaf [D.b false])) (T.ite true (T.need (yes (List.length ([] : List (List D)) < big)) (T.ite true (T.leaf [D.b true]) (T.leaf [D.b false]))) (T.leaf [D.b false]))) (T.ite (!(searchR (D.L a) (D.I b) 0 (2 ^ List.length (D.L a)) (false, [])).fst) (T.ite false (T.ite true (T.leaf [D.b true]) (T.leaf [D.b false])) (T.leaf [D.b false])) (T.ite true (T.need (decide (Int.toNat (↑(List.length (searchR (D.L a) (D.I b) 0 (2 ^ List.length (D.L a)) (false, [])).snd) : Int) ≤ List.length (mkI (searchR (D.L a) (D.I b) 0 (2 ^ List.length (D.L a)) (false, [])).snd))) (T.need (yes (List.length ([] : List (List D)) < big)) (T.ite (sameL [] (List.take (Int.toNat (↑(List.length (searchR (D.L a) (D.I b) 0 (2 ^ List.length (D.L a)) (false, [])).snd) : Int)) (mkI (searchR (D.L a) (D.I b) 0 (2 ^ List.length (D.L a)) (false, [])).snd))) (T.leaf [D.b true]) (T.leaf [D.b false])))) (T.leaf [D.b false]))))))) (T.need (yes (needsOk (D.L a) = true)) (T.ite (!(jobsOk (D.L a) && within (D.I b) (0 : Int) (10000 : Int))) (T.ite false (T.ite ((↑(Int.toNat (↑(List.length (bitsL (Int.toNat (ix (Option.getD (bestAll (D.L a) (D.I b)) []) 0)))) : Int)) : Int) == (0 : Int)) (T.leaf [D.b true]) (T.leaf [D.b false])) (T.leaf [D.b false])) (T.need (yes (jobsOk (D.L a) = true)) (T.ite (List.isEmpty (searchR (D.L a) (D.I b) 0 (2 ^ List.length (D.L a)) (false, [])).snd) (T.ite (!(searchR (D.L a) (D.I b) 0 (2 ^ List.length (D.L a)) (false, [])).fst) (T.ite false (T.ite ((↑(Int.toNat (↑(List.length (bitsL (Int.toNat (ix (Option.getD (bestAll (D.L a) (D.I b)) []) 0)))) : Int)) : Int) == (0 : Int)) (T.leaf [D.b true]) (T.leaf [D.b false])) (T.leaf [D.b false])) (T.ite true (T.need (decide (Int.toNat (↑(List.length (bitsL (Int.toNat (ix (Option.getD (bestAll (D.L a) (D.I b)) []) 0)))) : Int) ≤ List.length (mkI (bitsL (Int.toNat (ix (Option.getD (bestAll (D.L a) (D.I b)) []) 0)))))) (T.need (yes (List.length (List.take (Int.toNat (↑(List.length (bitsL (Int.toNat (ix (Option.getD (bestAll (D.L a) (D.I b)) []) 0)))) : Int)) (mkI (bitsL (Int.toNat (ix (Option.getD (bestAll (D.L a) (D.I b)) []) 0))))) < big)) (T.ite (sameL (List.take (Int.toNat (↑(List.length (bitsL (Int.toNat (ix (Option.getD (bestAll (D.L a) (D.I b)) []) 0)))) : Int)) (mkI (bitsL (Int.toNat (ix (Option.getD (bestAll (D.L a) (D.I b)) []) 0))))) []) (T.leaf [D.b true]) (T.leaf [D.b false])))) (T.leaf [D.b false]))) (T.ite (!(searchR (D.L a) (D.I b) 0 (2 ^ List.length (D.L a)) (false, [])).fst) (T.ite false (T.ite ((↑(Int.toNat (↑(List.length (bitsL (Int.toNat (ix (Option.getD (bestAll (D.L a) (D.I b)) []) 0)))) : Int)) : Int) == (0 : Int)) (T.leaf [D.b true]) (T.leaf [D.b false])) (T.leaf [D.b false])) (T.ite true (T.need (decide (Int.toNat (↑(List.length (bitsL (Int.toNat (ix (Option.getD (bestAll (D.L a) (D.I b)) []) 0)))) : Int) ≤ List.length (mkI (bitsL (Int.toNat (ix (Option.getD (bestAll (D.L a) (D.I b)) []) 0)))))) (T.need (decide (Int.toNat (↑(List.length (searchR (D.L a) (D.I b) 0 (2 ^ List.length (D.L a)) (false, [])).snd) : Int) ≤ List.length (mkI (searchR (D.L a) (D.I b) 0 (2 ^ List.length (D.L a)) (false, [])).snd))) (T.need (yes (List.length (List.take (Int.toNat (↑(List.length (bitsL (Int.toNat (ix (Option.getD (bestAll (D.L a) (D.I b)) []) 0)))) : Int)) (mkI (bitsL (Int.toNat (ix (Option.getD (bestAll (D.L a) (D.I b)) []) 0))))) < big)) (T.ite (sameL (List.take (Int.toNat (↑(List.length (bitsL (Int.toNat (ix (Option.getD (bestAll (D.L a) (D.I b)) []) 0)))) : Int)) (mkI (bitsL (Int.toNat (ix (Option.getD (bestAll (D.L a) (D.I b)) []) 0))))) (List.take (Int.toNat (↑(List.length (searchR (D.L a) (D.I b) 0 (2 ^ List.length (D.L a)) (false, [])).snd) : Int)) (mkI (searchR (D.L a) (D.I b) 0 (2 ^ List.length (D.L a)) (false, [])).snd))) (T.leaf [D.b true]) (T.leaf [D.b false]))))) (T.leaf [D.b false])))))))) (T.need (yes (needsOk (D.L a) = true)) (T.ite (!(jobsOk (D.L a) && within (D.I b) (0 : Int) (10000 : Int))) (T.ite false (T.ite true (T.leaf [D.b true]) (T.leaf [D.b false])) (T.leaf [D.b false])) (T.need (yes (jobsOk (D.L a) = true)) (T.ite (List.isEmpty (searchR (D.L a) (D.I b) 0 (2 ^ List.length (D.L a)) (false, [])).snd) (T.ite (!(searchR (D.L a) (D.I b) 0 (2 ^ List.length (D.L a)) (false, [])).fst) (T.ite true (T.ite true (T.leaf [D.b true]) (T.leaf [D.b false])) (T.leaf [D.b false])) (T.ite false (T.need (yes (List.length ([] : List (List D)) < big)) (T.ite true (T.leaf [D.b true]) (T.leaf [D.b false]))) (T.leaf [D.b false]))) (T.ite (!(searchR (D.L a) (D.I b) 0 (2 ^ List.length (D.L a)) (false, [])).fst) (T.ite true (T.ite true (T.leaf [D.b true]) (T.leaf [D.b false])) (T.leaf [D.b false])) (T.ite false (T.need (decide (Int.toNat (↑(List.length (searchR (D.L a) (D.I b) 0 (2 ^ List.length (D.L a)) (false, [])).snd) : Int) ≤ List.length (mkI (searchR (D.L a) (D.I b) 0 (2 ^ List.length (D.L a)) (false, [])).snd))) (T.need (yes (List.length ([] : List (List D)) < big)) (T.ite (sameL [] (List.take (Int.toNat (↑(List.length (searchR (D.L a) (D.I b) 0 (2 ^ List.length (D.L a)) (false, [])).snd) : Int)) (mkI (searchR (D.L a) (D.I b) 0 (2 ^ List.length (D.L a)) (false, [])).snd))) (T.leaf [D.b true]) (T.leaf [D.b false])))) (T.leaf [D.b false])))))))) (T.need (yes (needsOk (D.L a) = true)) (T.ite (!(jobsOk (D.L a) && within (D.I b) (0 : Int) (10000 : Int))) (T.ite true (T.ite true (T.leaf [D.b true]) (T.leaf [D.b false])) (T.leaf [D.b false])) (T.need (yes (jobsOk (D.L a) = true)) (T.ite (List.isEmpty (searchR (D.L a) (D.I b) 0 (2 ^ List.length (D.L a)) (false, [])).snd) (T.ite (!(searchR (D.L a) (D.I b) 0 (2 ^ List.length (D.L a)) (false, [])).fst) (T.ite false (T.ite true (T.leaf [D.b true]) (T.leaf [D.b false])) (T.leaf [D.b false])) (T.ite false (T.need (yes (List.length ([] : List (List D)) < big)) (T.ite true (T.leaf [D.b true]) (T.leaf [D.b false]))) (T.leaf [D.b false]))) (T.ite (!(searchR (D.L a) (D.I b) 0 (2 ^ List.length (D.L a)) (false, [])).fst) (T.ite false (T.ite true (T.leaf [D.b true]) (T.leaf [D.b false])) (T.leaf [D.b false])) (T.ite false (T.need (decide (Int.toNat (↑(List.length (searchR (D.L a) (D.I b) 0 (2 ^ List.length (D.L a)) (false, [])).snd) : Int) ≤ List.length (mkI (searchR (D.L a) (D.I b) 0 (2 ^ List.length (D.L a)) (false, [])).snd))) (T.need (yes (List.length ([] : List (List D)) < big)) (T.ite (sameL [] (List.take (Int.toNat (↑(List.length (searchR (D.L a) (D.I b) 0 (2 ^ List.length (D.L a)) (false, [])).snd) : Int)) (mkI (searchR (D.L a) (D.I b) 0 (2 ^ List.length (D.L a)) (false, [])).snd))) (T.leaf [D.b true]) (T.leaf [D.b false])))) (T.leaf [D.b false]))))))))))) := by kernel_rfl
end Go.Proofs.Ytlofnkkokcihnaa

namespace Go.Proofs.Ytlofnkkokcihnaa
open Go.Lite Go.ChangeShapes Go.WideShapes Go.ChangeAt Go.RowKit

def carServesLaw : Prop := ∀ xs : List AV, ArgsShape Try.prog 12 [50, 3] xs → ∃ n h', callA C n Unit none 6 xs [] () = some (.bool true, h', ())
theorem carServes_plain : ∀ t ∈ [50, 3], plainTy Try.prog 12 t = true := by
  intro t ht
  have h : [50, 3].all (plainTy Try.prog 12) = true := by kernel_rfl
  exact List.all_eq_true.1 h t ht
set_option maxRecDepth 100000 in
theorem carServes_lifted (law : carServesLaw) (os : Os) (started : os.Started) (H : Type) (enc : TypeId × Value → H) :
    ReturnsInHanded {} Try.checked os 6 .any (Rows.carServesSpec.pre6 enc Try.prog Try.f6 Rows.carServesRow.domain false) (Rows.carServesSpec.post enc Try.prog Try.f6 false true false false) := by
  refine returnsInHanded_of_change (C := Try.checked) own started (by kernel_rfl) Try.func6
    (ChangeSpec.witness6 (enc := enc) (C := Try.checked) false ⟨#[], #[.slice none 0 0, .int .i64 0], []⟩ 8 (by kernel_rfl) (by kernel_rfl) (by kernel_rfl) (by kernel_rfl)) ?_
  intro W base args ds gs before hval0 hW hcnd _
  have hval : ∀ (j : Nat) t v, Try.f6.params[j]? = some t → args[j]? = some v → Value.okWide Try.prog W .any base t v := hval0
  have hW' := hW
  obtain ⟨p, q, hA0, hV, rfl, hfz, hnd⟩ := hW
  have hA : DataW.TrodAll enc Try.prog W 0 (fun _ => true) true Try.f6.params.toList args.toList ds p := hA0
  have hAk := hA
  rw [Try.params6] at hA hval
  obtain ⟨xs, hs, hr⟩ := args_shape (J := fun _ => False) (d := 12) (fun t ht => carServes_plain t (by simpa using ht)) (fun j t v h1 h2 => hval j t v (by simpa using h1) (by simpa using h2)) hA
  obtain ⟨n, h', hc⟩ := law xs hs
  obtain ⟨v0, vs0, d0, ds0, p0, q0, hargs, rfl, rfl, h0, r0⟩ := trodAll_cons hA
  obtain ⟨v1, vs1, d1, ds1, p1, q1, rfl, rfl, rfl, h1, r1⟩ := trodAll_cons r0
  obtain ⟨rfl, rfl, rfl⟩ := trodAll_nil r1
  obtain rfl : args = #[v0, v1] := by cases args; simp_all
  obtain ⟨rfl, rfl⟩ := trodVars_none hV
  clear hA0 hval0
  simp only [List.append_nil] at hW'
  refine (law_calls (callsOk n) hc hr).mono fun e W' ⟨he, h1, h2, hk⟩ => ?_
  subst he
  have hlt : ∀ x ∈ p0 ++ p1, x.block < W.heap.size := fun x hx => hW'.lt x (by simpa [List.append_assoc] using hx)
  exact ⟨_, rfl, post_of_kept (pa := p0 ++ p1) (pv := []) hW' (fun _ _ _ => trodAll_mk1 (shut_bool Try.underlying4 _))
    (fun sp hsp => trodAll_carry (DataW.TrodAll.respare kids full (by rw [Try.params6]; decide) (by simpa [List.append_assoc, Rows.carServesSpec] using hAk) (fun x hx => hsp x (by simpa [List.append_assoc] using hx))) (fun x hx => sameAt_of (hk _ (hlt x hx))))
    (fun _ _ => rfl) (by simp) h1 h2 hk (ok_one (by kernel_rfl) rfl (okWide_bool_mk Try.underlying4 _))⟩
theorem carServes_over (law : carServesLaw) : Rows.CarServesSaid :=
  OpenClaim.holds_of_wide 6 Try.f6 rfl rfl rfl rfl rfl rfl rfl ⟨rfl, rfl, rfl, rfl, rfl⟩ rfl rfl rfl rfl rfl (by kernel_rfl) Try.func6 (by kernel_rfl)
    (of_decide_eq_true (by kernel_rfl)) (by unfold Func.isWrapper; first | (rw [if_pos (by decide +kernel)]; kernel_rfl) | (rw [if_neg (by decide +kernel)]; exact ⟨rfl, rfl⟩))
    (fun os started H enc _ => carServes_lifted law os started H enc)
end Go.Proofs.Ytlofnkkokcihnaa

namespace Go.Proofs.Ytlofnkkokcihnaa
open Go.Lite

theorem same_refl (a : List (List D)) : sameL a a = true := by
  unfold sameL
  rw [Bool.and_eq_true, allFrom_iff]
  exact ⟨decide_eq_true rfl, fun j _ _ => by unfold sameAt; exact beq_self_eq_true _⟩
set_option maxRecDepth 100000 in
theorem law6 (a b : D) (hlim : a.L.length < lim) : (fnT C tab6 6 s6 [a, b]).run = some [D.b true] := by
  refine (congrArg T.run (t6 a b)).trans ?_
  have hb : big = 4611686018427387904 := rfl
  refine go_yes hlim (go_not (fun _ => rfl) fun hn => go_if (fun c9 => go_if (fun _ => rfl) fun c20 => go_yes hn ?_) fun c9 => go_yes hn ?_)
  all_goals
    cases hjm : (jobsOk a.L && within b.I 0 10000) with
    | false => exact go_false rfl (go_yes hn (go_notF rfl rfl))
    | true =>
      have hj : jobsOk a.L = true := by rw [Bool.and_eq_true] at hjm; exact hjm.1
      have hl := (jobs_of hj).1
      refine go_true rfl ?_
      rcases side_all hj b.I (2 ^ a.L.length) 0 none (false, []) (by omega) (.inl ⟨rfl, rfl⟩) with ⟨h1, h2⟩ | ⟨s, hs, h2, h1⟩
      · have h1' : bestAll a.L b.I = none := h1
        rw [h1', h2]
        exact go_false rfl (go_yes hn (go_notT rfl (go_yes hj (go_true rfl (go_notF rfl rfl)))))
      · have h1' : bestAll a.L b.I = some (rowS s (valFrom a.L (mkI (bitsFrom s 0 a.L.length)) 0 (mkI (bitsFrom s 0 a.L.length)).length) (minFrom a.L (mkI (bitsFrom s 0 a.L.length)) 0 (mkI (bitsFrom s 0 a.L.length)).length)) := h1
        have hbl : bitsL (ix ((bestAll a.L b.I).getD []) 0).toNat = bitsFrom s 0 a.L.length := by
          rw [h1']
          exact bits_n hs hl
        have hlen := bits_len (s := s) a.L.length 0
        rw [hbl, h1', h2]
        simp only [Int.toNat_natCast, take_mkI, len_mkI, same_refl]
        refine go_true rfl (go_ite (fun c => ?_) fun c => ?_)
        · exact go_yes hn (go_notT rfl (go_yes hj (go_true c (go_notT rfl (go_true rfl (go_yes (by simp; omega) rfl))))))
        · exact go_yes hn (go_notT rfl (go_yes hj (go_false c (go_notT rfl (go_true rfl (go_dec (by omega) (go_dec (by omega) (go_yes (by omega) rfl))))))))
theorem kinds6 : [50, 3].flatMap (kindsL C.P) = [.ro [.int .i64, .int .i64, .bool, .ro [.int .i64]], .int .i64] := by kernel_rfl
set_option maxRecDepth 100000 in
theorem carServes_law : carServesLaw := fun xs hx =>
  law_true_wf hC (sp := sp6) (lp := lp6) (n := 12) ⟨ok28 11, ok16, ok29 11 ⟨ok60 9, ok47 10, ok64 10, ok65 6, ok63 10, trivial⟩, ok30 10, ok31 11 ⟨ok66 9, ok67 10, ok68 10, trivial⟩, ok24 11, trivial⟩ (by kernel_rfl) [] (by kernel_rfl) rfl (fun k hk => by cases hk)
    (ts := [50, 3]) (ks := s6.args) (by kernel_rfl) (of_decide_eq_true (by kernel_rfl)) (m := 2) (by kernel_rfl) (fun ds hl hw => by
      match ds, hl with
      | [a, b], _ =>
        rw [kinds6] at hw
        simp only [WfC, WfK] at hw
        exact law6 a b (Nat.lt_of_le_of_lt hw.1.1 (by decide))) 12 xs hx
theorem car_serves : Rows.CarServesSaid := carServes_over carServes_law
end Go.Proofs.Ytlofnkkokcihnaa
