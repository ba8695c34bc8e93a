/-
  Shapes of arguments, results and loops. Written by program.
-/
import Derived.Test.YtlofnkkokcihnaaCarTabQ
namespace Go.Proofs.Ytlofnkkokcihnaa
open Go.Lite
def s11 : Sig := ⟨[.k (.ro [.ro [.ro [.int .i64, .int .i64]], .ro [.ro [.int .i64, .int .i64]], .ro [.int .i64], .int .i64]), .k (.ro [.ro [.int .i64, .int .i64, .int .i64, .bool]]), .k (.int .i64), .agg [.k (.ro [.int .i64]), .k (.ro [.int .i64]), .k (.int .i64)]], [(.k .bool, [])]⟩
end Go.Proofs.Ytlofnkkokcihnaa
