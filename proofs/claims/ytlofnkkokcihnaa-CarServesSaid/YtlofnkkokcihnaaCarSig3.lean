/-
  Shapes of arguments, results and loops. Written by program.
-/
import Derived.Test.YtlofnkkokcihnaaCarTabA
namespace Go.Proofs.Ytlofnkkokcihnaa
open Go.Lite

def s16 : Sig := ⟨[], [(.k .bool, [])]⟩

def s3 : Sig := ⟨[.agg [.k (.ro [.ro [.int .i64, .int .i64]]), .k (.ro [.ro [.int .i64, .int .i64]]), .k (.ro [.int .i64]), .k (.int .i64)], .k (.int .i64), .k (.int .i64), .k .bool, .k (.int .i64), .k (.int .i64)], [(.k .bool, [])]⟩
end Go.Proofs.Ytlofnkkokcihnaa
