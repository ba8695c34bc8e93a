import Derived.Test.YtlofnkkokcihnaaCfg
namespace Go.Proofs.Ytlofnkkokcihnaa
open Go.Lite
theorem known0 : callA C 12 Unit none 16 [] [] () = some (.bool true, [], ()) := by kernel_rfl
end Go.Proofs.Ytlofnkkokcihnaa
