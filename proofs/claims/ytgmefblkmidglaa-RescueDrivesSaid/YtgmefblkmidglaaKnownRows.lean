/-
  The rows of the examples: searches first, then all that known() does. Written by program.
-/
import Derived.Test.YtgmefblkmidglaaBase
namespace Go.Proofs.Ytgmefblkmidglaa
open Go.Lite
set_option maxRecDepth 100000
def kNet : AV := .agg [.int .i64 3, .ro .n true 4 [[.int .i64 0, .int .i64 1, .int .i64 10, .nils], [.int .i64 1, .int .i64 2, .int .i64 5, .ro .b true 2 [[.int .i64 12, .int .i64 20]]], [.int .i64 0, .int .i64 2, .int .i64 30, .nils]]]
def kRow0 : Row := ⟨46, [kNet, .int .i64 0, .int .i64 8], .ro .g true 1 [[.int .i64 8], [.int .i64 18], [.int .i64 25]]⟩
theorem kR0 : callA C0 8 Unit none kRow0.f kRow0.args [] () = some (kRow0.res, [], ()) := by kernel_rfl
def kRow1 : Row := ⟨46, [kNet, .int .i64 0, .int .i64 0], .ro .g true 1 [[.int .i64 0], [.int .i64 10], [.int .i64 25]]⟩
theorem kR1 : callA C0 8 Unit none kRow1.f kRow1.args [] () = some (kRow1.res, [], ()) := by kernel_rfl
def kRow2 : Row := ⟨97, [kNet, .int .i64 2, .int .i64 15], .ro .g true 1 [[.int .i64 (-3)], [.int .i64 7], [.int .i64 15]]⟩
theorem kR2 : callA C0 8 Unit none kRow2.f kRow2.args [] () = some (kRow2.res, [], ()) := by kernel_rfl
def kRow3 : Row := ⟨97, [kNet, .int .i64 2, .int .i64 25], .ro .g true 1 [[.int .i64 10], [.int .i64 20], [.int .i64 25]]⟩
theorem kR3 : callA C0 8 Unit none kRow3.f kRow3.args [] () = some (kRow3.res, [], ()) := by kernel_rfl
def kRow4 : Row := ⟨97, [kNet, .int .i64 2, .int .i64 26], .ro .g true 1 [[.int .i64 11], [.int .i64 21], [.int .i64 26]]⟩
theorem kR4 : callA C0 8 Unit none kRow4.f kRow4.args [] () = some (kRow4.res, [], ()) := by kernel_rfl
def kRow5 : Row := ⟨97, [kNet, .int .i64 2, .int .i64 27], .ro .g true 1 [[.int .i64 12], [.int .i64 22], [.int .i64 27]]⟩
theorem kR5 : callA C0 8 Unit none kRow5.f kRow5.args [] () = some (kRow5.res, [], ()) := by kernel_rfl
def kRow6 : Row := ⟨97, [kNet, .int .i64 2, .int .i64 28], .ro .g true 1 [[.int .i64 13], [.int .i64 23], [.int .i64 28]]⟩
theorem kR6 : callA C0 8 Unit none kRow6.f kRow6.args [] () = some (kRow6.res, [], ()) := by kernel_rfl
def kRow7 : Row := ⟨97, [kNet, .int .i64 2, .int .i64 29], .ro .g true 1 [[.int .i64 14], [.int .i64 24], [.int .i64 29]]⟩
theorem kR7 : callA C0 8 Unit none kRow7.f kRow7.args [] () = some (kRow7.res, [], ()) := by kernel_rfl
def kRow8 : Row := ⟨97, [kNet, .int .i64 2, .int .i64 30], .ro .g true 1 [[.int .i64 15], [.int .i64 25], [.int .i64 30]]⟩
theorem kR8 : callA C0 8 Unit none kRow8.f kRow8.args [] () = some (kRow8.res, [], ()) := by kernel_rfl
def kRow9 : Row := ⟨97, [kNet, .int .i64 2, .int .i64 31], .ro .g true 1 [[.int .i64 16], [.int .i64 26], [.int .i64 31]]⟩
theorem kR9 : callA C0 8 Unit none kRow9.f kRow9.args [] () = some (kRow9.res, [], ()) := by kernel_rfl
def kRow10 : Row := ⟨97, [kNet, .int .i64 2, .int .i64 32], .ro .g true 1 [[.int .i64 17], [.int .i64 27], [.int .i64 32]]⟩
theorem kR10 : callA C0 8 Unit none kRow10.f kRow10.args [] () = some (kRow10.res, [], ()) := by kernel_rfl
def kRow11 : Row := ⟨97, [kNet, .int .i64 2, .int .i64 33], .ro .g true 1 [[.int .i64 18], [.int .i64 28], [.int .i64 33]]⟩
theorem kR11 : callA C0 8 Unit none kRow11.f kRow11.args [] () = some (kRow11.res, [], ()) := by kernel_rfl
def kRow12 : Row := ⟨97, [kNet, .int .i64 2, .int .i64 34], .ro .g true 1 [[.int .i64 19], [.int .i64 29], [.int .i64 34]]⟩
theorem kR12 : callA C0 8 Unit none kRow12.f kRow12.args [] () = some (kRow12.res, [], ()) := by kernel_rfl
def kRow13 : Row := ⟨97, [kNet, .int .i64 2, .int .i64 35], .ro .g true 1 [[.int .i64 20], [.int .i64 30], [.int .i64 35]]⟩
theorem kR13 : callA C0 8 Unit none kRow13.f kRow13.args [] () = some (kRow13.res, [], ()) := by kernel_rfl
def kRow14 : Row := ⟨97, [kNet, .int .i64 2, .int .i64 36], .ro .g true 1 [[.int .i64 21], [.int .i64 31], [.int .i64 36]]⟩
theorem kR14 : callA C0 8 Unit none kRow14.f kRow14.args [] () = some (kRow14.res, [], ()) := by kernel_rfl
def kRow15 : Row := ⟨97, [kNet, .int .i64 2, .int .i64 37], .ro .g true 1 [[.int .i64 22], [.int .i64 32], [.int .i64 37]]⟩
theorem kR15 : callA C0 8 Unit none kRow15.f kRow15.args [] () = some (kRow15.res, [], ()) := by kernel_rfl
def kRow16 : Row := ⟨97, [kNet, .int .i64 2, .int .i64 38], .ro .g true 1 [[.int .i64 23], [.int .i64 33], [.int .i64 38]]⟩
theorem kR16 : callA C0 8 Unit none kRow16.f kRow16.args [] () = some (kRow16.res, [], ()) := by kernel_rfl
def kRow17 : Row := ⟨97, [kNet, .int .i64 2, .int .i64 39], .ro .g true 1 [[.int .i64 24], [.int .i64 34], [.int .i64 39]]⟩
theorem kR17 : callA C0 8 Unit none kRow17.f kRow17.args [] () = some (kRow17.res, [], ()) := by kernel_rfl
def kRow18 : Row := ⟨97, [kNet, .int .i64 2, .int .i64 40], .ro .g true 1 [[.int .i64 25], [.int .i64 35], [.int .i64 40]]⟩
theorem kR18 : callA C0 8 Unit none kRow18.f kRow18.args [] () = some (kRow18.res, [], ()) := by kernel_rfl
def kRow19 : Row := ⟨97, [kNet, .int .i64 2, .int .i64 41], .ro .g true 1 [[.int .i64 26], [.int .i64 36], [.int .i64 41]]⟩
theorem kR19 : callA C0 8 Unit none kRow19.f kRow19.args [] () = some (kRow19.res, [], ()) := by kernel_rfl
def kRow20 : Row := ⟨97, [kNet, .int .i64 2, .int .i64 42], .ro .g true 1 [[.int .i64 27], [.int .i64 37], [.int .i64 42]]⟩
theorem kR20 : callA C0 8 Unit none kRow20.f kRow20.args [] () = some (kRow20.res, [], ()) := by kernel_rfl
def kRow21 : Row := ⟨97, [kNet, .int .i64 2, .int .i64 43], .ro .g true 1 [[.int .i64 28], [.int .i64 38], [.int .i64 43]]⟩
theorem kR21 : callA C0 8 Unit none kRow21.f kRow21.args [] () = some (kRow21.res, [], ()) := by kernel_rfl
def kRow22 : Row := ⟨97, [kNet, .int .i64 2, .int .i64 44], .ro .g true 1 [[.int .i64 29], [.int .i64 39], [.int .i64 44]]⟩
theorem kR22 : callA C0 8 Unit none kRow22.f kRow22.args [] () = some (kRow22.res, [], ()) := by kernel_rfl
def kTbl : List Row := [kRow0, kRow1, kRow2, kRow3, kRow4, kRow5, kRow6, kRow7, kRow8, kRow9, kRow10, kRow11, kRow12, kRow13, kRow14, kRow15, kRow16, kRow17, kRow18, kRow19, kRow20, kRow21, kRow22]
noncomputable def C1 : Cfg := { C0 with frz := fun _ => false, ext := extT kTbl }
theorem kTbl_ok : RowsOK C0 8 kTbl := ⟨kR0, kR1, kR2, kR3, kR4, kR5, kR6, kR7, kR8, kR9, kR10, kR11, kR12, kR13, kR14, kR15, kR16, kR17, kR18, kR19, kR20, kR21, kR22, trivial⟩
theorem callsOk1 (n : Nat) : CallOK C1.P (callA C1 n) := by
  refine calls_ok (C := C1) ?_ ?_ mixed ?_ ?_ n
  · intro t T h
    dsimp only [C1, C0] at h ⊢
    exact h
  · exact ext_ok (C0 := C0) rfl rfl (callsOk0 8) kTbl_ok
  · intro f fn h hb
    obtain ⟨c, hc⟩ := Option.isSome_iff_exists.1 hb
    exact (fn_ok h hc).1
  · exact fun f fn c h hb => (fn_ok h hb).2
end Go.Proofs.Ytgmefblkmidglaa
