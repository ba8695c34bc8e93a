import Derived.Test.YtgmefblkmidglaaKnown
namespace Go.Proofs.Ytgmefblkmidglaa
open Go.Lite
/-- known() is reckoned once: a row of its own. -/
def kTrue : List Row := [⟨16, [], .bool true⟩]
noncomputable def C : Cfg := { C0 with frz := fun _ => false, ext := extT kTrue }
theorem callsOk (n : Nat) : CallOK C.P (callA C n) := by
  refine calls_ok (C := C) ?_ ?_ mixed ?_ ?_ n
  · intro t T h
    dsimp only [C, C0] at h ⊢
    exact h
  · exact ext_ok (C0 := C1) rfl rfl (callsOk1 12) ⟨known1, trivial⟩
  · intro f fn h hb
    obtain ⟨c, hc⟩ := Option.isSome_iff_exists.1 hb
    exact (fn_ok h hc).1
  · exact fun f fn c h hb => (fn_ok h hb).2
end Go.Proofs.Ytgmefblkmidglaa
