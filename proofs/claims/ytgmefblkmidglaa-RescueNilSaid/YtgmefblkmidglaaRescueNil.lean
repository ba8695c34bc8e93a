/-
  A guard that is nil, or the zero one, does nothing: the law holds for every input.
-/
import Derived.Test.YtgmefblkmidglaaSymGo
import Derived.Test.YtgmefblkmidglaaRescueNilOver
namespace Go.Proofs.Ytgmefblkmidglaa
open Go.Lite
set_option maxRecDepth 100000
theorem hC : ∀ t Y, C.ty t = some Y → tyOf C.P t = some Y := fun t Y h => by
  dsimp only [C, C0] at h ⊢
  exact h
def isTrueR : Option (AV × Heap × Unit) → Bool
  | some (.bool true, _, _) => true
  | _ => false
theorem isTrueR_spec {r : Option (AV × Heap × Unit)} (h : isTrueR r = true) : ∃ h', r = some (.bool true, h', ()) := by
  unfold isTrueR at h
  split at h
  · exact ⟨_, rfl⟩
  · cases h
theorem rescueNil_law : rescueNilLaw := fun xs hx => by
  obtain ⟨ds, hlen, hv, -, -⟩ := args_enc C.P 12 [81, 3, 3] xs [] hx (of_decide_eq_true (by kernel_rfl))
  rw [List.append_nil] at hv
  have hk : [81, 3, 3].map (argSK C.P) = [.agg [.k (.int .i64), .k (.int .i64), .k (.int .i64), .k (.int .i64)], .k (.int .i64), .k (.int .i64)] := by kernel_rfl
  rw [hk] at hv
  have hl : ds.length = 6 := hlen.trans (by kernel_rfl)
  match ds, hl with
  | [a, b, c, d, e, f], _ =>
    simp only [headVs, headV, List.headD_cons, List.tail_cons, VRL, dec, VR] at hv
    obtain ⟨x, r, rfl, ⟨ys, rfl, y1, r1, rfl, rfl, y2, r2, rfl, rfl, y3, r3, rfl, rfl, y4, r4, rfl, rfl, rfl⟩, x2, s2, rfl, rfl, x3, s3, rfl, rfl, rfl⟩ := hv
    exact ⟨12, isTrueR_spec (by kernel_rfl)⟩
theorem rescue_nil : Rows.RescueNilSaid := rescueNil_over rescueNil_law
end Go.Proofs.Ytgmefblkmidglaa
