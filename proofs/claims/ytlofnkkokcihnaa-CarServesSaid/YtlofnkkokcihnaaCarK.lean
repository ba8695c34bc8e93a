/-
  The rows of the chapter's examples are computed as they stand there.
-/
import Derived.Test.YtlofnkkokcihnaaKnown
import Derived.Test.YtlofnkkokcihnaaSym
import Derived.Test.YtlofnkkokcihnaaCarPA
import Derived.Test.YtlofnkkokcihnaaCarSpec3
namespace Go.Proofs.Ytlofnkkokcihnaa
open Go.Lite

theorem ok16 : FnOK C 12 16 (mkF s16 G16) := by
  intro args v hb h avs hv
  unfold mkF at h
  split at h
  · rename_i ds hds
    have ha : args = [] := by
      cases args with
      | nil => rfl
      | cons x y => simp [s16, fitsVs] at hds
    subst ha
    simp only [VRL] at hv
    subst hv
    simp only [s16, fitsVs, Option.some.injEq] at hds
    subst hds
    simp only [G16, T.run_map, run_leaf, Option.map_some, Option.some.injEq] at h
    obtain ⟨rfl, rfl⟩ := Prod.mk.inj h
    exact ⟨_, _, known0, rfl, rfl, fun i => by cases i <;> exact trivial⟩
  · cases h
end Go.Proofs.Ytlofnkkokcihnaa
