/-
  No cell of these rows narrows 'for every input' (looked for: loops, veiled, ifaces, maps, wideKeys, modest, calm, conditions, laid).
  DERIVED. THE GIVEN ROWS OF THIS SEAT. 5 by the template 'for every input the law returns true; each argument reads behind the call as it read before'; 0 by the template 'total and deterministic' (their statements: YtgoedfonmocafaaTotals.lean).
  GIVEN WITH THE SEED: the statements are not yours to turn. If you find one false, say at which input.
  Laid BY PROGRAM, IN A SANDBOX (cutbox-rows.mjs): the forced cells as the released guide's own fill.sh prints them over the translation a0c78c86c67abe36… (all of the seat's roots in one cut). By AI agents, Wed Nov 11 2026. No macro, syntax, notation, axiom, sorry.
-/
import Derived.Test.YtgoedfonmocafaaChecked
import GoSem.Claim
import GoSem.ClaimJoined
import GoSem.ClaimMapViews
import Derived.JoinedTies
import Derived.KernelRfl
namespace Go.Proofs.Ytgoedfonmocafaa
/- THE CELL 'sum', in the pinned program and in every row, IS THE sha256 OF THE DUMP (.gsa) THAT YtgoedfonmocafaaProg.lean LOADS. Nothing in Lean hashes anything: it is a label: what it is worth is what the hold of that sum in a sandbox is worth. -/
noncomputable def Try.pinned : Pinned := { name := "ytgoedfonmocafaa", sum := "a0c78c86c67abe36d7887a4cbb5e9ef3bd296abd38b0114c85dd177f8166f108", checked := Try.checked }
namespace Rows
def none {H : Type} : Left H := { results := [], args := [] }

/-- 'hairpintop.TopFuelled': WHATEVER THE INPUT: true; the input reads as it did. -/
def topFuelledSpec : ChangeSpec := { name := "topFuelled", fn := fun _ => fun
  | [d1, d2, d3, d4, d5, d6, d7] => { results := [.lit (.bool true)], args := [d1, d2, d3, d4, d5, d6, d7] }
  | _ => none }
def topFuelledRow : OpenClaim := { program := "ytgoedfonmocafaa", sum := "a0c78c86c67abe36d7887a4cbb5e9ef3bd296abd38b0114c85dd177f8166f108", func := "hairpin/hairpintop.TopFuelled", spec := "topFuelled", unfollowed := true, recurses := true, apart := false }
def TopFuelledSaid : Prop := topFuelledRow.holds Try.pinned (OpenSpec.ofChange topFuelledSpec)

/-- ITS FALSE NEIGHBOUR: 'it returns false'. Refute it at one input. -/
def topFuelledWrong : ChangeSpec := { name := "topFuelled", fn := fun _ => fun
  | [d1, d2, d3, d4, d5, d6, d7] => { results := [.lit (.bool false)], args := [d1, d2, d3, d4, d5, d6, d7] }
  | _ => none }
def TopFuelledWrongFalsely : Prop := topFuelledRow.holds Try.pinned (OpenSpec.ofChange topFuelledWrong)

/-- 'hairpintop.TopTyres': WHATEVER THE INPUT: true; the input reads as it did. -/
def topTyresSpec : ChangeSpec := { name := "topTyres", fn := fun _ => fun
  | [d1, d2, d3, d4, d5, d6] => { results := [.lit (.bool true)], args := [d1, d2, d3, d4, d5, d6] }
  | _ => none }
def topTyresRow : OpenClaim := { program := "ytgoedfonmocafaa", sum := "a0c78c86c67abe36d7887a4cbb5e9ef3bd296abd38b0114c85dd177f8166f108", func := "hairpin/hairpintop.TopTyres", spec := "topTyres", unfollowed := true, recurses := true, apart := false }
def TopTyresSaid : Prop := topTyresRow.holds Try.pinned (OpenSpec.ofChange topTyresSpec)

/-- ITS FALSE NEIGHBOUR: 'it returns false'. Refute it at one input. -/
def topTyresWrong : ChangeSpec := { name := "topTyres", fn := fun _ => fun
  | [d1, d2, d3, d4, d5, d6] => { results := [.lit (.bool false)], args := [d1, d2, d3, d4, d5, d6] }
  | _ => none }
def TopTyresWrongFalsely : Prop := topTyresRow.holds Try.pinned (OpenSpec.ofChange topTyresWrong)

/-- 'hairpintop.TopServed': WHATEVER THE INPUT: true; the input reads as it did. -/
def topServedSpec : ChangeSpec := { name := "topServed", fn := fun _ => fun
  | [d1, d2, d3, d4, d5, d6] => { results := [.lit (.bool true)], args := [d1, d2, d3, d4, d5, d6] }
  | _ => none }
def topServedRow : OpenClaim := { program := "ytgoedfonmocafaa", sum := "a0c78c86c67abe36d7887a4cbb5e9ef3bd296abd38b0114c85dd177f8166f108", func := "hairpin/hairpintop.TopServed", spec := "topServed", unfollowed := true, recurses := true, apart := false }
def TopServedSaid : Prop := topServedRow.holds Try.pinned (OpenSpec.ofChange topServedSpec)

/-- ITS FALSE NEIGHBOUR: 'it returns false'. Refute it at one input. -/
def topServedWrong : ChangeSpec := { name := "topServed", fn := fun _ => fun
  | [d1, d2, d3, d4, d5, d6] => { results := [.lit (.bool false)], args := [d1, d2, d3, d4, d5, d6] }
  | _ => none }
def TopServedWrongFalsely : Prop := topServedRow.holds Try.pinned (OpenSpec.ofChange topServedWrong)

/-- 'hairpintop.TopReached': WHATEVER THE INPUT: true; the input reads as it did. -/
def topReachedSpec : ChangeSpec := { name := "topReached", fn := fun _ => fun
  | [d1, d2, d3] => { results := [.lit (.bool true)], args := [d1, d2, d3] }
  | _ => none }
def topReachedRow : OpenClaim := { program := "ytgoedfonmocafaa", sum := "a0c78c86c67abe36d7887a4cbb5e9ef3bd296abd38b0114c85dd177f8166f108", func := "hairpin/hairpintop.TopReached", spec := "topReached", unfollowed := true, recurses := true, apart := false }
def TopReachedSaid : Prop := topReachedRow.holds Try.pinned (OpenSpec.ofChange topReachedSpec)

/-- ITS FALSE NEIGHBOUR: 'it returns false'. Refute it at one input. -/
def topReachedWrong : ChangeSpec := { name := "topReached", fn := fun _ => fun
  | [d1, d2, d3] => { results := [.lit (.bool false)], args := [d1, d2, d3] }
  | _ => none }
def TopReachedWrongFalsely : Prop := topReachedRow.holds Try.pinned (OpenSpec.ofChange topReachedWrong)

/-- 'hairpintop.TopClosed': WHATEVER THE INPUT: true; the input reads as it did. -/
def topClosedSpec : ChangeSpec := { name := "topClosed", fn := fun _ => fun
  | [d1, d2, d3, d4, d5, d6] => { results := [.lit (.bool true)], args := [d1, d2, d3, d4, d5, d6] }
  | _ => none }
def topClosedRow : OpenClaim := { program := "ytgoedfonmocafaa", sum := "a0c78c86c67abe36d7887a4cbb5e9ef3bd296abd38b0114c85dd177f8166f108", func := "hairpin/hairpintop.TopClosed", spec := "topClosed", unfollowed := true, recurses := true, apart := false }
def TopClosedSaid : Prop := topClosedRow.holds Try.pinned (OpenSpec.ofChange topClosedSpec)

/-- ITS FALSE NEIGHBOUR: 'it returns false'. Refute it at one input. -/
def topClosedWrong : ChangeSpec := { name := "topClosed", fn := fun _ => fun
  | [d1, d2, d3, d4, d5, d6] => { results := [.lit (.bool false)], args := [d1, d2, d3, d4, d5, d6] }
  | _ => none }
def TopClosedWrongFalsely : Prop := topClosedRow.holds Try.pinned (OpenSpec.ofChange topClosedWrong)

/- THE SECOND FORM. 'bulk': how many values and letters a reading holds, each counted each time it is reached (what is shared counts as often as it is met; a slice's spare places count too). A statement '..UptoSaid' is the law's where the arguments, and the package variables that the reading takes, are together of bulk at most 1048576: NARROWER than '..Said'. Prove '..Said' where nothing that the law and all that it calls make is longer than what came in: it says more and counts as full. Else prove '..UptoSaid'. A law counts once. -/
mutual
def uptoBulk {H : Type} : DataW H → Nat
  | .lit (.string bytes) => bytes.length + 1
  | .lit _ => 1
  | .nil => 1
  | .ptr d => uptoBulk d + 1
  | .slice elems spare => uptoBulkAll elems + uptoBulkAll spare + 1
  | .agg parts => uptoBulkAll parts + 1
  | .iface _ d => uptoBulk d + 1
  | .map entries => uptoBulkEntries entries + 1
  | .held _ => 1
def uptoBulkAll {H : Type} : List (DataW H) → Nat
  | [] => 0
  | d :: r => uptoBulk d + uptoBulkAll r
def uptoBulkEntries {H : Type} : List (Lit × DataW H) → Nat
  | [] => 0
  | x :: r => uptoBulkEntry x + uptoBulkEntries r
def uptoBulkEntry {H : Type} : Lit × DataW H → Nat
  | (.string bytes, d) => bytes.length + uptoBulk d + 1
  | (_, d) => uptoBulk d + 1
 end
def uptoSmall : (H : Type) → List (DataW H) → Bool := fun _ ds => decide (uptoBulkAll ds ≤ 1048576)
def OpenSpec.upto (s : _root_.Go.ChangeSpec) : _root_.Go.OpenSpec := { _root_.Go.OpenSpec.ofChange s with cond := some uptoSmall }

/-- 'hairpintop.TopFuelled', WHERE WHAT IT READS IS OF BULK AT MOST 1048576: true; the input reads as it did. -/
def topFuelledUptoRow : OpenClaim := { program := "ytgoedfonmocafaa", sum := "a0c78c86c67abe36d7887a4cbb5e9ef3bd296abd38b0114c85dd177f8166f108", func := "hairpin/hairpintop.TopFuelled", spec := "topFuelled", unfollowed := true, recurses := true, apart := false, narrowed := true }
def TopFuelledUptoSaid : Prop := topFuelledUptoRow.holds Try.pinned (OpenSpec.upto topFuelledSpec)

/-- 'hairpintop.TopTyres', WHERE WHAT IT READS IS OF BULK AT MOST 1048576: true; the input reads as it did. -/
def topTyresUptoRow : OpenClaim := { program := "ytgoedfonmocafaa", sum := "a0c78c86c67abe36d7887a4cbb5e9ef3bd296abd38b0114c85dd177f8166f108", func := "hairpin/hairpintop.TopTyres", spec := "topTyres", unfollowed := true, recurses := true, apart := false, narrowed := true }
def TopTyresUptoSaid : Prop := topTyresUptoRow.holds Try.pinned (OpenSpec.upto topTyresSpec)

/-- 'hairpintop.TopServed', WHERE WHAT IT READS IS OF BULK AT MOST 1048576: true; the input reads as it did. -/
def topServedUptoRow : OpenClaim := { program := "ytgoedfonmocafaa", sum := "a0c78c86c67abe36d7887a4cbb5e9ef3bd296abd38b0114c85dd177f8166f108", func := "hairpin/hairpintop.TopServed", spec := "topServed", unfollowed := true, recurses := true, apart := false, narrowed := true }
def TopServedUptoSaid : Prop := topServedUptoRow.holds Try.pinned (OpenSpec.upto topServedSpec)

/-- 'hairpintop.TopReached', WHERE WHAT IT READS IS OF BULK AT MOST 1048576: true; the input reads as it did. -/
def topReachedUptoRow : OpenClaim := { program := "ytgoedfonmocafaa", sum := "a0c78c86c67abe36d7887a4cbb5e9ef3bd296abd38b0114c85dd177f8166f108", func := "hairpin/hairpintop.TopReached", spec := "topReached", unfollowed := true, recurses := true, apart := false, narrowed := true }
def TopReachedUptoSaid : Prop := topReachedUptoRow.holds Try.pinned (OpenSpec.upto topReachedSpec)

/-- 'hairpintop.TopClosed', WHERE WHAT IT READS IS OF BULK AT MOST 1048576: true; the input reads as it did. -/
def topClosedUptoRow : OpenClaim := { program := "ytgoedfonmocafaa", sum := "a0c78c86c67abe36d7887a4cbb5e9ef3bd296abd38b0114c85dd177f8166f108", func := "hairpin/hairpintop.TopClosed", spec := "topClosed", unfollowed := true, recurses := true, apart := false, narrowed := true }
def TopClosedUptoSaid : Prop := topClosedUptoRow.holds Try.pinned (OpenSpec.upto topClosedSpec)

end Rows
end Go.Proofs.Ytgoedfonmocafaa
