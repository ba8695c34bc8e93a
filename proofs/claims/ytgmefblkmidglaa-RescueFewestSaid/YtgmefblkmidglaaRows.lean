/-
  No cell of these rows narrows 'for every input' (looked for: loops, veiled, ifaces, maps, wideKeys, modest, calm, conditions, laid).
  DERIVED. THE GIVEN ROWS OF THIS SEAT. 12 by the template 'for every input the law returns true; each argument reads behind the call as it read before'; 0 by the template 'total and deterministic' (their statements: YtgmefblkmidglaaTotals.lean).
  GIVEN WITH THE SEED: the statements are not yours to turn. If you find one false, say at which input.
  Laid BY PROGRAM, IN A SANDBOX (cutbox-rows.mjs): the forced cells as the released guide's own fill.sh prints them over the translation 139b3fe97be6a346… (all of the seat's roots in one cut). By AI agents, Wed Nov 11 2026. No macro, syntax, notation, axiom, sorry.
-/
import Derived.Test.YtgmefblkmidglaaChecked
import GoSem.Claim
import GoSem.ClaimJoined
import GoSem.ClaimMapViews
import Derived.JoinedTies
import Derived.KernelRfl
namespace Go.Proofs.Ytgmefblkmidglaa
/- THE CELL 'sum', in the pinned program and in every row, IS THE sha256 OF THE DUMP (.gsa) THAT YtgmefblkmidglaaProg.lean LOADS. Nothing in Lean hashes anything: it is a label: what it is worth is what the hold of that sum in a sandbox is worth. -/
noncomputable def Try.pinned : Pinned := { name := "ytgmefblkmidglaa", sum := "139b3fe97be6a34653ece380c61604ff81317b2a2d2d40e1b31cdc210fdd393a", checked := Try.checked }
namespace Rows
def none {H : Type} : Left H := { results := [], args := [] }

/-- 'hairpinlaw06.RescueArrives': WHATEVER THE INPUT: true; the input reads as it did. -/
def rescueArrivesSpec : ChangeSpec := { name := "rescueArrives", fn := fun _ => fun
  | [d1, d2, d3] => { results := [.lit (.bool true)], args := [d1, d2, d3] }
  | _ => none }
def rescueArrivesRow : OpenClaim := { program := "ytgmefblkmidglaa", sum := "139b3fe97be6a34653ece380c61604ff81317b2a2d2d40e1b31cdc210fdd393a", func := "hairpin/hairpinlaw06.RescueArrives", spec := "rescueArrives", unfollowed := true, recurses := true, apart := false }
def RescueArrivesSaid : Prop := rescueArrivesRow.holds Try.pinned (OpenSpec.ofChange rescueArrivesSpec)

/-- ITS FALSE NEIGHBOUR: 'it returns false'. Refute it at one input. -/
def rescueArrivesWrong : ChangeSpec := { name := "rescueArrives", fn := fun _ => fun
  | [d1, d2, d3] => { results := [.lit (.bool false)], args := [d1, d2, d3] }
  | _ => none }
def RescueArrivesWrongFalsely : Prop := rescueArrivesRow.holds Try.pinned (OpenSpec.ofChange rescueArrivesWrong)

/-- 'hairpinlaw06.RescueWays': WHATEVER THE INPUT: true; the input reads as it did. -/
def rescueWaysSpec : ChangeSpec := { name := "rescueWays", fn := fun _ => fun
  | [d1, d2, d3, d4] => { results := [.lit (.bool true)], args := [d1, d2, d3, d4] }
  | _ => none }
def rescueWaysRow : OpenClaim := { program := "ytgmefblkmidglaa", sum := "139b3fe97be6a34653ece380c61604ff81317b2a2d2d40e1b31cdc210fdd393a", func := "hairpin/hairpinlaw06.RescueWays", spec := "rescueWays", unfollowed := true, recurses := true, apart := false }
def RescueWaysSaid : Prop := rescueWaysRow.holds Try.pinned (OpenSpec.ofChange rescueWaysSpec)

/-- ITS FALSE NEIGHBOUR: 'it returns false'. Refute it at one input. -/
def rescueWaysWrong : ChangeSpec := { name := "rescueWays", fn := fun _ => fun
  | [d1, d2, d3, d4] => { results := [.lit (.bool false)], args := [d1, d2, d3, d4] }
  | _ => none }
def RescueWaysWrongFalsely : Prop := rescueWaysRow.holds Try.pinned (OpenSpec.ofChange rescueWaysWrong)

/-- 'hairpinlaw06.RescueDrives': WHATEVER THE INPUT: true; the input reads as it did. -/
def rescueDrivesSpec : ChangeSpec := { name := "rescueDrives", fn := fun _ => fun
  | [d1, d2, d3, d4, d5, d6] => { results := [.lit (.bool true)], args := [d1, d2, d3, d4, d5, d6] }
  | _ => none }
def rescueDrivesRow : OpenClaim := { program := "ytgmefblkmidglaa", sum := "139b3fe97be6a34653ece380c61604ff81317b2a2d2d40e1b31cdc210fdd393a", func := "hairpin/hairpinlaw06.RescueDrives", spec := "rescueDrives", unfollowed := true, recurses := true, apart := false }
def RescueDrivesSaid : Prop := rescueDrivesRow.holds Try.pinned (OpenSpec.ofChange rescueDrivesSpec)

/-- ITS FALSE NEIGHBOUR: 'it returns false'. Refute it at one input. -/
def rescueDrivesWrong : ChangeSpec := { name := "rescueDrives", fn := fun _ => fun
  | [d1, d2, d3, d4, d5, d6] => { results := [.lit (.bool false)], args := [d1, d2, d3, d4, d5, d6] }
  | _ => none }
def RescueDrivesWrongFalsely : Prop := rescueDrivesRow.holds Try.pinned (OpenSpec.ofChange rescueDrivesWrong)

/-- 'hairpinlaw06.RescueOpen': WHATEVER THE INPUT: true; the input reads as it did. -/
def rescueOpenSpec : ChangeSpec := { name := "rescueOpen", fn := fun _ => fun
  | [d1, d2, d3] => { results := [.lit (.bool true)], args := [d1, d2, d3] }
  | _ => none }
def rescueOpenRow : OpenClaim := { program := "ytgmefblkmidglaa", sum := "139b3fe97be6a34653ece380c61604ff81317b2a2d2d40e1b31cdc210fdd393a", func := "hairpin/hairpinlaw06.RescueOpen", spec := "rescueOpen", unfollowed := true, recurses := true, apart := false }
def RescueOpenSaid : Prop := rescueOpenRow.holds Try.pinned (OpenSpec.ofChange rescueOpenSpec)

/-- ITS FALSE NEIGHBOUR: 'it returns false'. Refute it at one input. -/
def rescueOpenWrong : ChangeSpec := { name := "rescueOpen", fn := fun _ => fun
  | [d1, d2, d3] => { results := [.lit (.bool false)], args := [d1, d2, d3] }
  | _ => none }
def RescueOpenWrongFalsely : Prop := rescueOpenRow.holds Try.pinned (OpenSpec.ofChange rescueOpenWrong)

/-- 'hairpinlaw06.RescueGaps': WHATEVER THE INPUT: true; the input reads as it did. -/
def rescueGapsSpec : ChangeSpec := { name := "rescueGaps", fn := fun _ => fun
  | [d1, d2, d3, d4] => { results := [.lit (.bool true)], args := [d1, d2, d3, d4] }
  | _ => none }
def rescueGapsRow : OpenClaim := { program := "ytgmefblkmidglaa", sum := "139b3fe97be6a34653ece380c61604ff81317b2a2d2d40e1b31cdc210fdd393a", func := "hairpin/hairpinlaw06.RescueGaps", spec := "rescueGaps", unfollowed := true, recurses := true, apart := false }
def RescueGapsSaid : Prop := rescueGapsRow.holds Try.pinned (OpenSpec.ofChange rescueGapsSpec)

/-- ITS FALSE NEIGHBOUR: 'it returns false'. Refute it at one input. -/
def rescueGapsWrong : ChangeSpec := { name := "rescueGaps", fn := fun _ => fun
  | [d1, d2, d3, d4] => { results := [.lit (.bool false)], args := [d1, d2, d3, d4] }
  | _ => none }
def RescueGapsWrongFalsely : Prop := rescueGapsRow.holds Try.pinned (OpenSpec.ofChange rescueGapsWrong)

/-- 'hairpinlaw06.RescueMore': WHATEVER THE INPUT: true; the input reads as it did. -/
def rescueMoreSpec : ChangeSpec := { name := "rescueMore", fn := fun _ => fun
  | [d1, d2, d3, d4, d5, d6] => { results := [.lit (.bool true)], args := [d1, d2, d3, d4, d5, d6] }
  | _ => none }
def rescueMoreRow : OpenClaim := { program := "ytgmefblkmidglaa", sum := "139b3fe97be6a34653ece380c61604ff81317b2a2d2d40e1b31cdc210fdd393a", func := "hairpin/hairpinlaw06.RescueMore", spec := "rescueMore", unfollowed := true, recurses := true, apart := false }
def RescueMoreSaid : Prop := rescueMoreRow.holds Try.pinned (OpenSpec.ofChange rescueMoreSpec)

/-- ITS FALSE NEIGHBOUR: 'it returns false'. Refute it at one input. -/
def rescueMoreWrong : ChangeSpec := { name := "rescueMore", fn := fun _ => fun
  | [d1, d2, d3, d4, d5, d6] => { results := [.lit (.bool false)], args := [d1, d2, d3, d4, d5, d6] }
  | _ => none }
def RescueMoreWrongFalsely : Prop := rescueMoreRow.holds Try.pinned (OpenSpec.ofChange rescueMoreWrong)

/-- 'hairpinlaw06.RescueLeast': WHATEVER THE INPUT: true; the input reads as it did. -/
def rescueLeastSpec : ChangeSpec := { name := "rescueLeast", fn := fun _ => fun
  | [d1, d2, d3, d4] => { results := [.lit (.bool true)], args := [d1, d2, d3, d4] }
  | _ => none }
def rescueLeastRow : OpenClaim := { program := "ytgmefblkmidglaa", sum := "139b3fe97be6a34653ece380c61604ff81317b2a2d2d40e1b31cdc210fdd393a", func := "hairpin/hairpinlaw06.RescueLeast", spec := "rescueLeast", unfollowed := true, recurses := true, apart := false }
def RescueLeastSaid : Prop := rescueLeastRow.holds Try.pinned (OpenSpec.ofChange rescueLeastSpec)

/-- ITS FALSE NEIGHBOUR: 'it returns false'. Refute it at one input. -/
def rescueLeastWrong : ChangeSpec := { name := "rescueLeast", fn := fun _ => fun
  | [d1, d2, d3, d4] => { results := [.lit (.bool false)], args := [d1, d2, d3, d4] }
  | _ => none }
def RescueLeastWrongFalsely : Prop := rescueLeastRow.holds Try.pinned (OpenSpec.ofChange rescueLeastWrong)

/-- 'hairpinlaw06.RescueFewest': WHATEVER THE INPUT: true; the input reads as it did. -/
def rescueFewestSpec : ChangeSpec := { name := "rescueFewest", fn := fun _ => fun
  | [d1, d2, d3, d4, d5] => { results := [.lit (.bool true)], args := [d1, d2, d3, d4, d5] }
  | _ => none }
def rescueFewestRow : OpenClaim := { program := "ytgmefblkmidglaa", sum := "139b3fe97be6a34653ece380c61604ff81317b2a2d2d40e1b31cdc210fdd393a", func := "hairpin/hairpinlaw06.RescueFewest", spec := "rescueFewest", unfollowed := true, recurses := true, apart := false }
def RescueFewestSaid : Prop := rescueFewestRow.holds Try.pinned (OpenSpec.ofChange rescueFewestSpec)

/-- ITS FALSE NEIGHBOUR: 'it returns false'. Refute it at one input. -/
def rescueFewestWrong : ChangeSpec := { name := "rescueFewest", fn := fun _ => fun
  | [d1, d2, d3, d4, d5] => { results := [.lit (.bool false)], args := [d1, d2, d3, d4, d5] }
  | _ => none }
def RescueFewestWrongFalsely : Prop := rescueFewestRow.holds Try.pinned (OpenSpec.ofChange rescueFewestWrong)

/-- 'hairpinlaw06.RescueGuards': WHATEVER THE INPUT: true; the input reads as it did. -/
def rescueGuardsSpec : ChangeSpec := { name := "rescueGuards", fn := fun _ => fun
  | [d1, d2] => { results := [.lit (.bool true)], args := [d1, d2] }
  | _ => none }
def rescueGuardsRow : OpenClaim := { program := "ytgmefblkmidglaa", sum := "139b3fe97be6a34653ece380c61604ff81317b2a2d2d40e1b31cdc210fdd393a", func := "hairpin/hairpinlaw06.RescueGuards", spec := "rescueGuards", unfollowed := true, recurses := true, apart := false }
def RescueGuardsSaid : Prop := rescueGuardsRow.holds Try.pinned (OpenSpec.ofChange rescueGuardsSpec)

/-- ITS FALSE NEIGHBOUR: 'it returns false'. Refute it at one input. -/
def rescueGuardsWrong : ChangeSpec := { name := "rescueGuards", fn := fun _ => fun
  | [d1, d2] => { results := [.lit (.bool false)], args := [d1, d2] }
  | _ => none }
def RescueGuardsWrongFalsely : Prop := rescueGuardsRow.holds Try.pinned (OpenSpec.ofChange rescueGuardsWrong)

/-- 'hairpinlaw06.RescueOrder': WHATEVER THE INPUT: true; the input reads as it did. -/
def rescueOrderSpec : ChangeSpec := { name := "rescueOrder", fn := fun _ => fun
  | [d1, d2, d3, d4, d5] => { results := [.lit (.bool true)], args := [d1, d2, d3, d4, d5] }
  | _ => none }
def rescueOrderRow : OpenClaim := { program := "ytgmefblkmidglaa", sum := "139b3fe97be6a34653ece380c61604ff81317b2a2d2d40e1b31cdc210fdd393a", func := "hairpin/hairpinlaw06.RescueOrder", spec := "rescueOrder", unfollowed := true, recurses := true, apart := false }
def RescueOrderSaid : Prop := rescueOrderRow.holds Try.pinned (OpenSpec.ofChange rescueOrderSpec)

/-- ITS FALSE NEIGHBOUR: 'it returns false'. Refute it at one input. -/
def rescueOrderWrong : ChangeSpec := { name := "rescueOrder", fn := fun _ => fun
  | [d1, d2, d3, d4, d5] => { results := [.lit (.bool false)], args := [d1, d2, d3, d4, d5] }
  | _ => none }
def RescueOrderWrongFalsely : Prop := rescueOrderRow.holds Try.pinned (OpenSpec.ofChange rescueOrderWrong)

/-- 'hairpinlaw06.RescueSafe': WHATEVER THE INPUT: true; the input reads as it did. -/
def rescueSafeSpec : ChangeSpec := { name := "rescueSafe", fn := fun _ => fun
  | [d1, d2, d3, d4] => { results := [.lit (.bool true)], args := [d1, d2, d3, d4] }
  | _ => none }
def rescueSafeRow : OpenClaim := { program := "ytgmefblkmidglaa", sum := "139b3fe97be6a34653ece380c61604ff81317b2a2d2d40e1b31cdc210fdd393a", func := "hairpin/hairpinlaw06.RescueSafe", spec := "rescueSafe", unfollowed := true, recurses := true, apart := false }
def RescueSafeSaid : Prop := rescueSafeRow.holds Try.pinned (OpenSpec.ofChange rescueSafeSpec)

/-- ITS FALSE NEIGHBOUR: 'it returns false'. Refute it at one input. -/
def rescueSafeWrong : ChangeSpec := { name := "rescueSafe", fn := fun _ => fun
  | [d1, d2, d3, d4] => { results := [.lit (.bool false)], args := [d1, d2, d3, d4] }
  | _ => none }
def RescueSafeWrongFalsely : Prop := rescueSafeRow.holds Try.pinned (OpenSpec.ofChange rescueSafeWrong)

/-- 'hairpinlaw06.RescueNil': WHATEVER THE INPUT: true; the input reads as it did. -/
def rescueNilSpec : ChangeSpec := { name := "rescueNil", fn := fun _ => fun
  | [d1, d2, d3] => { results := [.lit (.bool true)], args := [d1, d2, d3] }
  | _ => none }
def rescueNilRow : OpenClaim := { program := "ytgmefblkmidglaa", sum := "139b3fe97be6a34653ece380c61604ff81317b2a2d2d40e1b31cdc210fdd393a", func := "hairpin/hairpinlaw06.RescueNil", spec := "rescueNil", unfollowed := true, recurses := true, apart := false }
def RescueNilSaid : Prop := rescueNilRow.holds Try.pinned (OpenSpec.ofChange rescueNilSpec)

/-- ITS FALSE NEIGHBOUR: 'it returns false'. Refute it at one input. -/
def rescueNilWrong : ChangeSpec := { name := "rescueNil", fn := fun _ => fun
  | [d1, d2, d3] => { results := [.lit (.bool false)], args := [d1, d2, d3] }
  | _ => none }
def RescueNilWrongFalsely : Prop := rescueNilRow.holds Try.pinned (OpenSpec.ofChange rescueNilWrong)

/- THE SECOND FORM. 'bulk': how many values and letters a reading holds, each counted each time it is reached (what is shared counts as often as it is met; a slice's spare places count too). A statement '..UptoSaid' is the law's where the arguments, and the package variables that the reading takes, are together of bulk at most 1048576: NARROWER than '..Said'. Prove '..Said' where nothing that the law and all that it calls make is longer than what came in: it says more and counts as full. Else prove '..UptoSaid'. A law counts once. -/
mutual
def uptoBulk {H : Type} : DataW H → Nat
  | .lit (.string bytes) => bytes.length + 1
  | .lit _ => 1
  | .nil => 1
  | .ptr d => uptoBulk d + 1
  | .slice elems spare => uptoBulkAll elems + uptoBulkAll spare + 1
  | .agg parts => uptoBulkAll parts + 1
  | .iface _ d => uptoBulk d + 1
  | .map entries => uptoBulkEntries entries + 1
  | .held _ => 1
def uptoBulkAll {H : Type} : List (DataW H) → Nat
  | [] => 0
  | d :: r => uptoBulk d + uptoBulkAll r
def uptoBulkEntries {H : Type} : List (Lit × DataW H) → Nat
  | [] => 0
  | x :: r => uptoBulkEntry x + uptoBulkEntries r
def uptoBulkEntry {H : Type} : Lit × DataW H → Nat
  | (.string bytes, d) => bytes.length + uptoBulk d + 1
  | (_, d) => uptoBulk d + 1
 end
def uptoSmall : (H : Type) → List (DataW H) → Bool := fun _ ds => decide (uptoBulkAll ds ≤ 1048576)
def OpenSpec.upto (s : _root_.Go.ChangeSpec) : _root_.Go.OpenSpec := { _root_.Go.OpenSpec.ofChange s with cond := some uptoSmall }

/-- 'hairpinlaw06.RescueArrives', WHERE WHAT IT READS IS OF BULK AT MOST 1048576: true; the input reads as it did. -/
def rescueArrivesUptoRow : OpenClaim := { program := "ytgmefblkmidglaa", sum := "139b3fe97be6a34653ece380c61604ff81317b2a2d2d40e1b31cdc210fdd393a", func := "hairpin/hairpinlaw06.RescueArrives", spec := "rescueArrives", unfollowed := true, recurses := true, apart := false, narrowed := true }
def RescueArrivesUptoSaid : Prop := rescueArrivesUptoRow.holds Try.pinned (OpenSpec.upto rescueArrivesSpec)

/-- 'hairpinlaw06.RescueWays', WHERE WHAT IT READS IS OF BULK AT MOST 1048576: true; the input reads as it did. -/
def rescueWaysUptoRow : OpenClaim := { program := "ytgmefblkmidglaa", sum := "139b3fe97be6a34653ece380c61604ff81317b2a2d2d40e1b31cdc210fdd393a", func := "hairpin/hairpinlaw06.RescueWays", spec := "rescueWays", unfollowed := true, recurses := true, apart := false, narrowed := true }
def RescueWaysUptoSaid : Prop := rescueWaysUptoRow.holds Try.pinned (OpenSpec.upto rescueWaysSpec)

/-- 'hairpinlaw06.RescueDrives', WHERE WHAT IT READS IS OF BULK AT MOST 1048576: true; the input reads as it did. -/
def rescueDrivesUptoRow : OpenClaim := { program := "ytgmefblkmidglaa", sum := "139b3fe97be6a34653ece380c61604ff81317b2a2d2d40e1b31cdc210fdd393a", func := "hairpin/hairpinlaw06.RescueDrives", spec := "rescueDrives", unfollowed := true, recurses := true, apart := false, narrowed := true }
def RescueDrivesUptoSaid : Prop := rescueDrivesUptoRow.holds Try.pinned (OpenSpec.upto rescueDrivesSpec)

/-- 'hairpinlaw06.RescueOpen', WHERE WHAT IT READS IS OF BULK AT MOST 1048576: true; the input reads as it did. -/
def rescueOpenUptoRow : OpenClaim := { program := "ytgmefblkmidglaa", sum := "139b3fe97be6a34653ece380c61604ff81317b2a2d2d40e1b31cdc210fdd393a", func := "hairpin/hairpinlaw06.RescueOpen", spec := "rescueOpen", unfollowed := true, recurses := true, apart := false, narrowed := true }
def RescueOpenUptoSaid : Prop := rescueOpenUptoRow.holds Try.pinned (OpenSpec.upto rescueOpenSpec)

/-- 'hairpinlaw06.RescueGaps', WHERE WHAT IT READS IS OF BULK AT MOST 1048576: true; the input reads as it did. -/
def rescueGapsUptoRow : OpenClaim := { program := "ytgmefblkmidglaa", sum := "139b3fe97be6a34653ece380c61604ff81317b2a2d2d40e1b31cdc210fdd393a", func := "hairpin/hairpinlaw06.RescueGaps", spec := "rescueGaps", unfollowed := true, recurses := true, apart := false, narrowed := true }
def RescueGapsUptoSaid : Prop := rescueGapsUptoRow.holds Try.pinned (OpenSpec.upto rescueGapsSpec)

/-- 'hairpinlaw06.RescueMore', WHERE WHAT IT READS IS OF BULK AT MOST 1048576: true; the input reads as it did. -/
def rescueMoreUptoRow : OpenClaim := { program := "ytgmefblkmidglaa", sum := "139b3fe97be6a34653ece380c61604ff81317b2a2d2d40e1b31cdc210fdd393a", func := "hairpin/hairpinlaw06.RescueMore", spec := "rescueMore", unfollowed := true, recurses := true, apart := false, narrowed := true }
def RescueMoreUptoSaid : Prop := rescueMoreUptoRow.holds Try.pinned (OpenSpec.upto rescueMoreSpec)

/-- 'hairpinlaw06.RescueLeast', WHERE WHAT IT READS IS OF BULK AT MOST 1048576: true; the input reads as it did. -/
def rescueLeastUptoRow : OpenClaim := { program := "ytgmefblkmidglaa", sum := "139b3fe97be6a34653ece380c61604ff81317b2a2d2d40e1b31cdc210fdd393a", func := "hairpin/hairpinlaw06.RescueLeast", spec := "rescueLeast", unfollowed := true, recurses := true, apart := false, narrowed := true }
def RescueLeastUptoSaid : Prop := rescueLeastUptoRow.holds Try.pinned (OpenSpec.upto rescueLeastSpec)

/-- 'hairpinlaw06.RescueFewest', WHERE WHAT IT READS IS OF BULK AT MOST 1048576: true; the input reads as it did. -/
def rescueFewestUptoRow : OpenClaim := { program := "ytgmefblkmidglaa", sum := "139b3fe97be6a34653ece380c61604ff81317b2a2d2d40e1b31cdc210fdd393a", func := "hairpin/hairpinlaw06.RescueFewest", spec := "rescueFewest", unfollowed := true, recurses := true, apart := false, narrowed := true }
def RescueFewestUptoSaid : Prop := rescueFewestUptoRow.holds Try.pinned (OpenSpec.upto rescueFewestSpec)

/-- 'hairpinlaw06.RescueGuards', WHERE WHAT IT READS IS OF BULK AT MOST 1048576: true; the input reads as it did. -/
def rescueGuardsUptoRow : OpenClaim := { program := "ytgmefblkmidglaa", sum := "139b3fe97be6a34653ece380c61604ff81317b2a2d2d40e1b31cdc210fdd393a", func := "hairpin/hairpinlaw06.RescueGuards", spec := "rescueGuards", unfollowed := true, recurses := true, apart := false, narrowed := true }
def RescueGuardsUptoSaid : Prop := rescueGuardsUptoRow.holds Try.pinned (OpenSpec.upto rescueGuardsSpec)

/-- 'hairpinlaw06.RescueOrder', WHERE WHAT IT READS IS OF BULK AT MOST 1048576: true; the input reads as it did. -/
def rescueOrderUptoRow : OpenClaim := { program := "ytgmefblkmidglaa", sum := "139b3fe97be6a34653ece380c61604ff81317b2a2d2d40e1b31cdc210fdd393a", func := "hairpin/hairpinlaw06.RescueOrder", spec := "rescueOrder", unfollowed := true, recurses := true, apart := false, narrowed := true }
def RescueOrderUptoSaid : Prop := rescueOrderUptoRow.holds Try.pinned (OpenSpec.upto rescueOrderSpec)

/-- 'hairpinlaw06.RescueSafe', WHERE WHAT IT READS IS OF BULK AT MOST 1048576: true; the input reads as it did. -/
def rescueSafeUptoRow : OpenClaim := { program := "ytgmefblkmidglaa", sum := "139b3fe97be6a34653ece380c61604ff81317b2a2d2d40e1b31cdc210fdd393a", func := "hairpin/hairpinlaw06.RescueSafe", spec := "rescueSafe", unfollowed := true, recurses := true, apart := false, narrowed := true }
def RescueSafeUptoSaid : Prop := rescueSafeUptoRow.holds Try.pinned (OpenSpec.upto rescueSafeSpec)

/-- 'hairpinlaw06.RescueNil', WHERE WHAT IT READS IS OF BULK AT MOST 1048576: true; the input reads as it did. -/
def rescueNilUptoRow : OpenClaim := { program := "ytgmefblkmidglaa", sum := "139b3fe97be6a34653ece380c61604ff81317b2a2d2d40e1b31cdc210fdd393a", func := "hairpin/hairpinlaw06.RescueNil", spec := "rescueNil", unfollowed := true, recurses := true, apart := false, narrowed := true }
def RescueNilUptoSaid : Prop := rescueNilUptoRow.holds Try.pinned (OpenSpec.upto rescueNilSpec)

end Rows
end Go.Proofs.Ytgmefblkmidglaa
