/-
  No cell of these rows narrows 'for every input' (looked for: loops, veiled, ifaces, maps, wideKeys, modest, calm, conditions, laid).
  DERIVED. THE GIVEN ROWS OF THIS SEAT. 12 by the template 'for every input the law returns true; each argument reads behind the call as it read before'; 0 by the template 'total and deterministic' (their statements: YtampbjbalenckaaTotals.lean).
  GIVEN WITH THE SEED: the statements are not yours to turn. If you find one false, say at which input.
  Laid BY PROGRAM, IN A SANDBOX (cutbox-rows.mjs): the forced cells as the released guide's own fill.sh prints them over the translation 09daa2246f5a28d1… (all of the seat's roots in one cut). By AI agents, Wed Nov 11 2026. No macro, syntax, notation, axiom, sorry.
-/
import Derived.Test.YtampbjbalenckaaChecked
import GoSem.Claim
import GoSem.ClaimJoined
import GoSem.ClaimMapViews
import Derived.JoinedTies
import Derived.KernelRfl
namespace Go.Proofs.Ytampbjbalenckaa
/- THE CELL 'sum', in the pinned program and in every row, IS THE sha256 OF THE DUMP (.gsa) THAT YtampbjbalenckaaProg.lean LOADS. Nothing in Lean hashes anything: it is a label: what it is worth is what the hold of that sum in a sandbox is worth. -/
noncomputable def Try.pinned : Pinned := { name := "ytampbjbalenckaa", sum := "09daa2246f5a28d1f41940a51234877fc2610615caa746e6ee1a04f508e121a1", checked := Try.checked }
namespace Rows
def none {H : Type} : Left H := { results := [], args := [] }

/-- 'skywaykeep1.FlyBetween': WHATEVER THE INPUT: true; the input reads as it did. -/
def flyBetweenSpec : ChangeSpec := { name := "flyBetween", fn := fun _ => fun
  | [d1, d2] => { results := [.lit (.bool true)], args := [d1, d2] }
  | _ => none }
def flyBetweenRow : OpenClaim := { program := "ytampbjbalenckaa", sum := "09daa2246f5a28d1f41940a51234877fc2610615caa746e6ee1a04f508e121a1", func := "skyway/skywaykeep1.FlyBetween", spec := "flyBetween", unfollowed := true, recurses := true, apart := false }
def FlyBetweenSaid : Prop := flyBetweenRow.holds Try.pinned (OpenSpec.ofChange flyBetweenSpec)

/-- ITS FALSE NEIGHBOUR: 'it returns false'. Refute it at one input. -/
def flyBetweenWrong : ChangeSpec := { name := "flyBetween", fn := fun _ => fun
  | [d1, d2] => { results := [.lit (.bool false)], args := [d1, d2] }
  | _ => none }
def FlyBetweenWrongFalsely : Prop := flyBetweenRow.holds Try.pinned (OpenSpec.ofChange flyBetweenWrong)

/-- 'skywaykeep1.FlyProfile': WHATEVER THE INPUT: true; the input reads as it did. -/
def flyProfileSpec : ChangeSpec := { name := "flyProfile", fn := fun _ => fun
  | [d1, d2, d3, d4] => { results := [.lit (.bool true)], args := [d1, d2, d3, d4] }
  | _ => none }
def flyProfileRow : OpenClaim := { program := "ytampbjbalenckaa", sum := "09daa2246f5a28d1f41940a51234877fc2610615caa746e6ee1a04f508e121a1", func := "skyway/skywaykeep1.FlyProfile", spec := "flyProfile", unfollowed := true, recurses := true, apart := false }
def FlyProfileSaid : Prop := flyProfileRow.holds Try.pinned (OpenSpec.ofChange flyProfileSpec)

/-- ITS FALSE NEIGHBOUR: 'it returns false'. Refute it at one input. -/
def flyProfileWrong : ChangeSpec := { name := "flyProfile", fn := fun _ => fun
  | [d1, d2, d3, d4] => { results := [.lit (.bool false)], args := [d1, d2, d3, d4] }
  | _ => none }
def FlyProfileWrongFalsely : Prop := flyProfileRow.holds Try.pinned (OpenSpec.ofChange flyProfileWrong)

/-- 'skywaykeep1.FlyShifts': WHATEVER THE INPUT: true; the input reads as it did. -/
def flyShiftsSpec : ChangeSpec := { name := "flyShifts", fn := fun _ => fun
  | [d1, d2, d3] => { results := [.lit (.bool true)], args := [d1, d2, d3] }
  | _ => none }
def flyShiftsRow : OpenClaim := { program := "ytampbjbalenckaa", sum := "09daa2246f5a28d1f41940a51234877fc2610615caa746e6ee1a04f508e121a1", func := "skyway/skywaykeep1.FlyShifts", spec := "flyShifts", unfollowed := true, recurses := true, apart := false }
def FlyShiftsSaid : Prop := flyShiftsRow.holds Try.pinned (OpenSpec.ofChange flyShiftsSpec)

/-- ITS FALSE NEIGHBOUR: 'it returns false'. Refute it at one input. -/
def flyShiftsWrong : ChangeSpec := { name := "flyShifts", fn := fun _ => fun
  | [d1, d2, d3] => { results := [.lit (.bool false)], args := [d1, d2, d3] }
  | _ => none }
def FlyShiftsWrongFalsely : Prop := flyShiftsRow.holds Try.pinned (OpenSpec.ofChange flyShiftsWrong)

/-- 'skywaykeep1.TubeBetween': WHATEVER THE INPUT: true; the input reads as it did. -/
def tubeBetweenSpec : ChangeSpec := { name := "tubeBetween", fn := fun _ => fun
  | [d1, d2] => { results := [.lit (.bool true)], args := [d1, d2] }
  | _ => none }
def tubeBetweenRow : OpenClaim := { program := "ytampbjbalenckaa", sum := "09daa2246f5a28d1f41940a51234877fc2610615caa746e6ee1a04f508e121a1", func := "skyway/skywaykeep1.TubeBetween", spec := "tubeBetween", unfollowed := true, recurses := true, apart := false }
def TubeBetweenSaid : Prop := tubeBetweenRow.holds Try.pinned (OpenSpec.ofChange tubeBetweenSpec)

/-- ITS FALSE NEIGHBOUR: 'it returns false'. Refute it at one input. -/
def tubeBetweenWrong : ChangeSpec := { name := "tubeBetween", fn := fun _ => fun
  | [d1, d2] => { results := [.lit (.bool false)], args := [d1, d2] }
  | _ => none }
def TubeBetweenWrongFalsely : Prop := tubeBetweenRow.holds Try.pinned (OpenSpec.ofChange tubeBetweenWrong)

/-- 'skywaykeep1.TubeCuts': WHATEVER THE INPUT: true; the input reads as it did. -/
def tubeCutsSpec : ChangeSpec := { name := "tubeCuts", fn := fun _ => fun
  | [d1, d2, d3, d4] => { results := [.lit (.bool true)], args := [d1, d2, d3, d4] }
  | _ => none }
def tubeCutsRow : OpenClaim := { program := "ytampbjbalenckaa", sum := "09daa2246f5a28d1f41940a51234877fc2610615caa746e6ee1a04f508e121a1", func := "skyway/skywaykeep1.TubeCuts", spec := "tubeCuts", unfollowed := true, recurses := true, apart := false }
def TubeCutsSaid : Prop := tubeCutsRow.holds Try.pinned (OpenSpec.ofChange tubeCutsSpec)

/-- ITS FALSE NEIGHBOUR: 'it returns false'. Refute it at one input. -/
def tubeCutsWrong : ChangeSpec := { name := "tubeCuts", fn := fun _ => fun
  | [d1, d2, d3, d4] => { results := [.lit (.bool false)], args := [d1, d2, d3, d4] }
  | _ => none }
def TubeCutsWrongFalsely : Prop := tubeCutsRow.holds Try.pinned (OpenSpec.ofChange tubeCutsWrong)

/-- 'skywaykeep1.TubeAll': WHATEVER THE INPUT: true; the input reads as it did. -/
def tubeAllSpec : ChangeSpec := { name := "tubeAll", fn := fun _ => fun
  | [d] => { results := [.lit (.bool true)], args := [d] }
  | _ => none }
def tubeAllRow : OpenClaim := { program := "ytampbjbalenckaa", sum := "09daa2246f5a28d1f41940a51234877fc2610615caa746e6ee1a04f508e121a1", func := "skyway/skywaykeep1.TubeAll", spec := "tubeAll", unfollowed := true, recurses := true, apart := false }
def TubeAllSaid : Prop := tubeAllRow.holds Try.pinned (OpenSpec.ofChange tubeAllSpec)

/-- ITS FALSE NEIGHBOUR: 'it returns false'. Refute it at one input. -/
def tubeAllWrong : ChangeSpec := { name := "tubeAll", fn := fun _ => fun
  | [d] => { results := [.lit (.bool false)], args := [d] }
  | _ => none }
def TubeAllWrongFalsely : Prop := tubeAllRow.holds Try.pinned (OpenSpec.ofChange tubeAllWrong)

/-- 'skywaykeep1.TubeNominal': WHATEVER THE INPUT: true; the input reads as it did. -/
def tubeNominalSpec : ChangeSpec := { name := "tubeNominal", fn := fun _ => fun
  | [d1, d2, d3, d4, d5, d6] => { results := [.lit (.bool true)], args := [d1, d2, d3, d4, d5, d6] }
  | _ => none }
def tubeNominalRow : OpenClaim := { program := "ytampbjbalenckaa", sum := "09daa2246f5a28d1f41940a51234877fc2610615caa746e6ee1a04f508e121a1", func := "skyway/skywaykeep1.TubeNominal", spec := "tubeNominal", unfollowed := true, recurses := true, apart := false }
def TubeNominalSaid : Prop := tubeNominalRow.holds Try.pinned (OpenSpec.ofChange tubeNominalSpec)

/-- ITS FALSE NEIGHBOUR: 'it returns false'. Refute it at one input. -/
def tubeNominalWrong : ChangeSpec := { name := "tubeNominal", fn := fun _ => fun
  | [d1, d2, d3, d4, d5, d6] => { results := [.lit (.bool false)], args := [d1, d2, d3, d4, d5, d6] }
  | _ => none }
def TubeNominalWrongFalsely : Prop := tubeNominalRow.holds Try.pinned (OpenSpec.ofChange tubeNominalWrong)

/-- 'skywaykeep1.TubeShifts': WHATEVER THE INPUT: true; the input reads as it did. -/
def tubeShiftsSpec : ChangeSpec := { name := "tubeShifts", fn := fun _ => fun
  | [d1, d2, d3, d4] => { results := [.lit (.bool true)], args := [d1, d2, d3, d4] }
  | _ => none }
def tubeShiftsRow : OpenClaim := { program := "ytampbjbalenckaa", sum := "09daa2246f5a28d1f41940a51234877fc2610615caa746e6ee1a04f508e121a1", func := "skyway/skywaykeep1.TubeShifts", spec := "tubeShifts", unfollowed := true, recurses := true, apart := false }
def TubeShiftsSaid : Prop := tubeShiftsRow.holds Try.pinned (OpenSpec.ofChange tubeShiftsSpec)

/-- ITS FALSE NEIGHBOUR: 'it returns false'. Refute it at one input. -/
def tubeShiftsWrong : ChangeSpec := { name := "tubeShifts", fn := fun _ => fun
  | [d1, d2, d3, d4] => { results := [.lit (.bool false)], args := [d1, d2, d3, d4] }
  | _ => none }
def TubeShiftsWrongFalsely : Prop := tubeShiftsRow.holds Try.pinned (OpenSpec.ofChange tubeShiftsWrong)

/-- 'skywaykeep1.ProbeSafe': WHATEVER THE INPUT: true; the input reads as it did. -/
def probeSafeSpec : ChangeSpec := { name := "probeSafe", fn := fun _ => fun
  | [d1, d2, d3, d4, d5, d6, d7] => { results := [.lit (.bool true)], args := [d1, d2, d3, d4, d5, d6, d7] }
  | _ => none }
def probeSafeRow : OpenClaim := { program := "ytampbjbalenckaa", sum := "09daa2246f5a28d1f41940a51234877fc2610615caa746e6ee1a04f508e121a1", func := "skyway/skywaykeep1.ProbeSafe", spec := "probeSafe", unfollowed := true, recurses := true, apart := false }
def ProbeSafeSaid : Prop := probeSafeRow.holds Try.pinned (OpenSpec.ofChange probeSafeSpec)

/-- ITS FALSE NEIGHBOUR: 'it returns false'. Refute it at one input. -/
def probeSafeWrong : ChangeSpec := { name := "probeSafe", fn := fun _ => fun
  | [d1, d2, d3, d4, d5, d6, d7] => { results := [.lit (.bool false)], args := [d1, d2, d3, d4, d5, d6, d7] }
  | _ => none }
def ProbeSafeWrongFalsely : Prop := probeSafeRow.holds Try.pinned (OpenSpec.ofChange probeSafeWrong)

/-- 'skywaykeep1.TubeInside': WHATEVER THE INPUT: true; the input reads as it did. -/
def tubeInsideSpec : ChangeSpec := { name := "tubeInside", fn := fun _ => fun
  | [d1, d2, d3, d4, d5] => { results := [.lit (.bool true)], args := [d1, d2, d3, d4, d5] }
  | _ => none }
def tubeInsideRow : OpenClaim := { program := "ytampbjbalenckaa", sum := "09daa2246f5a28d1f41940a51234877fc2610615caa746e6ee1a04f508e121a1", func := "skyway/skywaykeep1.TubeInside", spec := "tubeInside", unfollowed := true, recurses := true, apart := false }
def TubeInsideSaid : Prop := tubeInsideRow.holds Try.pinned (OpenSpec.ofChange tubeInsideSpec)

/-- ITS FALSE NEIGHBOUR: 'it returns false'. Refute it at one input. -/
def tubeInsideWrong : ChangeSpec := { name := "tubeInside", fn := fun _ => fun
  | [d1, d2, d3, d4, d5] => { results := [.lit (.bool false)], args := [d1, d2, d3, d4, d5] }
  | _ => none }
def TubeInsideWrongFalsely : Prop := tubeInsideRow.holds Try.pinned (OpenSpec.ofChange tubeInsideWrong)

/-- 'skywaykeep1.ProbeHeights': WHATEVER THE INPUT: true; the input reads as it did. -/
def probeHeightsSpec : ChangeSpec := { name := "probeHeights", fn := fun _ => fun
  | [d1, d2, d3] => { results := [.lit (.bool true)], args := [d1, d2, d3] }
  | _ => none }
def probeHeightsRow : OpenClaim := { program := "ytampbjbalenckaa", sum := "09daa2246f5a28d1f41940a51234877fc2610615caa746e6ee1a04f508e121a1", func := "skyway/skywaykeep1.ProbeHeights", spec := "probeHeights", unfollowed := true, recurses := true, apart := false }
def ProbeHeightsSaid : Prop := probeHeightsRow.holds Try.pinned (OpenSpec.ofChange probeHeightsSpec)

/-- ITS FALSE NEIGHBOUR: 'it returns false'. Refute it at one input. -/
def probeHeightsWrong : ChangeSpec := { name := "probeHeights", fn := fun _ => fun
  | [d1, d2, d3] => { results := [.lit (.bool false)], args := [d1, d2, d3] }
  | _ => none }
def ProbeHeightsWrongFalsely : Prop := probeHeightsRow.holds Try.pinned (OpenSpec.ofChange probeHeightsWrong)

/-- 'skywaykeep1.TubeWidens': WHATEVER THE INPUT: true; the input reads as it did. -/
def tubeWidensSpec : ChangeSpec := { name := "tubeWidens", fn := fun _ => fun
  | [d1, d2, d3, d4, d5, d6] => { results := [.lit (.bool true)], args := [d1, d2, d3, d4, d5, d6] }
  | _ => none }
def tubeWidensRow : OpenClaim := { program := "ytampbjbalenckaa", sum := "09daa2246f5a28d1f41940a51234877fc2610615caa746e6ee1a04f508e121a1", func := "skyway/skywaykeep1.TubeWidens", spec := "tubeWidens", unfollowed := true, recurses := true, apart := false }
def TubeWidensSaid : Prop := tubeWidensRow.holds Try.pinned (OpenSpec.ofChange tubeWidensSpec)

/-- ITS FALSE NEIGHBOUR: 'it returns false'. Refute it at one input. -/
def tubeWidensWrong : ChangeSpec := { name := "tubeWidens", fn := fun _ => fun
  | [d1, d2, d3, d4, d5, d6] => { results := [.lit (.bool false)], args := [d1, d2, d3, d4, d5, d6] }
  | _ => none }
def TubeWidensWrongFalsely : Prop := tubeWidensRow.holds Try.pinned (OpenSpec.ofChange tubeWidensWrong)

/- THE SECOND FORM. 'bulk': how many values and letters a reading holds, each counted each time it is reached (what is shared counts as often as it is met; a slice's spare places count too). A statement '..UptoSaid' is the law's where the arguments, and the package variables that the reading takes, are together of bulk at most 1048576: NARROWER than '..Said'. Prove '..Said' where nothing that the law and all that it calls make is longer than what came in: it says more and counts as full. Else prove '..UptoSaid'. A law counts once. -/
mutual
def uptoBulk {H : Type} : DataW H → Nat
  | .lit (.string bytes) => bytes.length + 1
  | .lit _ => 1
  | .nil => 1
  | .ptr d => uptoBulk d + 1
  | .slice elems spare => uptoBulkAll elems + uptoBulkAll spare + 1
  | .agg parts => uptoBulkAll parts + 1
  | .iface _ d => uptoBulk d + 1
  | .map entries => uptoBulkEntries entries + 1
  | .held _ => 1
def uptoBulkAll {H : Type} : List (DataW H) → Nat
  | [] => 0
  | d :: r => uptoBulk d + uptoBulkAll r
def uptoBulkEntries {H : Type} : List (Lit × DataW H) → Nat
  | [] => 0
  | x :: r => uptoBulkEntry x + uptoBulkEntries r
def uptoBulkEntry {H : Type} : Lit × DataW H → Nat
  | (.string bytes, d) => bytes.length + uptoBulk d + 1
  | (_, d) => uptoBulk d + 1
 end
def uptoSmall : (H : Type) → List (DataW H) → Bool := fun _ ds => decide (uptoBulkAll ds ≤ 1048576)
def OpenSpec.upto (s : _root_.Go.ChangeSpec) : _root_.Go.OpenSpec := { _root_.Go.OpenSpec.ofChange s with cond := some uptoSmall }

/-- 'skywaykeep1.FlyBetween', WHERE WHAT IT READS IS OF BULK AT MOST 1048576: true; the input reads as it did. -/
def flyBetweenUptoRow : OpenClaim := { program := "ytampbjbalenckaa", sum := "09daa2246f5a28d1f41940a51234877fc2610615caa746e6ee1a04f508e121a1", func := "skyway/skywaykeep1.FlyBetween", spec := "flyBetween", unfollowed := true, recurses := true, apart := false, narrowed := true }
def FlyBetweenUptoSaid : Prop := flyBetweenUptoRow.holds Try.pinned (OpenSpec.upto flyBetweenSpec)

/-- 'skywaykeep1.FlyProfile', WHERE WHAT IT READS IS OF BULK AT MOST 1048576: true; the input reads as it did. -/
def flyProfileUptoRow : OpenClaim := { program := "ytampbjbalenckaa", sum := "09daa2246f5a28d1f41940a51234877fc2610615caa746e6ee1a04f508e121a1", func := "skyway/skywaykeep1.FlyProfile", spec := "flyProfile", unfollowed := true, recurses := true, apart := false, narrowed := true }
def FlyProfileUptoSaid : Prop := flyProfileUptoRow.holds Try.pinned (OpenSpec.upto flyProfileSpec)

/-- 'skywaykeep1.FlyShifts', WHERE WHAT IT READS IS OF BULK AT MOST 1048576: true; the input reads as it did. -/
def flyShiftsUptoRow : OpenClaim := { program := "ytampbjbalenckaa", sum := "09daa2246f5a28d1f41940a51234877fc2610615caa746e6ee1a04f508e121a1", func := "skyway/skywaykeep1.FlyShifts", spec := "flyShifts", unfollowed := true, recurses := true, apart := false, narrowed := true }
def FlyShiftsUptoSaid : Prop := flyShiftsUptoRow.holds Try.pinned (OpenSpec.upto flyShiftsSpec)

/-- 'skywaykeep1.TubeBetween', WHERE WHAT IT READS IS OF BULK AT MOST 1048576: true; the input reads as it did. -/
def tubeBetweenUptoRow : OpenClaim := { program := "ytampbjbalenckaa", sum := "09daa2246f5a28d1f41940a51234877fc2610615caa746e6ee1a04f508e121a1", func := "skyway/skywaykeep1.TubeBetween", spec := "tubeBetween", unfollowed := true, recurses := true, apart := false, narrowed := true }
def TubeBetweenUptoSaid : Prop := tubeBetweenUptoRow.holds Try.pinned (OpenSpec.upto tubeBetweenSpec)

/-- 'skywaykeep1.TubeCuts', WHERE WHAT IT READS IS OF BULK AT MOST 1048576: true; the input reads as it did. -/
def tubeCutsUptoRow : OpenClaim := { program := "ytampbjbalenckaa", sum := "09daa2246f5a28d1f41940a51234877fc2610615caa746e6ee1a04f508e121a1", func := "skyway/skywaykeep1.TubeCuts", spec := "tubeCuts", unfollowed := true, recurses := true, apart := false, narrowed := true }
def TubeCutsUptoSaid : Prop := tubeCutsUptoRow.holds Try.pinned (OpenSpec.upto tubeCutsSpec)

/-- 'skywaykeep1.TubeAll', WHERE WHAT IT READS IS OF BULK AT MOST 1048576: true; the input reads as it did. -/
def tubeAllUptoRow : OpenClaim := { program := "ytampbjbalenckaa", sum := "09daa2246f5a28d1f41940a51234877fc2610615caa746e6ee1a04f508e121a1", func := "skyway/skywaykeep1.TubeAll", spec := "tubeAll", unfollowed := true, recurses := true, apart := false, narrowed := true }
def TubeAllUptoSaid : Prop := tubeAllUptoRow.holds Try.pinned (OpenSpec.upto tubeAllSpec)

/-- 'skywaykeep1.TubeNominal', WHERE WHAT IT READS IS OF BULK AT MOST 1048576: true; the input reads as it did. -/
def tubeNominalUptoRow : OpenClaim := { program := "ytampbjbalenckaa", sum := "09daa2246f5a28d1f41940a51234877fc2610615caa746e6ee1a04f508e121a1", func := "skyway/skywaykeep1.TubeNominal", spec := "tubeNominal", unfollowed := true, recurses := true, apart := false, narrowed := true }
def TubeNominalUptoSaid : Prop := tubeNominalUptoRow.holds Try.pinned (OpenSpec.upto tubeNominalSpec)

/-- 'skywaykeep1.TubeShifts', WHERE WHAT IT READS IS OF BULK AT MOST 1048576: true; the input reads as it did. -/
def tubeShiftsUptoRow : OpenClaim := { program := "ytampbjbalenckaa", sum := "09daa2246f5a28d1f41940a51234877fc2610615caa746e6ee1a04f508e121a1", func := "skyway/skywaykeep1.TubeShifts", spec := "tubeShifts", unfollowed := true, recurses := true, apart := false, narrowed := true }
def TubeShiftsUptoSaid : Prop := tubeShiftsUptoRow.holds Try.pinned (OpenSpec.upto tubeShiftsSpec)

/-- 'skywaykeep1.ProbeSafe', WHERE WHAT IT READS IS OF BULK AT MOST 1048576: true; the input reads as it did. -/
def probeSafeUptoRow : OpenClaim := { program := "ytampbjbalenckaa", sum := "09daa2246f5a28d1f41940a51234877fc2610615caa746e6ee1a04f508e121a1", func := "skyway/skywaykeep1.ProbeSafe", spec := "probeSafe", unfollowed := true, recurses := true, apart := false, narrowed := true }
def ProbeSafeUptoSaid : Prop := probeSafeUptoRow.holds Try.pinned (OpenSpec.upto probeSafeSpec)

/-- 'skywaykeep1.TubeInside', WHERE WHAT IT READS IS OF BULK AT MOST 1048576: true; the input reads as it did. -/
def tubeInsideUptoRow : OpenClaim := { program := "ytampbjbalenckaa", sum := "09daa2246f5a28d1f41940a51234877fc2610615caa746e6ee1a04f508e121a1", func := "skyway/skywaykeep1.TubeInside", spec := "tubeInside", unfollowed := true, recurses := true, apart := false, narrowed := true }
def TubeInsideUptoSaid : Prop := tubeInsideUptoRow.holds Try.pinned (OpenSpec.upto tubeInsideSpec)

/-- 'skywaykeep1.ProbeHeights', WHERE WHAT IT READS IS OF BULK AT MOST 1048576: true; the input reads as it did. -/
def probeHeightsUptoRow : OpenClaim := { program := "ytampbjbalenckaa", sum := "09daa2246f5a28d1f41940a51234877fc2610615caa746e6ee1a04f508e121a1", func := "skyway/skywaykeep1.ProbeHeights", spec := "probeHeights", unfollowed := true, recurses := true, apart := false, narrowed := true }
def ProbeHeightsUptoSaid : Prop := probeHeightsUptoRow.holds Try.pinned (OpenSpec.upto probeHeightsSpec)

/-- 'skywaykeep1.TubeWidens', WHERE WHAT IT READS IS OF BULK AT MOST 1048576: true; the input reads as it did. -/
def tubeWidensUptoRow : OpenClaim := { program := "ytampbjbalenckaa", sum := "09daa2246f5a28d1f41940a51234877fc2610615caa746e6ee1a04f508e121a1", func := "skyway/skywaykeep1.TubeWidens", spec := "tubeWidens", unfollowed := true, recurses := true, apart := false, narrowed := true }
def TubeWidensUptoSaid : Prop := tubeWidensUptoRow.holds Try.pinned (OpenSpec.upto tubeWidensSpec)

end Rows
end Go.Proofs.Ytampbjbalenckaa
