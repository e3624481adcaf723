/-
  No cell of these rows narrows 'for every input' (looked for: loops, veiled, ifaces, maps, wideKeys, modest, calm, conditions, laid).
  DERIVED. THE GIVEN ROWS OF THIS SEAT. 10 by the template 'for every input the law returns true; each argument reads behind the call as it read before'; 0 by the template 'total and deterministic' (their statements: YtlokkffpmjlihaaTotals.lean).
  GIVEN WITH THE SEED: the statements are not yours to turn. If you find one false, say at which input.
  Laid BY PROGRAM, IN A SANDBOX (cutbox-rows.mjs): the forced cells as the released guide's own fill.sh prints them over the translation f3f43571ff296302… (all of the seat's roots in one cut). By AI agents, Wed Nov 11 2026. No macro, syntax, notation, axiom, sorry.
-/
import Derived.Test.YtlokkffpmjlihaaChecked
import GoSem.Claim
import GoSem.ClaimJoined
import GoSem.ClaimMapViews
import Derived.JoinedTies
import Derived.KernelRfl
namespace Go.Proofs.Ytlokkffpmjlihaa
/- THE CELL 'sum', in the pinned program and in every row, IS THE sha256 OF THE DUMP (.gsa) THAT YtlokkffpmjlihaaProg.lean LOADS. Nothing in Lean hashes anything: it is a label: what it is worth is what the hold of that sum in a sandbox is worth. -/
noncomputable def Try.pinned : Pinned := { name := "ytlokkffpmjlihaa", sum := "f3f43571ff296302cee24ea73edf4d9e4ffadd85653edd463c238ae07f83f11d", checked := Try.checked }
namespace Rows
def none {H : Type} : Left H := { results := [], args := [] }

/-- 'skywaykeep1.RouteDirect': WHATEVER THE INPUT: true; the input reads as it did. -/
def routeDirectSpec : ChangeSpec := { name := "routeDirect", fn := fun _ => fun
  | [d1, d2] => { results := [.lit (.bool true)], args := [d1, d2] }
  | _ => none }
def routeDirectRow : OpenClaim := { program := "ytlokkffpmjlihaa", sum := "f3f43571ff296302cee24ea73edf4d9e4ffadd85653edd463c238ae07f83f11d", func := "skyway/skywaykeep1.RouteDirect", spec := "routeDirect", unfollowed := true, recurses := true, apart := false }
def RouteDirectSaid : Prop := routeDirectRow.holds Try.pinned (OpenSpec.ofChange routeDirectSpec)

/-- ITS FALSE NEIGHBOUR: 'it returns false'. Refute it at one input. -/
def routeDirectWrong : ChangeSpec := { name := "routeDirect", fn := fun _ => fun
  | [d1, d2] => { results := [.lit (.bool false)], args := [d1, d2] }
  | _ => none }
def RouteDirectWrongFalsely : Prop := routeDirectRow.holds Try.pinned (OpenSpec.ofChange routeDirectWrong)

/-- 'skywaykeep1.FlyClosed': WHATEVER THE INPUT: true; the input reads as it did. -/
def flyClosedSpec : ChangeSpec := { name := "flyClosed", fn := fun _ => fun
  | [d1, d2, d3] => { results := [.lit (.bool true)], args := [d1, d2, d3] }
  | _ => none }
def flyClosedRow : OpenClaim := { program := "ytlokkffpmjlihaa", sum := "f3f43571ff296302cee24ea73edf4d9e4ffadd85653edd463c238ae07f83f11d", func := "skyway/skywaykeep1.FlyClosed", spec := "flyClosed", unfollowed := true, recurses := true, apart := false }
def FlyClosedSaid : Prop := flyClosedRow.holds Try.pinned (OpenSpec.ofChange flyClosedSpec)

/-- ITS FALSE NEIGHBOUR: 'it returns false'. Refute it at one input. -/
def flyClosedWrong : ChangeSpec := { name := "flyClosed", fn := fun _ => fun
  | [d1, d2, d3] => { results := [.lit (.bool false)], args := [d1, d2, d3] }
  | _ => none }
def FlyClosedWrongFalsely : Prop := flyClosedRow.holds Try.pinned (OpenSpec.ofChange flyClosedWrong)

/-- 'skywaykeep1.RouteLength': WHATEVER THE INPUT: true; the input reads as it did. -/
def routeLengthSpec : ChangeSpec := { name := "routeLength", fn := fun _ => fun
  | [d1, d2] => { results := [.lit (.bool true)], args := [d1, d2] }
  | _ => none }
def routeLengthRow : OpenClaim := { program := "ytlokkffpmjlihaa", sum := "f3f43571ff296302cee24ea73edf4d9e4ffadd85653edd463c238ae07f83f11d", func := "skyway/skywaykeep1.RouteLength", spec := "routeLength", unfollowed := true, recurses := true, apart := false }
def RouteLengthSaid : Prop := routeLengthRow.holds Try.pinned (OpenSpec.ofChange routeLengthSpec)

/-- ITS FALSE NEIGHBOUR: 'it returns false'. Refute it at one input. -/
def routeLengthWrong : ChangeSpec := { name := "routeLength", fn := fun _ => fun
  | [d1, d2] => { results := [.lit (.bool false)], args := [d1, d2] }
  | _ => none }
def RouteLengthWrongFalsely : Prop := routeLengthRow.holds Try.pinned (OpenSpec.ofChange routeLengthWrong)

/-- 'skywaykeep1.VolumeFree': WHATEVER THE INPUT: true; the input reads as it did. -/
def volumeFreeSpec : ChangeSpec := { name := "volumeFree", fn := fun _ => fun
  | [d1, d2, d3] => { results := [.lit (.bool true)], args := [d1, d2, d3] }
  | _ => none }
def volumeFreeRow : OpenClaim := { program := "ytlokkffpmjlihaa", sum := "f3f43571ff296302cee24ea73edf4d9e4ffadd85653edd463c238ae07f83f11d", func := "skyway/skywaykeep1.VolumeFree", spec := "volumeFree", unfollowed := true, recurses := true, apart := false }
def VolumeFreeSaid : Prop := volumeFreeRow.holds Try.pinned (OpenSpec.ofChange volumeFreeSpec)

/-- ITS FALSE NEIGHBOUR: 'it returns false'. Refute it at one input. -/
def volumeFreeWrong : ChangeSpec := { name := "volumeFree", fn := fun _ => fun
  | [d1, d2, d3] => { results := [.lit (.bool false)], args := [d1, d2, d3] }
  | _ => none }
def VolumeFreeWrongFalsely : Prop := volumeFreeRow.holds Try.pinned (OpenSpec.ofChange volumeFreeWrong)

/-- 'skywaykeep1.VolumeUnion': WHATEVER THE INPUT: true; the input reads as it did. -/
def volumeUnionSpec : ChangeSpec := { name := "volumeUnion", fn := fun _ => fun
  | [d1, d2] => { results := [.lit (.bool true)], args := [d1, d2] }
  | _ => none }
def volumeUnionRow : OpenClaim := { program := "ytlokkffpmjlihaa", sum := "f3f43571ff296302cee24ea73edf4d9e4ffadd85653edd463c238ae07f83f11d", func := "skyway/skywaykeep1.VolumeUnion", spec := "volumeUnion", unfollowed := true, recurses := true, apart := false }
def VolumeUnionSaid : Prop := volumeUnionRow.holds Try.pinned (OpenSpec.ofChange volumeUnionSpec)

/-- ITS FALSE NEIGHBOUR: 'it returns false'. Refute it at one input. -/
def volumeUnionWrong : ChangeSpec := { name := "volumeUnion", fn := fun _ => fun
  | [d1, d2] => { results := [.lit (.bool false)], args := [d1, d2] }
  | _ => none }
def VolumeUnionWrongFalsely : Prop := volumeUnionRow.holds Try.pinned (OpenSpec.ofChange volumeUnionWrong)

/-- 'skywaykeep1.RouteCrossed': WHATEVER THE INPUT: true; the input reads as it did. -/
def routeCrossedSpec : ChangeSpec := { name := "routeCrossed", fn := fun _ => fun
  | [d1, d2] => { results := [.lit (.bool true)], args := [d1, d2] }
  | _ => none }
def routeCrossedRow : OpenClaim := { program := "ytlokkffpmjlihaa", sum := "f3f43571ff296302cee24ea73edf4d9e4ffadd85653edd463c238ae07f83f11d", func := "skyway/skywaykeep1.RouteCrossed", spec := "routeCrossed", unfollowed := true, recurses := true, apart := false }
def RouteCrossedSaid : Prop := routeCrossedRow.holds Try.pinned (OpenSpec.ofChange routeCrossedSpec)

/-- ITS FALSE NEIGHBOUR: 'it returns false'. Refute it at one input. -/
def routeCrossedWrong : ChangeSpec := { name := "routeCrossed", fn := fun _ => fun
  | [d1, d2] => { results := [.lit (.bool false)], args := [d1, d2] }
  | _ => none }
def RouteCrossedWrongFalsely : Prop := routeCrossedRow.holds Try.pinned (OpenSpec.ofChange routeCrossedWrong)

/-- 'skywaykeep1.VolumeOverlap': WHATEVER THE INPUT: true; the input reads as it did. -/
def volumeOverlapSpec : ChangeSpec := { name := "volumeOverlap", fn := fun _ => fun
  | [d1, d2] => { results := [.lit (.bool true)], args := [d1, d2] }
  | _ => none }
def volumeOverlapRow : OpenClaim := { program := "ytlokkffpmjlihaa", sum := "f3f43571ff296302cee24ea73edf4d9e4ffadd85653edd463c238ae07f83f11d", func := "skyway/skywaykeep1.VolumeOverlap", spec := "volumeOverlap", unfollowed := true, recurses := true, apart := false }
def VolumeOverlapSaid : Prop := volumeOverlapRow.holds Try.pinned (OpenSpec.ofChange volumeOverlapSpec)

/-- ITS FALSE NEIGHBOUR: 'it returns false'. Refute it at one input. -/
def volumeOverlapWrong : ChangeSpec := { name := "volumeOverlap", fn := fun _ => fun
  | [d1, d2] => { results := [.lit (.bool false)], args := [d1, d2] }
  | _ => none }
def VolumeOverlapWrongFalsely : Prop := volumeOverlapRow.holds Try.pinned (OpenSpec.ofChange volumeOverlapWrong)

/-- 'skywaykeep1.PolygonOverlap': WHATEVER THE INPUT: true; the input reads as it did. -/
def polygonOverlapSpec : ChangeSpec := { name := "polygonOverlap", fn := fun _ => fun
  | [d1, d2] => { results := [.lit (.bool true)], args := [d1, d2] }
  | _ => none }
def polygonOverlapRow : OpenClaim := { program := "ytlokkffpmjlihaa", sum := "f3f43571ff296302cee24ea73edf4d9e4ffadd85653edd463c238ae07f83f11d", func := "skyway/skywaykeep1.PolygonOverlap", spec := "polygonOverlap", unfollowed := true, recurses := true, apart := false }
def PolygonOverlapSaid : Prop := polygonOverlapRow.holds Try.pinned (OpenSpec.ofChange polygonOverlapSpec)

/-- ITS FALSE NEIGHBOUR: 'it returns false'. Refute it at one input. -/
def polygonOverlapWrong : ChangeSpec := { name := "polygonOverlap", fn := fun _ => fun
  | [d1, d2] => { results := [.lit (.bool false)], args := [d1, d2] }
  | _ => none }
def PolygonOverlapWrongFalsely : Prop := polygonOverlapRow.holds Try.pinned (OpenSpec.ofChange polygonOverlapWrong)

/-- 'skywaykeep1.ChartLinks': WHATEVER THE INPUT: true; the input reads as it did. -/
def chartLinksSpec : ChangeSpec := { name := "chartLinks", fn := fun _ => fun
  | [d1, d2] => { results := [.lit (.bool true)], args := [d1, d2] }
  | _ => none }
def chartLinksRow : OpenClaim := { program := "ytlokkffpmjlihaa", sum := "f3f43571ff296302cee24ea73edf4d9e4ffadd85653edd463c238ae07f83f11d", func := "skyway/skywaykeep1.ChartLinks", spec := "chartLinks", unfollowed := true, recurses := true, apart := false }
def ChartLinksSaid : Prop := chartLinksRow.holds Try.pinned (OpenSpec.ofChange chartLinksSpec)

/-- ITS FALSE NEIGHBOUR: 'it returns false'. Refute it at one input. -/
def chartLinksWrong : ChangeSpec := { name := "chartLinks", fn := fun _ => fun
  | [d1, d2] => { results := [.lit (.bool false)], args := [d1, d2] }
  | _ => none }
def ChartLinksWrongFalsely : Prop := chartLinksRow.holds Try.pinned (OpenSpec.ofChange chartLinksWrong)

/-- 'skywaykeep1.ProbeAll': WHATEVER THE INPUT: true; the input reads as it did. -/
def probeAllSpec : ChangeSpec := { name := "probeAll", fn := fun _ => fun
  | [d1, d2] => { results := [.lit (.bool true)], args := [d1, d2] }
  | _ => none }
def probeAllRow : OpenClaim := { program := "ytlokkffpmjlihaa", sum := "f3f43571ff296302cee24ea73edf4d9e4ffadd85653edd463c238ae07f83f11d", func := "skyway/skywaykeep1.ProbeAll", spec := "probeAll", unfollowed := true, recurses := true, apart := false }
def ProbeAllSaid : Prop := probeAllRow.holds Try.pinned (OpenSpec.ofChange probeAllSpec)

/-- ITS FALSE NEIGHBOUR: 'it returns false'. Refute it at one input. -/
def probeAllWrong : ChangeSpec := { name := "probeAll", fn := fun _ => fun
  | [d1, d2] => { results := [.lit (.bool false)], args := [d1, d2] }
  | _ => none }
def ProbeAllWrongFalsely : Prop := probeAllRow.holds Try.pinned (OpenSpec.ofChange probeAllWrong)

/- THE SECOND FORM. 'bulk': how many values and letters a reading holds, each counted each time it is reached (what is shared counts as often as it is met; a slice's spare places count too). A statement '..UptoSaid' is the law's where the arguments, and the package variables that the reading takes, are together of bulk at most 1048576: NARROWER than '..Said'. Prove '..Said' where nothing that the law and all that it calls make is longer than what came in: it says more and counts as full. Else prove '..UptoSaid'. A law counts once. -/
mutual
def uptoBulk {H : Type} : DataW H → Nat
  | .lit (.string bytes) => bytes.length + 1
  | .lit _ => 1
  | .nil => 1
  | .ptr d => uptoBulk d + 1
  | .slice elems spare => uptoBulkAll elems + uptoBulkAll spare + 1
  | .agg parts => uptoBulkAll parts + 1
  | .iface _ d => uptoBulk d + 1
  | .map entries => uptoBulkEntries entries + 1
  | .held _ => 1
def uptoBulkAll {H : Type} : List (DataW H) → Nat
  | [] => 0
  | d :: r => uptoBulk d + uptoBulkAll r
def uptoBulkEntries {H : Type} : List (Lit × DataW H) → Nat
  | [] => 0
  | x :: r => uptoBulkEntry x + uptoBulkEntries r
def uptoBulkEntry {H : Type} : Lit × DataW H → Nat
  | (.string bytes, d) => bytes.length + uptoBulk d + 1
  | (_, d) => uptoBulk d + 1
 end
def uptoSmall : (H : Type) → List (DataW H) → Bool := fun _ ds => decide (uptoBulkAll ds ≤ 1048576)
def OpenSpec.upto (s : _root_.Go.ChangeSpec) : _root_.Go.OpenSpec := { _root_.Go.OpenSpec.ofChange s with cond := some uptoSmall }

/-- 'skywaykeep1.RouteDirect', WHERE WHAT IT READS IS OF BULK AT MOST 1048576: true; the input reads as it did. -/
def routeDirectUptoRow : OpenClaim := { program := "ytlokkffpmjlihaa", sum := "f3f43571ff296302cee24ea73edf4d9e4ffadd85653edd463c238ae07f83f11d", func := "skyway/skywaykeep1.RouteDirect", spec := "routeDirect", unfollowed := true, recurses := true, apart := false, narrowed := true }
def RouteDirectUptoSaid : Prop := routeDirectUptoRow.holds Try.pinned (OpenSpec.upto routeDirectSpec)

/-- 'skywaykeep1.FlyClosed', WHERE WHAT IT READS IS OF BULK AT MOST 1048576: true; the input reads as it did. -/
def flyClosedUptoRow : OpenClaim := { program := "ytlokkffpmjlihaa", sum := "f3f43571ff296302cee24ea73edf4d9e4ffadd85653edd463c238ae07f83f11d", func := "skyway/skywaykeep1.FlyClosed", spec := "flyClosed", unfollowed := true, recurses := true, apart := false, narrowed := true }
def FlyClosedUptoSaid : Prop := flyClosedUptoRow.holds Try.pinned (OpenSpec.upto flyClosedSpec)

/-- 'skywaykeep1.RouteLength', WHERE WHAT IT READS IS OF BULK AT MOST 1048576: true; the input reads as it did. -/
def routeLengthUptoRow : OpenClaim := { program := "ytlokkffpmjlihaa", sum := "f3f43571ff296302cee24ea73edf4d9e4ffadd85653edd463c238ae07f83f11d", func := "skyway/skywaykeep1.RouteLength", spec := "routeLength", unfollowed := true, recurses := true, apart := false, narrowed := true }
def RouteLengthUptoSaid : Prop := routeLengthUptoRow.holds Try.pinned (OpenSpec.upto routeLengthSpec)

/-- 'skywaykeep1.VolumeFree', WHERE WHAT IT READS IS OF BULK AT MOST 1048576: true; the input reads as it did. -/
def volumeFreeUptoRow : OpenClaim := { program := "ytlokkffpmjlihaa", sum := "f3f43571ff296302cee24ea73edf4d9e4ffadd85653edd463c238ae07f83f11d", func := "skyway/skywaykeep1.VolumeFree", spec := "volumeFree", unfollowed := true, recurses := true, apart := false, narrowed := true }
def VolumeFreeUptoSaid : Prop := volumeFreeUptoRow.holds Try.pinned (OpenSpec.upto volumeFreeSpec)

/-- 'skywaykeep1.VolumeUnion', WHERE WHAT IT READS IS OF BULK AT MOST 1048576: true; the input reads as it did. -/
def volumeUnionUptoRow : OpenClaim := { program := "ytlokkffpmjlihaa", sum := "f3f43571ff296302cee24ea73edf4d9e4ffadd85653edd463c238ae07f83f11d", func := "skyway/skywaykeep1.VolumeUnion", spec := "volumeUnion", unfollowed := true, recurses := true, apart := false, narrowed := true }
def VolumeUnionUptoSaid : Prop := volumeUnionUptoRow.holds Try.pinned (OpenSpec.upto volumeUnionSpec)

/-- 'skywaykeep1.RouteCrossed', WHERE WHAT IT READS IS OF BULK AT MOST 1048576: true; the input reads as it did. -/
def routeCrossedUptoRow : OpenClaim := { program := "ytlokkffpmjlihaa", sum := "f3f43571ff296302cee24ea73edf4d9e4ffadd85653edd463c238ae07f83f11d", func := "skyway/skywaykeep1.RouteCrossed", spec := "routeCrossed", unfollowed := true, recurses := true, apart := false, narrowed := true }
def RouteCrossedUptoSaid : Prop := routeCrossedUptoRow.holds Try.pinned (OpenSpec.upto routeCrossedSpec)

/-- 'skywaykeep1.VolumeOverlap', WHERE WHAT IT READS IS OF BULK AT MOST 1048576: true; the input reads as it did. -/
def volumeOverlapUptoRow : OpenClaim := { program := "ytlokkffpmjlihaa", sum := "f3f43571ff296302cee24ea73edf4d9e4ffadd85653edd463c238ae07f83f11d", func := "skyway/skywaykeep1.VolumeOverlap", spec := "volumeOverlap", unfollowed := true, recurses := true, apart := false, narrowed := true }
def VolumeOverlapUptoSaid : Prop := volumeOverlapUptoRow.holds Try.pinned (OpenSpec.upto volumeOverlapSpec)

/-- 'skywaykeep1.PolygonOverlap', WHERE WHAT IT READS IS OF BULK AT MOST 1048576: true; the input reads as it did. -/
def polygonOverlapUptoRow : OpenClaim := { program := "ytlokkffpmjlihaa", sum := "f3f43571ff296302cee24ea73edf4d9e4ffadd85653edd463c238ae07f83f11d", func := "skyway/skywaykeep1.PolygonOverlap", spec := "polygonOverlap", unfollowed := true, recurses := true, apart := false, narrowed := true }
def PolygonOverlapUptoSaid : Prop := polygonOverlapUptoRow.holds Try.pinned (OpenSpec.upto polygonOverlapSpec)

/-- 'skywaykeep1.ChartLinks', WHERE WHAT IT READS IS OF BULK AT MOST 1048576: true; the input reads as it did. -/
def chartLinksUptoRow : OpenClaim := { program := "ytlokkffpmjlihaa", sum := "f3f43571ff296302cee24ea73edf4d9e4ffadd85653edd463c238ae07f83f11d", func := "skyway/skywaykeep1.ChartLinks", spec := "chartLinks", unfollowed := true, recurses := true, apart := false, narrowed := true }
def ChartLinksUptoSaid : Prop := chartLinksUptoRow.holds Try.pinned (OpenSpec.upto chartLinksSpec)

/-- 'skywaykeep1.ProbeAll', WHERE WHAT IT READS IS OF BULK AT MOST 1048576: true; the input reads as it did. -/
def probeAllUptoRow : OpenClaim := { program := "ytlokkffpmjlihaa", sum := "f3f43571ff296302cee24ea73edf4d9e4ffadd85653edd463c238ae07f83f11d", func := "skyway/skywaykeep1.ProbeAll", spec := "probeAll", unfollowed := true, recurses := true, apart := false, narrowed := true }
def ProbeAllUptoSaid : Prop := probeAllUptoRow.holds Try.pinned (OpenSpec.upto probeAllSpec)

end Rows
end Go.Proofs.Ytlokkffpmjlihaa
