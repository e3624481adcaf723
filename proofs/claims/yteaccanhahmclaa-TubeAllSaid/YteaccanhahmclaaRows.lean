/-
  No cell of these rows narrows 'for every input' (looked for: loops, veiled, ifaces, maps, wideKeys, modest, calm, conditions, laid).
  DERIVED. THE GIVEN ROWS OF THIS SEAT. 12 by the template 'for every input the law returns true; each argument reads behind the call as it read before'; 0 by the template 'total and deterministic' (their statements: YteaccanhahmclaaTotals.lean).
  GIVEN WITH THE SEED: the statements are not yours to turn. If you find one false, say at which input.
  Laid BY PROGRAM, IN A SANDBOX (cutbox-rows.mjs): the forced cells as the released guide's own fill.sh prints them over the translation b1ff999db4449240… (all of the seat's roots in one cut). By AI agents, Wed Nov 11 2026. No macro, syntax, notation, axiom, sorry.
-/
import Derived.Test.YteaccanhahmclaaChecked
import GoSem.Claim
import GoSem.ClaimJoined
import GoSem.ClaimMapViews
import Derived.JoinedTies
import Derived.KernelRfl
namespace Go.Proofs.Yteaccanhahmclaa
/- THE CELL 'sum', in the pinned program and in every row, IS THE sha256 OF THE DUMP (.gsa) THAT YteaccanhahmclaaProg.lean LOADS. Nothing in Lean hashes anything: it is a label: what it is worth is what the hold of that sum in a sandbox is worth. -/
noncomputable def Try.pinned : Pinned := { name := "yteaccanhahmclaa", sum := "b1ff999db444924079801b6ac01bfffa121f4d46b2b6f4bf8b7a95af88fca161", checked := Try.checked }
namespace Rows
def none {H : Type} : Left H := { results := [], args := [] }

/-- 'skywaykeep1.HeapqOrder': WHATEVER THE INPUT: true; the input reads as it did. -/
def heapqOrderSpec : ChangeSpec := { name := "heapqOrder", fn := fun _ => fun
  | [d] => { results := [.lit (.bool true)], args := [d] }
  | _ => none }
def heapqOrderRow : OpenClaim := { program := "yteaccanhahmclaa", sum := "b1ff999db444924079801b6ac01bfffa121f4d46b2b6f4bf8b7a95af88fca161", func := "skyway/skywaykeep1.HeapqOrder", spec := "heapqOrder", apart := false }
def HeapqOrderSaid : Prop := heapqOrderRow.holds Try.pinned (OpenSpec.ofChange heapqOrderSpec)

/-- ITS FALSE NEIGHBOUR: 'it returns false'. Refute it at one input. -/
def heapqOrderWrong : ChangeSpec := { name := "heapqOrder", fn := fun _ => fun
  | [d] => { results := [.lit (.bool false)], args := [d] }
  | _ => none }
def HeapqOrderWrongFalsely : Prop := heapqOrderRow.holds Try.pinned (OpenSpec.ofChange heapqOrderWrong)

/-- 'skywaykeep1.HeapqAll': WHATEVER THE INPUT: true; the input reads as it did. -/
def heapqAllSpec : ChangeSpec := { name := "heapqAll", fn := fun _ => fun
  | [d1, d2] => { results := [.lit (.bool true)], args := [d1, d2] }
  | _ => none }
def heapqAllRow : OpenClaim := { program := "yteaccanhahmclaa", sum := "b1ff999db444924079801b6ac01bfffa121f4d46b2b6f4bf8b7a95af88fca161", func := "skyway/skywaykeep1.HeapqAll", spec := "heapqAll", unfollowed := true, recurses := true, apart := false }
def HeapqAllSaid : Prop := heapqAllRow.holds Try.pinned (OpenSpec.ofChange heapqAllSpec)

/-- ITS FALSE NEIGHBOUR: 'it returns false'. Refute it at one input. -/
def heapqAllWrong : ChangeSpec := { name := "heapqAll", fn := fun _ => fun
  | [d1, d2] => { results := [.lit (.bool false)], args := [d1, d2] }
  | _ => none }
def HeapqAllWrongFalsely : Prop := heapqAllRow.holds Try.pinned (OpenSpec.ofChange heapqAllWrong)

/-- 'skywaykeep1.ShortestSteps': WHATEVER THE INPUT: true; the input reads as it did. -/
def shortestStepsSpec : ChangeSpec := { name := "shortestSteps", fn := fun _ => fun
  | [d1, d2] => { results := [.lit (.bool true)], args := [d1, d2] }
  | _ => none }
def shortestStepsRow : OpenClaim := { program := "yteaccanhahmclaa", sum := "b1ff999db444924079801b6ac01bfffa121f4d46b2b6f4bf8b7a95af88fca161", func := "skyway/skywaykeep1.ShortestSteps", spec := "shortestSteps", unfollowed := true, recurses := true, apart := false }
def ShortestStepsSaid : Prop := shortestStepsRow.holds Try.pinned (OpenSpec.ofChange shortestStepsSpec)

/-- ITS FALSE NEIGHBOUR: 'it returns false'. Refute it at one input. -/
def shortestStepsWrong : ChangeSpec := { name := "shortestSteps", fn := fun _ => fun
  | [d1, d2] => { results := [.lit (.bool false)], args := [d1, d2] }
  | _ => none }
def ShortestStepsWrongFalsely : Prop := shortestStepsRow.holds Try.pinned (OpenSpec.ofChange shortestStepsWrong)

/-- 'skywaykeep1.ShortestSecond': WHATEVER THE INPUT: true; the input reads as it did. -/
def shortestSecondSpec : ChangeSpec := { name := "shortestSecond", fn := fun _ => fun
  | [d1, d2, d3] => { results := [.lit (.bool true)], args := [d1, d2, d3] }
  | _ => none }
def shortestSecondRow : OpenClaim := { program := "yteaccanhahmclaa", sum := "b1ff999db444924079801b6ac01bfffa121f4d46b2b6f4bf8b7a95af88fca161", func := "skyway/skywaykeep1.ShortestSecond", spec := "shortestSecond", unfollowed := true, recurses := true, apart := false }
def ShortestSecondSaid : Prop := shortestSecondRow.holds Try.pinned (OpenSpec.ofChange shortestSecondSpec)

/-- ITS FALSE NEIGHBOUR: 'it returns false'. Refute it at one input. -/
def shortestSecondWrong : ChangeSpec := { name := "shortestSecond", fn := fun _ => fun
  | [d1, d2, d3] => { results := [.lit (.bool false)], args := [d1, d2, d3] }
  | _ => none }
def ShortestSecondWrongFalsely : Prop := shortestSecondRow.holds Try.pinned (OpenSpec.ofChange shortestSecondWrong)

/-- 'skywaykeep1.ShortestLength': WHATEVER THE INPUT: true; the input reads as it did. -/
def shortestLengthSpec : ChangeSpec := { name := "shortestLength", fn := fun _ => fun
  | [d1, d2, d3] => { results := [.lit (.bool true)], args := [d1, d2, d3] }
  | _ => none }
def shortestLengthRow : OpenClaim := { program := "yteaccanhahmclaa", sum := "b1ff999db444924079801b6ac01bfffa121f4d46b2b6f4bf8b7a95af88fca161", func := "skyway/skywaykeep1.ShortestLength", spec := "shortestLength", unfollowed := true, recurses := true, apart := false }
def ShortestLengthSaid : Prop := shortestLengthRow.holds Try.pinned (OpenSpec.ofChange shortestLengthSpec)

/-- ITS FALSE NEIGHBOUR: 'it returns false'. Refute it at one input. -/
def shortestLengthWrong : ChangeSpec := { name := "shortestLength", fn := fun _ => fun
  | [d1, d2, d3] => { results := [.lit (.bool false)], args := [d1, d2, d3] }
  | _ => none }
def ShortestLengthWrongFalsely : Prop := shortestLengthRow.holds Try.pinned (OpenSpec.ofChange shortestLengthWrong)

/-- 'skywaykeep1.ChartLinks': WHATEVER THE INPUT: true; the input reads as it did. -/
def chartLinksSpec : ChangeSpec := { name := "chartLinks", fn := fun _ => fun
  | [d1, d2] => { results := [.lit (.bool true)], args := [d1, d2] }
  | _ => none }
def chartLinksRow : OpenClaim := { program := "yteaccanhahmclaa", sum := "b1ff999db444924079801b6ac01bfffa121f4d46b2b6f4bf8b7a95af88fca161", func := "skyway/skywaykeep1.ChartLinks", spec := "chartLinks", unfollowed := true, recurses := true, apart := false }
def ChartLinksSaid : Prop := chartLinksRow.holds Try.pinned (OpenSpec.ofChange chartLinksSpec)

/-- ITS FALSE NEIGHBOUR: 'it returns false'. Refute it at one input. -/
def chartLinksWrong : ChangeSpec := { name := "chartLinks", fn := fun _ => fun
  | [d1, d2] => { results := [.lit (.bool false)], args := [d1, d2] }
  | _ => none }
def ChartLinksWrongFalsely : Prop := chartLinksRow.holds Try.pinned (OpenSpec.ofChange chartLinksWrong)

/-- 'skywaykeep1.TubeAll': WHATEVER THE INPUT: true; the input reads as it did. -/
def tubeAllSpec : ChangeSpec := { name := "tubeAll", fn := fun _ => fun
  | [d] => { results := [.lit (.bool true)], args := [d] }
  | _ => none }
def tubeAllRow : OpenClaim := { program := "yteaccanhahmclaa", sum := "b1ff999db444924079801b6ac01bfffa121f4d46b2b6f4bf8b7a95af88fca161", func := "skyway/skywaykeep1.TubeAll", spec := "tubeAll", unfollowed := true, recurses := true, apart := false }
def TubeAllSaid : Prop := tubeAllRow.holds Try.pinned (OpenSpec.ofChange tubeAllSpec)

/-- ITS FALSE NEIGHBOUR: 'it returns false'. Refute it at one input. -/
def tubeAllWrong : ChangeSpec := { name := "tubeAll", fn := fun _ => fun
  | [d] => { results := [.lit (.bool false)], args := [d] }
  | _ => none }
def TubeAllWrongFalsely : Prop := tubeAllRow.holds Try.pinned (OpenSpec.ofChange tubeAllWrong)

/-- 'skywaykeep1.FlyClosed': WHATEVER THE INPUT: true; the input reads as it did. -/
def flyClosedSpec : ChangeSpec := { name := "flyClosed", fn := fun _ => fun
  | [d1, d2, d3] => { results := [.lit (.bool true)], args := [d1, d2, d3] }
  | _ => none }
def flyClosedRow : OpenClaim := { program := "yteaccanhahmclaa", sum := "b1ff999db444924079801b6ac01bfffa121f4d46b2b6f4bf8b7a95af88fca161", func := "skyway/skywaykeep1.FlyClosed", spec := "flyClosed", unfollowed := true, recurses := true, apart := false }
def FlyClosedSaid : Prop := flyClosedRow.holds Try.pinned (OpenSpec.ofChange flyClosedSpec)

/-- ITS FALSE NEIGHBOUR: 'it returns false'. Refute it at one input. -/
def flyClosedWrong : ChangeSpec := { name := "flyClosed", fn := fun _ => fun
  | [d1, d2, d3] => { results := [.lit (.bool false)], args := [d1, d2, d3] }
  | _ => none }
def FlyClosedWrongFalsely : Prop := flyClosedRow.holds Try.pinned (OpenSpec.ofChange flyClosedWrong)

/-- 'skywaykeep1.ProbeAll': WHATEVER THE INPUT: true; the input reads as it did. -/
def probeAllSpec : ChangeSpec := { name := "probeAll", fn := fun _ => fun
  | [d1, d2] => { results := [.lit (.bool true)], args := [d1, d2] }
  | _ => none }
def probeAllRow : OpenClaim := { program := "yteaccanhahmclaa", sum := "b1ff999db444924079801b6ac01bfffa121f4d46b2b6f4bf8b7a95af88fca161", func := "skyway/skywaykeep1.ProbeAll", spec := "probeAll", unfollowed := true, recurses := true, apart := false }
def ProbeAllSaid : Prop := probeAllRow.holds Try.pinned (OpenSpec.ofChange probeAllSpec)

/-- ITS FALSE NEIGHBOUR: 'it returns false'. Refute it at one input. -/
def probeAllWrong : ChangeSpec := { name := "probeAll", fn := fun _ => fun
  | [d1, d2] => { results := [.lit (.bool false)], args := [d1, d2] }
  | _ => none }
def ProbeAllWrongFalsely : Prop := probeAllRow.holds Try.pinned (OpenSpec.ofChange probeAllWrong)

/-- 'skywaykeep1.RouteLength': WHATEVER THE INPUT: true; the input reads as it did. -/
def routeLengthSpec : ChangeSpec := { name := "routeLength", fn := fun _ => fun
  | [d1, d2] => { results := [.lit (.bool true)], args := [d1, d2] }
  | _ => none }
def routeLengthRow : OpenClaim := { program := "yteaccanhahmclaa", sum := "b1ff999db444924079801b6ac01bfffa121f4d46b2b6f4bf8b7a95af88fca161", func := "skyway/skywaykeep1.RouteLength", spec := "routeLength", unfollowed := true, recurses := true, apart := false }
def RouteLengthSaid : Prop := routeLengthRow.holds Try.pinned (OpenSpec.ofChange routeLengthSpec)

/-- ITS FALSE NEIGHBOUR: 'it returns false'. Refute it at one input. -/
def routeLengthWrong : ChangeSpec := { name := "routeLength", fn := fun _ => fun
  | [d1, d2] => { results := [.lit (.bool false)], args := [d1, d2] }
  | _ => none }
def RouteLengthWrongFalsely : Prop := routeLengthRow.holds Try.pinned (OpenSpec.ofChange routeLengthWrong)

/-- 'skywaykeep1.RouteDirect': WHATEVER THE INPUT: true; the input reads as it did. -/
def routeDirectSpec : ChangeSpec := { name := "routeDirect", fn := fun _ => fun
  | [d1, d2] => { results := [.lit (.bool true)], args := [d1, d2] }
  | _ => none }
def routeDirectRow : OpenClaim := { program := "yteaccanhahmclaa", sum := "b1ff999db444924079801b6ac01bfffa121f4d46b2b6f4bf8b7a95af88fca161", func := "skyway/skywaykeep1.RouteDirect", spec := "routeDirect", unfollowed := true, recurses := true, apart := false }
def RouteDirectSaid : Prop := routeDirectRow.holds Try.pinned (OpenSpec.ofChange routeDirectSpec)

/-- ITS FALSE NEIGHBOUR: 'it returns false'. Refute it at one input. -/
def routeDirectWrong : ChangeSpec := { name := "routeDirect", fn := fun _ => fun
  | [d1, d2] => { results := [.lit (.bool false)], args := [d1, d2] }
  | _ => none }
def RouteDirectWrongFalsely : Prop := routeDirectRow.holds Try.pinned (OpenSpec.ofChange routeDirectWrong)

/-- 'skywaykeep1.RouteCrossed': WHATEVER THE INPUT: true; the input reads as it did. -/
def routeCrossedSpec : ChangeSpec := { name := "routeCrossed", fn := fun _ => fun
  | [d1, d2] => { results := [.lit (.bool true)], args := [d1, d2] }
  | _ => none }
def routeCrossedRow : OpenClaim := { program := "yteaccanhahmclaa", sum := "b1ff999db444924079801b6ac01bfffa121f4d46b2b6f4bf8b7a95af88fca161", func := "skyway/skywaykeep1.RouteCrossed", spec := "routeCrossed", unfollowed := true, recurses := true, apart := false }
def RouteCrossedSaid : Prop := routeCrossedRow.holds Try.pinned (OpenSpec.ofChange routeCrossedSpec)

/-- ITS FALSE NEIGHBOUR: 'it returns false'. Refute it at one input. -/
def routeCrossedWrong : ChangeSpec := { name := "routeCrossed", fn := fun _ => fun
  | [d1, d2] => { results := [.lit (.bool false)], args := [d1, d2] }
  | _ => none }
def RouteCrossedWrongFalsely : Prop := routeCrossedRow.holds Try.pinned (OpenSpec.ofChange routeCrossedWrong)

/- THE SECOND FORM. 'bulk': how many values and letters a reading holds, each counted each time it is reached (what is shared counts as often as it is met; a slice's spare places count too). A statement '..UptoSaid' is the law's where the arguments, and the package variables that the reading takes, are together of bulk at most 1048576: NARROWER than '..Said'. Prove '..Said' where nothing that the law and all that it calls make is longer than what came in: it says more and counts as full. Else prove '..UptoSaid'. A law counts once. -/
mutual
def uptoBulk {H : Type} : DataW H → Nat
  | .lit (.string bytes) => bytes.length + 1
  | .lit _ => 1
  | .nil => 1
  | .ptr d => uptoBulk d + 1
  | .slice elems spare => uptoBulkAll elems + uptoBulkAll spare + 1
  | .agg parts => uptoBulkAll parts + 1
  | .iface _ d => uptoBulk d + 1
  | .map entries => uptoBulkEntries entries + 1
  | .held _ => 1
def uptoBulkAll {H : Type} : List (DataW H) → Nat
  | [] => 0
  | d :: r => uptoBulk d + uptoBulkAll r
def uptoBulkEntries {H : Type} : List (Lit × DataW H) → Nat
  | [] => 0
  | x :: r => uptoBulkEntry x + uptoBulkEntries r
def uptoBulkEntry {H : Type} : Lit × DataW H → Nat
  | (.string bytes, d) => bytes.length + uptoBulk d + 1
  | (_, d) => uptoBulk d + 1
 end
def uptoSmall : (H : Type) → List (DataW H) → Bool := fun _ ds => decide (uptoBulkAll ds ≤ 1048576)
def OpenSpec.upto (s : _root_.Go.ChangeSpec) : _root_.Go.OpenSpec := { _root_.Go.OpenSpec.ofChange s with cond := some uptoSmall }

/-- 'skywaykeep1.HeapqOrder', WHERE WHAT IT READS IS OF BULK AT MOST 1048576: true; the input reads as it did. -/
def heapqOrderUptoRow : OpenClaim := { program := "yteaccanhahmclaa", sum := "b1ff999db444924079801b6ac01bfffa121f4d46b2b6f4bf8b7a95af88fca161", func := "skyway/skywaykeep1.HeapqOrder", spec := "heapqOrder", apart := false, narrowed := true }
def HeapqOrderUptoSaid : Prop := heapqOrderUptoRow.holds Try.pinned (OpenSpec.upto heapqOrderSpec)

/-- 'skywaykeep1.HeapqAll', WHERE WHAT IT READS IS OF BULK AT MOST 1048576: true; the input reads as it did. -/
def heapqAllUptoRow : OpenClaim := { program := "yteaccanhahmclaa", sum := "b1ff999db444924079801b6ac01bfffa121f4d46b2b6f4bf8b7a95af88fca161", func := "skyway/skywaykeep1.HeapqAll", spec := "heapqAll", unfollowed := true, recurses := true, apart := false, narrowed := true }
def HeapqAllUptoSaid : Prop := heapqAllUptoRow.holds Try.pinned (OpenSpec.upto heapqAllSpec)

/-- 'skywaykeep1.ShortestSteps', WHERE WHAT IT READS IS OF BULK AT MOST 1048576: true; the input reads as it did. -/
def shortestStepsUptoRow : OpenClaim := { program := "yteaccanhahmclaa", sum := "b1ff999db444924079801b6ac01bfffa121f4d46b2b6f4bf8b7a95af88fca161", func := "skyway/skywaykeep1.ShortestSteps", spec := "shortestSteps", unfollowed := true, recurses := true, apart := false, narrowed := true }
def ShortestStepsUptoSaid : Prop := shortestStepsUptoRow.holds Try.pinned (OpenSpec.upto shortestStepsSpec)

/-- 'skywaykeep1.ShortestSecond', WHERE WHAT IT READS IS OF BULK AT MOST 1048576: true; the input reads as it did. -/
def shortestSecondUptoRow : OpenClaim := { program := "yteaccanhahmclaa", sum := "b1ff999db444924079801b6ac01bfffa121f4d46b2b6f4bf8b7a95af88fca161", func := "skyway/skywaykeep1.ShortestSecond", spec := "shortestSecond", unfollowed := true, recurses := true, apart := false, narrowed := true }
def ShortestSecondUptoSaid : Prop := shortestSecondUptoRow.holds Try.pinned (OpenSpec.upto shortestSecondSpec)

/-- 'skywaykeep1.ShortestLength', WHERE WHAT IT READS IS OF BULK AT MOST 1048576: true; the input reads as it did. -/
def shortestLengthUptoRow : OpenClaim := { program := "yteaccanhahmclaa", sum := "b1ff999db444924079801b6ac01bfffa121f4d46b2b6f4bf8b7a95af88fca161", func := "skyway/skywaykeep1.ShortestLength", spec := "shortestLength", unfollowed := true, recurses := true, apart := false, narrowed := true }
def ShortestLengthUptoSaid : Prop := shortestLengthUptoRow.holds Try.pinned (OpenSpec.upto shortestLengthSpec)

/-- 'skywaykeep1.ChartLinks', WHERE WHAT IT READS IS OF BULK AT MOST 1048576: true; the input reads as it did. -/
def chartLinksUptoRow : OpenClaim := { program := "yteaccanhahmclaa", sum := "b1ff999db444924079801b6ac01bfffa121f4d46b2b6f4bf8b7a95af88fca161", func := "skyway/skywaykeep1.ChartLinks", spec := "chartLinks", unfollowed := true, recurses := true, apart := false, narrowed := true }
def ChartLinksUptoSaid : Prop := chartLinksUptoRow.holds Try.pinned (OpenSpec.upto chartLinksSpec)

/-- 'skywaykeep1.TubeAll', WHERE WHAT IT READS IS OF BULK AT MOST 1048576: true; the input reads as it did. -/
def tubeAllUptoRow : OpenClaim := { program := "yteaccanhahmclaa", sum := "b1ff999db444924079801b6ac01bfffa121f4d46b2b6f4bf8b7a95af88fca161", func := "skyway/skywaykeep1.TubeAll", spec := "tubeAll", unfollowed := true, recurses := true, apart := false, narrowed := true }
def TubeAllUptoSaid : Prop := tubeAllUptoRow.holds Try.pinned (OpenSpec.upto tubeAllSpec)

/-- 'skywaykeep1.FlyClosed', WHERE WHAT IT READS IS OF BULK AT MOST 1048576: true; the input reads as it did. -/
def flyClosedUptoRow : OpenClaim := { program := "yteaccanhahmclaa", sum := "b1ff999db444924079801b6ac01bfffa121f4d46b2b6f4bf8b7a95af88fca161", func := "skyway/skywaykeep1.FlyClosed", spec := "flyClosed", unfollowed := true, recurses := true, apart := false, narrowed := true }
def FlyClosedUptoSaid : Prop := flyClosedUptoRow.holds Try.pinned (OpenSpec.upto flyClosedSpec)

/-- 'skywaykeep1.ProbeAll', WHERE WHAT IT READS IS OF BULK AT MOST 1048576: true; the input reads as it did. -/
def probeAllUptoRow : OpenClaim := { program := "yteaccanhahmclaa", sum := "b1ff999db444924079801b6ac01bfffa121f4d46b2b6f4bf8b7a95af88fca161", func := "skyway/skywaykeep1.ProbeAll", spec := "probeAll", unfollowed := true, recurses := true, apart := false, narrowed := true }
def ProbeAllUptoSaid : Prop := probeAllUptoRow.holds Try.pinned (OpenSpec.upto probeAllSpec)

/-- 'skywaykeep1.RouteLength', WHERE WHAT IT READS IS OF BULK AT MOST 1048576: true; the input reads as it did. -/
def routeLengthUptoRow : OpenClaim := { program := "yteaccanhahmclaa", sum := "b1ff999db444924079801b6ac01bfffa121f4d46b2b6f4bf8b7a95af88fca161", func := "skyway/skywaykeep1.RouteLength", spec := "routeLength", unfollowed := true, recurses := true, apart := false, narrowed := true }
def RouteLengthUptoSaid : Prop := routeLengthUptoRow.holds Try.pinned (OpenSpec.upto routeLengthSpec)

/-- 'skywaykeep1.RouteDirect', WHERE WHAT IT READS IS OF BULK AT MOST 1048576: true; the input reads as it did. -/
def routeDirectUptoRow : OpenClaim := { program := "yteaccanhahmclaa", sum := "b1ff999db444924079801b6ac01bfffa121f4d46b2b6f4bf8b7a95af88fca161", func := "skyway/skywaykeep1.RouteDirect", spec := "routeDirect", unfollowed := true, recurses := true, apart := false, narrowed := true }
def RouteDirectUptoSaid : Prop := routeDirectUptoRow.holds Try.pinned (OpenSpec.upto routeDirectSpec)

/-- 'skywaykeep1.RouteCrossed', WHERE WHAT IT READS IS OF BULK AT MOST 1048576: true; the input reads as it did. -/
def routeCrossedUptoRow : OpenClaim := { program := "yteaccanhahmclaa", sum := "b1ff999db444924079801b6ac01bfffa121f4d46b2b6f4bf8b7a95af88fca161", func := "skyway/skywaykeep1.RouteCrossed", spec := "routeCrossed", unfollowed := true, recurses := true, apart := false, narrowed := true }
def RouteCrossedUptoSaid : Prop := routeCrossedUptoRow.holds Try.pinned (OpenSpec.upto routeCrossedSpec)

end Rows
end Go.Proofs.Yteaccanhahmclaa
