/-
  No cell of these rows narrows 'for every input' (looked for: loops, veiled, ifaces, maps, wideKeys, modest, calm, conditions, laid).
  DERIVED. THE GIVEN ROWS OF THIS SEAT. 12 by the template 'for every input the law returns true; each argument reads behind the call as it read before'; 0 by the template 'total and deterministic' (their statements: YtlgdcpkjobbnnaaTotals.lean).
  GIVEN WITH THE SEED: the statements are not yours to turn. If you find one false, say at which input.
  Laid BY PROGRAM, IN A SANDBOX (cutbox-rows.mjs): the forced cells as the released guide's own fill.sh prints them over the translation 9bebf094a2fe37d9… (all of the seat's roots in one cut). By AI agents, Wed Nov 11 2026. No macro, syntax, notation, axiom, sorry.
-/
import Derived.Test.YtlgdcpkjobbnnaaChecked
import GoSem.Claim
import GoSem.ClaimJoined
import GoSem.ClaimMapViews
import Derived.JoinedTies
import Derived.KernelRfl
namespace Go.Proofs.Ytlgdcpkjobbnnaa
/- THE CELL 'sum', in the pinned program and in every row, IS THE sha256 OF THE DUMP (.gsa) THAT YtlgdcpkjobbnnaaProg.lean LOADS. Nothing in Lean hashes anything: it is a label: what it is worth is what the hold of that sum in a sandbox is worth. -/
noncomputable def Try.pinned : Pinned := { name := "ytlgdcpkjobbnnaa", sum := "9bebf094a2fe37d90f630084bc8bfde4d5a63a780f17bdb949871cbee69bde58", checked := Try.checked }
namespace Rows
def none {H : Type} : Left H := { results := [], args := [] }

/-- 'skywaykeep1.PolygonCommon': WHATEVER THE INPUT: true; the input reads as it did. -/
def polygonCommonSpec : ChangeSpec := { name := "polygonCommon", fn := fun _ => fun
  | [d1, d2, d3, d4] => { results := [.lit (.bool true)], args := [d1, d2, d3, d4] }
  | _ => none }
def polygonCommonRow : OpenClaim := { program := "ytlgdcpkjobbnnaa", sum := "9bebf094a2fe37d90f630084bc8bfde4d5a63a780f17bdb949871cbee69bde58", func := "skyway/skywaykeep1.PolygonCommon", spec := "polygonCommon", apart := false }
def PolygonCommonSaid : Prop := polygonCommonRow.holds Try.pinned (OpenSpec.ofChange polygonCommonSpec)

/-- ITS FALSE NEIGHBOUR: 'it returns false'. Refute it at one input. -/
def polygonCommonWrong : ChangeSpec := { name := "polygonCommon", fn := fun _ => fun
  | [d1, d2, d3, d4] => { results := [.lit (.bool false)], args := [d1, d2, d3, d4] }
  | _ => none }
def PolygonCommonWrongFalsely : Prop := polygonCommonRow.holds Try.pinned (OpenSpec.ofChange polygonCommonWrong)

/-- 'skywaykeep1.PolygonApart': WHATEVER THE INPUT: true; the input reads as it did. -/
def polygonApartSpec : ChangeSpec := { name := "polygonApart", fn := fun _ => fun
  | [d1, d2, d3] => { results := [.lit (.bool true)], args := [d1, d2, d3] }
  | _ => none }
def polygonApartRow : OpenClaim := { program := "ytlgdcpkjobbnnaa", sum := "9bebf094a2fe37d90f630084bc8bfde4d5a63a780f17bdb949871cbee69bde58", func := "skyway/skywaykeep1.PolygonApart", spec := "polygonApart", apart := false }
def PolygonApartSaid : Prop := polygonApartRow.holds Try.pinned (OpenSpec.ofChange polygonApartSpec)

/-- ITS FALSE NEIGHBOUR: 'it returns false'. Refute it at one input. -/
def polygonApartWrong : ChangeSpec := { name := "polygonApart", fn := fun _ => fun
  | [d1, d2, d3] => { results := [.lit (.bool false)], args := [d1, d2, d3] }
  | _ => none }
def PolygonApartWrongFalsely : Prop := polygonApartRow.holds Try.pinned (OpenSpec.ofChange polygonApartWrong)

/-- 'skywaykeep1.PolygonTurned': WHATEVER THE INPUT: true; the input reads as it did. -/
def polygonTurnedSpec : ChangeSpec := { name := "polygonTurned", fn := fun _ => fun
  | [d1, d2, d3] => { results := [.lit (.bool true)], args := [d1, d2, d3] }
  | _ => none }
def polygonTurnedRow : OpenClaim := { program := "ytlgdcpkjobbnnaa", sum := "9bebf094a2fe37d90f630084bc8bfde4d5a63a780f17bdb949871cbee69bde58", func := "skyway/skywaykeep1.PolygonTurned", spec := "polygonTurned", apart := false }
def PolygonTurnedSaid : Prop := polygonTurnedRow.holds Try.pinned (OpenSpec.ofChange polygonTurnedSpec)

/-- ITS FALSE NEIGHBOUR: 'it returns false'. Refute it at one input. -/
def polygonTurnedWrong : ChangeSpec := { name := "polygonTurned", fn := fun _ => fun
  | [d1, d2, d3] => { results := [.lit (.bool false)], args := [d1, d2, d3] }
  | _ => none }
def PolygonTurnedWrongFalsely : Prop := polygonTurnedRow.holds Try.pinned (OpenSpec.ofChange polygonTurnedWrong)

/-- 'skywaykeep1.PolygonMeets': WHATEVER THE INPUT: true; the input reads as it did. -/
def polygonMeetsSpec : ChangeSpec := { name := "polygonMeets", fn := fun _ => fun
  | [d1, d2, d3] => { results := [.lit (.bool true)], args := [d1, d2, d3] }
  | _ => none }
def polygonMeetsRow : OpenClaim := { program := "ytlgdcpkjobbnnaa", sum := "9bebf094a2fe37d90f630084bc8bfde4d5a63a780f17bdb949871cbee69bde58", func := "skyway/skywaykeep1.PolygonMeets", spec := "polygonMeets", apart := false }
def PolygonMeetsSaid : Prop := polygonMeetsRow.holds Try.pinned (OpenSpec.ofChange polygonMeetsSpec)

/-- ITS FALSE NEIGHBOUR: 'it returns false'. Refute it at one input. -/
def polygonMeetsWrong : ChangeSpec := { name := "polygonMeets", fn := fun _ => fun
  | [d1, d2, d3] => { results := [.lit (.bool false)], args := [d1, d2, d3] }
  | _ => none }
def PolygonMeetsWrongFalsely : Prop := polygonMeetsRow.holds Try.pinned (OpenSpec.ofChange polygonMeetsWrong)

/-- 'skywaykeep1.ChartBetween': WHATEVER THE INPUT: true; the input reads as it did. -/
def chartBetweenSpec : ChangeSpec := { name := "chartBetween", fn := fun _ => fun
  | [d1, d2, d3, d4] => { results := [.lit (.bool true)], args := [d1, d2, d3, d4] }
  | _ => none }
def chartBetweenRow : OpenClaim := { program := "ytlgdcpkjobbnnaa", sum := "9bebf094a2fe37d90f630084bc8bfde4d5a63a780f17bdb949871cbee69bde58", func := "skyway/skywaykeep1.ChartBetween", spec := "chartBetween", unfollowed := true, recurses := true, apart := false }
def ChartBetweenSaid : Prop := chartBetweenRow.holds Try.pinned (OpenSpec.ofChange chartBetweenSpec)

/-- ITS FALSE NEIGHBOUR: 'it returns false'. Refute it at one input. -/
def chartBetweenWrong : ChangeSpec := { name := "chartBetween", fn := fun _ => fun
  | [d1, d2, d3, d4] => { results := [.lit (.bool false)], args := [d1, d2, d3, d4] }
  | _ => none }
def ChartBetweenWrongFalsely : Prop := chartBetweenRow.holds Try.pinned (OpenSpec.ofChange chartBetweenWrong)

/-- 'skywaykeep1.ChartLengths': WHATEVER THE INPUT: true; the input reads as it did. -/
def chartLengthsSpec : ChangeSpec := { name := "chartLengths", fn := fun _ => fun
  | [d1, d2, d3] => { results := [.lit (.bool true)], args := [d1, d2, d3] }
  | _ => none }
def chartLengthsRow : OpenClaim := { program := "ytlgdcpkjobbnnaa", sum := "9bebf094a2fe37d90f630084bc8bfde4d5a63a780f17bdb949871cbee69bde58", func := "skyway/skywaykeep1.ChartLengths", spec := "chartLengths", unfollowed := true, recurses := true, apart := false }
def ChartLengthsSaid : Prop := chartLengthsRow.holds Try.pinned (OpenSpec.ofChange chartLengthsSpec)

/-- ITS FALSE NEIGHBOUR: 'it returns false'. Refute it at one input. -/
def chartLengthsWrong : ChangeSpec := { name := "chartLengths", fn := fun _ => fun
  | [d1, d2, d3] => { results := [.lit (.bool false)], args := [d1, d2, d3] }
  | _ => none }
def ChartLengthsWrongFalsely : Prop := chartLengthsRow.holds Try.pinned (OpenSpec.ofChange chartLengthsWrong)

/-- 'skywaykeep1.ChartNear': WHATEVER THE INPUT: true; the input reads as it did. -/
def chartNearSpec : ChangeSpec := { name := "chartNear", fn := fun _ => fun
  | [d1, d2] => { results := [.lit (.bool true)], args := [d1, d2] }
  | _ => none }
def chartNearRow : OpenClaim := { program := "ytlgdcpkjobbnnaa", sum := "9bebf094a2fe37d90f630084bc8bfde4d5a63a780f17bdb949871cbee69bde58", func := "skyway/skywaykeep1.ChartNear", spec := "chartNear", unfollowed := true, recurses := true, apart := false }
def ChartNearSaid : Prop := chartNearRow.holds Try.pinned (OpenSpec.ofChange chartNearSpec)

/-- ITS FALSE NEIGHBOUR: 'it returns false'. Refute it at one input. -/
def chartNearWrong : ChangeSpec := { name := "chartNear", fn := fun _ => fun
  | [d1, d2] => { results := [.lit (.bool false)], args := [d1, d2] }
  | _ => none }
def ChartNearWrongFalsely : Prop := chartNearRow.holds Try.pinned (OpenSpec.ofChange chartNearWrong)

/-- 'skywaykeep1.ProbeOrder': WHATEVER THE INPUT: true; the input reads as it did. -/
def probeOrderSpec : ChangeSpec := { name := "probeOrder", fn := fun _ => fun
  | [d1, d2, d3] => { results := [.lit (.bool true)], args := [d1, d2, d3] }
  | _ => none }
def probeOrderRow : OpenClaim := { program := "ytlgdcpkjobbnnaa", sum := "9bebf094a2fe37d90f630084bc8bfde4d5a63a780f17bdb949871cbee69bde58", func := "skyway/skywaykeep1.ProbeOrder", spec := "probeOrder", unfollowed := true, recurses := true, apart := false }
def ProbeOrderSaid : Prop := probeOrderRow.holds Try.pinned (OpenSpec.ofChange probeOrderSpec)

/-- ITS FALSE NEIGHBOUR: 'it returns false'. Refute it at one input. -/
def probeOrderWrong : ChangeSpec := { name := "probeOrder", fn := fun _ => fun
  | [d1, d2, d3] => { results := [.lit (.bool false)], args := [d1, d2, d3] }
  | _ => none }
def ProbeOrderWrongFalsely : Prop := probeOrderRow.holds Try.pinned (OpenSpec.ofChange probeOrderWrong)

/-- 'skywaykeep1.ProbeMargin': WHATEVER THE INPUT: true; the input reads as it did. -/
def probeMarginSpec : ChangeSpec := { name := "probeMargin", fn := fun _ => fun
  | [d1, d2] => { results := [.lit (.bool true)], args := [d1, d2] }
  | _ => none }
def probeMarginRow : OpenClaim := { program := "ytlgdcpkjobbnnaa", sum := "9bebf094a2fe37d90f630084bc8bfde4d5a63a780f17bdb949871cbee69bde58", func := "skyway/skywaykeep1.ProbeMargin", spec := "probeMargin", unfollowed := true, recurses := true, apart := false }
def ProbeMarginSaid : Prop := probeMarginRow.holds Try.pinned (OpenSpec.ofChange probeMarginSpec)

/-- ITS FALSE NEIGHBOUR: 'it returns false'. Refute it at one input. -/
def probeMarginWrong : ChangeSpec := { name := "probeMargin", fn := fun _ => fun
  | [d1, d2] => { results := [.lit (.bool false)], args := [d1, d2] }
  | _ => none }
def ProbeMarginWrongFalsely : Prop := probeMarginRow.holds Try.pinned (OpenSpec.ofChange probeMarginWrong)

/-- 'skywaykeep1.ProbeFirst': WHATEVER THE INPUT: true; the input reads as it did. -/
def probeFirstSpec : ChangeSpec := { name := "probeFirst", fn := fun _ => fun
  | [d1, d2, d3, d4] => { results := [.lit (.bool true)], args := [d1, d2, d3, d4] }
  | _ => none }
def probeFirstRow : OpenClaim := { program := "ytlgdcpkjobbnnaa", sum := "9bebf094a2fe37d90f630084bc8bfde4d5a63a780f17bdb949871cbee69bde58", func := "skyway/skywaykeep1.ProbeFirst", spec := "probeFirst", unfollowed := true, recurses := true, apart := false }
def ProbeFirstSaid : Prop := probeFirstRow.holds Try.pinned (OpenSpec.ofChange probeFirstSpec)

/-- ITS FALSE NEIGHBOUR: 'it returns false'. Refute it at one input. -/
def probeFirstWrong : ChangeSpec := { name := "probeFirst", fn := fun _ => fun
  | [d1, d2, d3, d4] => { results := [.lit (.bool false)], args := [d1, d2, d3, d4] }
  | _ => none }
def ProbeFirstWrongFalsely : Prop := probeFirstRow.holds Try.pinned (OpenSpec.ofChange probeFirstWrong)

/-- 'skywaykeep1.ProbeWider': WHATEVER THE INPUT: true; the input reads as it did. -/
def probeWiderSpec : ChangeSpec := { name := "probeWider", fn := fun _ => fun
  | [d1, d2, d3, d4] => { results := [.lit (.bool true)], args := [d1, d2, d3, d4] }
  | _ => none }
def probeWiderRow : OpenClaim := { program := "ytlgdcpkjobbnnaa", sum := "9bebf094a2fe37d90f630084bc8bfde4d5a63a780f17bdb949871cbee69bde58", func := "skyway/skywaykeep1.ProbeWider", spec := "probeWider", unfollowed := true, recurses := true, apart := false }
def ProbeWiderSaid : Prop := probeWiderRow.holds Try.pinned (OpenSpec.ofChange probeWiderSpec)

/-- ITS FALSE NEIGHBOUR: 'it returns false'. Refute it at one input. -/
def probeWiderWrong : ChangeSpec := { name := "probeWider", fn := fun _ => fun
  | [d1, d2, d3, d4] => { results := [.lit (.bool false)], args := [d1, d2, d3, d4] }
  | _ => none }
def ProbeWiderWrongFalsely : Prop := probeWiderRow.holds Try.pinned (OpenSpec.ofChange probeWiderWrong)

/-- 'skywaykeep1.VolumeHas': WHATEVER THE INPUT: true; the input reads as it did. -/
def volumeHasSpec : ChangeSpec := { name := "volumeHas", fn := fun _ => fun
  | [d1, d2, d3] => { results := [.lit (.bool true)], args := [d1, d2, d3] }
  | _ => none }
def volumeHasRow : OpenClaim := { program := "ytlgdcpkjobbnnaa", sum := "9bebf094a2fe37d90f630084bc8bfde4d5a63a780f17bdb949871cbee69bde58", func := "skyway/skywaykeep1.VolumeHas", spec := "volumeHas", unfollowed := true, recurses := true, apart := false }
def VolumeHasSaid : Prop := volumeHasRow.holds Try.pinned (OpenSpec.ofChange volumeHasSpec)

/-- ITS FALSE NEIGHBOUR: 'it returns false'. Refute it at one input. -/
def volumeHasWrong : ChangeSpec := { name := "volumeHas", fn := fun _ => fun
  | [d1, d2, d3] => { results := [.lit (.bool false)], args := [d1, d2, d3] }
  | _ => none }
def VolumeHasWrongFalsely : Prop := volumeHasRow.holds Try.pinned (OpenSpec.ofChange volumeHasWrong)

/- THE SECOND FORM. 'bulk': how many values and letters a reading holds, each counted each time it is reached (what is shared counts as often as it is met; a slice's spare places count too). A statement '..UptoSaid' is the law's where the arguments, and the package variables that the reading takes, are together of bulk at most 1048576: NARROWER than '..Said'. Prove '..Said' where nothing that the law and all that it calls make is longer than what came in: it says more and counts as full. Else prove '..UptoSaid'. A law counts once. -/
mutual
def uptoBulk {H : Type} : DataW H → Nat
  | .lit (.string bytes) => bytes.length + 1
  | .lit _ => 1
  | .nil => 1
  | .ptr d => uptoBulk d + 1
  | .slice elems spare => uptoBulkAll elems + uptoBulkAll spare + 1
  | .agg parts => uptoBulkAll parts + 1
  | .iface _ d => uptoBulk d + 1
  | .map entries => uptoBulkEntries entries + 1
  | .held _ => 1
def uptoBulkAll {H : Type} : List (DataW H) → Nat
  | [] => 0
  | d :: r => uptoBulk d + uptoBulkAll r
def uptoBulkEntries {H : Type} : List (Lit × DataW H) → Nat
  | [] => 0
  | x :: r => uptoBulkEntry x + uptoBulkEntries r
def uptoBulkEntry {H : Type} : Lit × DataW H → Nat
  | (.string bytes, d) => bytes.length + uptoBulk d + 1
  | (_, d) => uptoBulk d + 1
 end
def uptoSmall : (H : Type) → List (DataW H) → Bool := fun _ ds => decide (uptoBulkAll ds ≤ 1048576)
def OpenSpec.upto (s : _root_.Go.ChangeSpec) : _root_.Go.OpenSpec := { _root_.Go.OpenSpec.ofChange s with cond := some uptoSmall }

/-- 'skywaykeep1.PolygonCommon', WHERE WHAT IT READS IS OF BULK AT MOST 1048576: true; the input reads as it did. -/
def polygonCommonUptoRow : OpenClaim := { program := "ytlgdcpkjobbnnaa", sum := "9bebf094a2fe37d90f630084bc8bfde4d5a63a780f17bdb949871cbee69bde58", func := "skyway/skywaykeep1.PolygonCommon", spec := "polygonCommon", apart := false, narrowed := true }
def PolygonCommonUptoSaid : Prop := polygonCommonUptoRow.holds Try.pinned (OpenSpec.upto polygonCommonSpec)

/-- 'skywaykeep1.PolygonApart', WHERE WHAT IT READS IS OF BULK AT MOST 1048576: true; the input reads as it did. -/
def polygonApartUptoRow : OpenClaim := { program := "ytlgdcpkjobbnnaa", sum := "9bebf094a2fe37d90f630084bc8bfde4d5a63a780f17bdb949871cbee69bde58", func := "skyway/skywaykeep1.PolygonApart", spec := "polygonApart", apart := false, narrowed := true }
def PolygonApartUptoSaid : Prop := polygonApartUptoRow.holds Try.pinned (OpenSpec.upto polygonApartSpec)

/-- 'skywaykeep1.PolygonTurned', WHERE WHAT IT READS IS OF BULK AT MOST 1048576: true; the input reads as it did. -/
def polygonTurnedUptoRow : OpenClaim := { program := "ytlgdcpkjobbnnaa", sum := "9bebf094a2fe37d90f630084bc8bfde4d5a63a780f17bdb949871cbee69bde58", func := "skyway/skywaykeep1.PolygonTurned", spec := "polygonTurned", apart := false, narrowed := true }
def PolygonTurnedUptoSaid : Prop := polygonTurnedUptoRow.holds Try.pinned (OpenSpec.upto polygonTurnedSpec)

/-- 'skywaykeep1.PolygonMeets', WHERE WHAT IT READS IS OF BULK AT MOST 1048576: true; the input reads as it did. -/
def polygonMeetsUptoRow : OpenClaim := { program := "ytlgdcpkjobbnnaa", sum := "9bebf094a2fe37d90f630084bc8bfde4d5a63a780f17bdb949871cbee69bde58", func := "skyway/skywaykeep1.PolygonMeets", spec := "polygonMeets", apart := false, narrowed := true }
def PolygonMeetsUptoSaid : Prop := polygonMeetsUptoRow.holds Try.pinned (OpenSpec.upto polygonMeetsSpec)

/-- 'skywaykeep1.ChartBetween', WHERE WHAT IT READS IS OF BULK AT MOST 1048576: true; the input reads as it did. -/
def chartBetweenUptoRow : OpenClaim := { program := "ytlgdcpkjobbnnaa", sum := "9bebf094a2fe37d90f630084bc8bfde4d5a63a780f17bdb949871cbee69bde58", func := "skyway/skywaykeep1.ChartBetween", spec := "chartBetween", unfollowed := true, recurses := true, apart := false, narrowed := true }
def ChartBetweenUptoSaid : Prop := chartBetweenUptoRow.holds Try.pinned (OpenSpec.upto chartBetweenSpec)

/-- 'skywaykeep1.ChartLengths', WHERE WHAT IT READS IS OF BULK AT MOST 1048576: true; the input reads as it did. -/
def chartLengthsUptoRow : OpenClaim := { program := "ytlgdcpkjobbnnaa", sum := "9bebf094a2fe37d90f630084bc8bfde4d5a63a780f17bdb949871cbee69bde58", func := "skyway/skywaykeep1.ChartLengths", spec := "chartLengths", unfollowed := true, recurses := true, apart := false, narrowed := true }
def ChartLengthsUptoSaid : Prop := chartLengthsUptoRow.holds Try.pinned (OpenSpec.upto chartLengthsSpec)

/-- 'skywaykeep1.ChartNear', WHERE WHAT IT READS IS OF BULK AT MOST 1048576: true; the input reads as it did. -/
def chartNearUptoRow : OpenClaim := { program := "ytlgdcpkjobbnnaa", sum := "9bebf094a2fe37d90f630084bc8bfde4d5a63a780f17bdb949871cbee69bde58", func := "skyway/skywaykeep1.ChartNear", spec := "chartNear", unfollowed := true, recurses := true, apart := false, narrowed := true }
def ChartNearUptoSaid : Prop := chartNearUptoRow.holds Try.pinned (OpenSpec.upto chartNearSpec)

/-- 'skywaykeep1.ProbeOrder', WHERE WHAT IT READS IS OF BULK AT MOST 1048576: true; the input reads as it did. -/
def probeOrderUptoRow : OpenClaim := { program := "ytlgdcpkjobbnnaa", sum := "9bebf094a2fe37d90f630084bc8bfde4d5a63a780f17bdb949871cbee69bde58", func := "skyway/skywaykeep1.ProbeOrder", spec := "probeOrder", unfollowed := true, recurses := true, apart := false, narrowed := true }
def ProbeOrderUptoSaid : Prop := probeOrderUptoRow.holds Try.pinned (OpenSpec.upto probeOrderSpec)

/-- 'skywaykeep1.ProbeMargin', WHERE WHAT IT READS IS OF BULK AT MOST 1048576: true; the input reads as it did. -/
def probeMarginUptoRow : OpenClaim := { program := "ytlgdcpkjobbnnaa", sum := "9bebf094a2fe37d90f630084bc8bfde4d5a63a780f17bdb949871cbee69bde58", func := "skyway/skywaykeep1.ProbeMargin", spec := "probeMargin", unfollowed := true, recurses := true, apart := false, narrowed := true }
def ProbeMarginUptoSaid : Prop := probeMarginUptoRow.holds Try.pinned (OpenSpec.upto probeMarginSpec)

/-- 'skywaykeep1.ProbeFirst', WHERE WHAT IT READS IS OF BULK AT MOST 1048576: true; the input reads as it did. -/
def probeFirstUptoRow : OpenClaim := { program := "ytlgdcpkjobbnnaa", sum := "9bebf094a2fe37d90f630084bc8bfde4d5a63a780f17bdb949871cbee69bde58", func := "skyway/skywaykeep1.ProbeFirst", spec := "probeFirst", unfollowed := true, recurses := true, apart := false, narrowed := true }
def ProbeFirstUptoSaid : Prop := probeFirstUptoRow.holds Try.pinned (OpenSpec.upto probeFirstSpec)

/-- 'skywaykeep1.ProbeWider', WHERE WHAT IT READS IS OF BULK AT MOST 1048576: true; the input reads as it did. -/
def probeWiderUptoRow : OpenClaim := { program := "ytlgdcpkjobbnnaa", sum := "9bebf094a2fe37d90f630084bc8bfde4d5a63a780f17bdb949871cbee69bde58", func := "skyway/skywaykeep1.ProbeWider", spec := "probeWider", unfollowed := true, recurses := true, apart := false, narrowed := true }
def ProbeWiderUptoSaid : Prop := probeWiderUptoRow.holds Try.pinned (OpenSpec.upto probeWiderSpec)

/-- 'skywaykeep1.VolumeHas', WHERE WHAT IT READS IS OF BULK AT MOST 1048576: true; the input reads as it did. -/
def volumeHasUptoRow : OpenClaim := { program := "ytlgdcpkjobbnnaa", sum := "9bebf094a2fe37d90f630084bc8bfde4d5a63a780f17bdb949871cbee69bde58", func := "skyway/skywaykeep1.VolumeHas", spec := "volumeHas", unfollowed := true, recurses := true, apart := false, narrowed := true }
def VolumeHasUptoSaid : Prop := volumeHasUptoRow.holds Try.pinned (OpenSpec.upto volumeHasSpec)

end Rows
end Go.Proofs.Ytlgdcpkjobbnnaa
