/-
  No cell of these rows narrows 'for every input' (looked for: loops, veiled, ifaces, maps, wideKeys, modest, calm, conditions, laid).
  DERIVED. THE GIVEN ROWS OF THIS SEAT. 11 by the template 'for every input the law returns true; each argument reads behind the call as it read before'; 0 by the template 'total and deterministic' (their statements: YtomanpmffjkkgaaTotals.lean).
  GIVEN WITH THE SEED: the statements are not yours to turn. If you find one false, say at which input.
  Laid BY PROGRAM, IN A SANDBOX (cutbox-rows.mjs): the forced cells as the released guide's own fill.sh prints them over the translation 4d745fbe933e3040… (all of the seat's roots in one cut). By AI agents, Wed Nov 11 2026. No macro, syntax, notation, axiom, sorry.
-/
import Derived.Test.YtomanpmffjkkgaaChecked
import GoSem.Claim
import GoSem.ClaimJoined
import GoSem.ClaimMapViews
import Derived.JoinedTies
import Derived.KernelRfl
namespace Go.Proofs.Ytomanpmffjkkgaa
/- THE CELL 'sum', in the pinned program and in every row, IS THE sha256 OF THE DUMP (.gsa) THAT YtomanpmffjkkgaaProg.lean LOADS. Nothing in Lean hashes anything: it is a label: what it is worth is what the hold of that sum in a sandbox is worth. -/
noncomputable def Try.pinned : Pinned := { name := "ytomanpmffjkkgaa", sum := "4d745fbe933e304069c743f34ac7721beadaaf5e4f30608f53b25f3b6dfbf78a", checked := Try.checked }
namespace Rows
def none {H : Type} : Left H := { results := [], args := [] }

/-- 'laws.FnExactLotsOk': WHATEVER THE INPUT: true; the input reads as it did. -/
def fnExactLotsOkSpec : ChangeSpec := { name := "fnExactLotsOk", fn := fun _ => fun
  | [d] => { results := [.lit (.bool true)], args := [d] }
  | _ => none }
def fnExactLotsOkRow : OpenClaim := { program := "ytomanpmffjkkgaa", sum := "4d745fbe933e304069c743f34ac7721beadaaf5e4f30608f53b25f3b6dfbf78a", func := "loop.example/g00110/laws.FnExactLotsOk", spec := "fnExactLotsOk", unfollowed := true, recurses := true, apart := false }
def FnExactLotsOkSaid : Prop := fnExactLotsOkRow.holds Try.pinned (OpenSpec.ofChange fnExactLotsOkSpec)

/-- ITS FALSE NEIGHBOUR: 'it returns false'. Refute it at one input. -/
def fnExactLotsOkWrong : ChangeSpec := { name := "fnExactLotsOk", fn := fun _ => fun
  | [d] => { results := [.lit (.bool false)], args := [d] }
  | _ => none }
def FnExactLotsOkWrongFalsely : Prop := fnExactLotsOkRow.holds Try.pinned (OpenSpec.ofChange fnExactLotsOkWrong)

/-- 'laws.FnExactLotsQty': WHATEVER THE INPUT: true; the input reads as it did. -/
def fnExactLotsQtySpec : ChangeSpec := { name := "fnExactLotsQty", fn := fun _ => fun
  | [d1, d2, d3] => { results := [.lit (.bool true)], args := [d1, d2, d3] }
  | _ => none }
def fnExactLotsQtyRow : OpenClaim := { program := "ytomanpmffjkkgaa", sum := "4d745fbe933e304069c743f34ac7721beadaaf5e4f30608f53b25f3b6dfbf78a", func := "loop.example/g00110/laws.FnExactLotsQty", spec := "fnExactLotsQty", unfollowed := true, recurses := true, apart := false }
def FnExactLotsQtySaid : Prop := fnExactLotsQtyRow.holds Try.pinned (OpenSpec.ofChange fnExactLotsQtySpec)

/-- ITS FALSE NEIGHBOUR: 'it returns false'. Refute it at one input. -/
def fnExactLotsQtyWrong : ChangeSpec := { name := "fnExactLotsQty", fn := fun _ => fun
  | [d1, d2, d3] => { results := [.lit (.bool false)], args := [d1, d2, d3] }
  | _ => none }
def FnExactLotsQtyWrongFalsely : Prop := fnExactLotsQtyRow.holds Try.pinned (OpenSpec.ofChange fnExactLotsQtyWrong)

/-- 'laws.FnExactLotsCost': WHATEVER THE INPUT: true; the input reads as it did. -/
def fnExactLotsCostSpec : ChangeSpec := { name := "fnExactLotsCost", fn := fun _ => fun
  | [d1, d2, d3] => { results := [.lit (.bool true)], args := [d1, d2, d3] }
  | _ => none }
def fnExactLotsCostRow : OpenClaim := { program := "ytomanpmffjkkgaa", sum := "4d745fbe933e304069c743f34ac7721beadaaf5e4f30608f53b25f3b6dfbf78a", func := "loop.example/g00110/laws.FnExactLotsCost", spec := "fnExactLotsCost", unfollowed := true, recurses := true, apart := false }
def FnExactLotsCostSaid : Prop := fnExactLotsCostRow.holds Try.pinned (OpenSpec.ofChange fnExactLotsCostSpec)

/-- ITS FALSE NEIGHBOUR: 'it returns false'. Refute it at one input. -/
def fnExactLotsCostWrong : ChangeSpec := { name := "fnExactLotsCost", fn := fun _ => fun
  | [d1, d2, d3] => { results := [.lit (.bool false)], args := [d1, d2, d3] }
  | _ => none }
def FnExactLotsCostWrongFalsely : Prop := fnExactLotsCostRow.holds Try.pinned (OpenSpec.ofChange fnExactLotsCostWrong)

/-- 'laws.FnExactLotsOf': WHATEVER THE INPUT: true; the input reads as it did. -/
def fnExactLotsOfSpec : ChangeSpec := { name := "fnExactLotsOf", fn := fun _ => fun
  | [d1, d2, d3] => { results := [.lit (.bool true)], args := [d1, d2, d3] }
  | _ => none }
def fnExactLotsOfRow : OpenClaim := { program := "ytomanpmffjkkgaa", sum := "4d745fbe933e304069c743f34ac7721beadaaf5e4f30608f53b25f3b6dfbf78a", func := "loop.example/g00110/laws.FnExactLotsOf", spec := "fnExactLotsOf", unfollowed := true, recurses := true, apart := false }
def FnExactLotsOfSaid : Prop := fnExactLotsOfRow.holds Try.pinned (OpenSpec.ofChange fnExactLotsOfSpec)

/-- ITS FALSE NEIGHBOUR: 'it returns false'. Refute it at one input. -/
def fnExactLotsOfWrong : ChangeSpec := { name := "fnExactLotsOf", fn := fun _ => fun
  | [d1, d2, d3] => { results := [.lit (.bool false)], args := [d1, d2, d3] }
  | _ => none }
def FnExactLotsOfWrongFalsely : Prop := fnExactLotsOfRow.holds Try.pinned (OpenSpec.ofChange fnExactLotsOfWrong)

/-- 'laws.FnExactLotOpen': WHATEVER THE INPUT: true; the input reads as it did. -/
def fnExactLotOpenSpec : ChangeSpec := { name := "fnExactLotOpen", fn := fun _ => fun
  | [d1, d2] => { results := [.lit (.bool true)], args := [d1, d2] }
  | _ => none }
def fnExactLotOpenRow : OpenClaim := { program := "ytomanpmffjkkgaa", sum := "4d745fbe933e304069c743f34ac7721beadaaf5e4f30608f53b25f3b6dfbf78a", func := "loop.example/g00110/laws.FnExactLotOpen", spec := "fnExactLotOpen", inPlace := ["slices.overlaps[loop.example/g00110/impl.Lot]"], unfollowed := true, recurses := true, apart := false }
def FnExactLotOpenSaid : Prop := fnExactLotOpenRow.holds Try.pinned (OpenSpec.ofChange fnExactLotOpenSpec)

/-- ITS FALSE NEIGHBOUR: 'it returns false'. Refute it at one input. -/
def fnExactLotOpenWrong : ChangeSpec := { name := "fnExactLotOpen", fn := fun _ => fun
  | [d1, d2] => { results := [.lit (.bool false)], args := [d1, d2] }
  | _ => none }
def FnExactLotOpenWrongFalsely : Prop := fnExactLotOpenRow.holds Try.pinned (OpenSpec.ofChange fnExactLotOpenWrong)

/-- 'laws.FnOpened': WHATEVER THE INPUT: true; the input reads as it did. -/
def fnOpenedSpec : ChangeSpec := { name := "fnOpened", fn := fun _ => fun
  | [d] => { results := [.lit (.bool true)], args := [d] }
  | _ => none }
def fnOpenedRow : OpenClaim := { program := "ytomanpmffjkkgaa", sum := "4d745fbe933e304069c743f34ac7721beadaaf5e4f30608f53b25f3b6dfbf78a", func := "loop.example/g00110/laws.FnOpened", spec := "fnOpened", inPlace := ["slices.overlaps[loop.example/g00110/impl.Lot]"], unfollowed := true, recurses := true, apart := false }
def FnOpenedSaid : Prop := fnOpenedRow.holds Try.pinned (OpenSpec.ofChange fnOpenedSpec)

/-- ITS FALSE NEIGHBOUR: 'it returns false'. Refute it at one input. -/
def fnOpenedWrong : ChangeSpec := { name := "fnOpened", fn := fun _ => fun
  | [d] => { results := [.lit (.bool false)], args := [d] }
  | _ => none }
def FnOpenedWrongFalsely : Prop := fnOpenedRow.holds Try.pinned (OpenSpec.ofChange fnOpenedWrong)

/-- 'laws.FnExactLotTake': WHATEVER THE INPUT: true; the input reads as it did. -/
def fnExactLotTakeSpec : ChangeSpec := { name := "fnExactLotTake", fn := fun _ => fun
  | [d1, d2, d3, d4, d5] => { results := [.lit (.bool true)], args := [d1, d2, d3, d4, d5] }
  | _ => none }
def fnExactLotTakeRow : OpenClaim := { program := "ytomanpmffjkkgaa", sum := "4d745fbe933e304069c743f34ac7721beadaaf5e4f30608f53b25f3b6dfbf78a", func := "loop.example/g00110/laws.FnExactLotTake", spec := "fnExactLotTake", unfollowed := true, recurses := true, named := ["math/bits.divideError", "math/bits.overflowError"], apart := false }
def FnExactLotTakeSaid : Prop := fnExactLotTakeRow.holds Try.pinned (OpenSpec.ofChange fnExactLotTakeSpec)

/-- ITS FALSE NEIGHBOUR: 'it returns false'. Refute it at one input. -/
def fnExactLotTakeWrong : ChangeSpec := { name := "fnExactLotTake", fn := fun _ => fun
  | [d1, d2, d3, d4, d5] => { results := [.lit (.bool false)], args := [d1, d2, d3, d4, d5] }
  | _ => none }
def FnExactLotTakeWrongFalsely : Prop := fnExactLotTakeRow.holds Try.pinned (OpenSpec.ofChange fnExactLotTakeWrong)

/-- 'laws.FnTake': WHATEVER THE INPUT: true; the input reads as it did. -/
def fnTakeSpec : ChangeSpec := { name := "fnTake", fn := fun _ => fun
  | [d] => { results := [.lit (.bool true)], args := [d] }
  | _ => none }
def fnTakeRow : OpenClaim := { program := "ytomanpmffjkkgaa", sum := "4d745fbe933e304069c743f34ac7721beadaaf5e4f30608f53b25f3b6dfbf78a", func := "loop.example/g00110/laws.FnTake", spec := "fnTake", unfollowed := true, recurses := true, named := ["math/bits.divideError", "math/bits.overflowError"], apart := false }
def FnTakeSaid : Prop := fnTakeRow.holds Try.pinned (OpenSpec.ofChange fnTakeSpec)

/-- ITS FALSE NEIGHBOUR: 'it returns false'. Refute it at one input. -/
def fnTakeWrong : ChangeSpec := { name := "fnTake", fn := fun _ => fun
  | [d] => { results := [.lit (.bool false)], args := [d] }
  | _ => none }
def FnTakeWrongFalsely : Prop := fnTakeRow.holds Try.pinned (OpenSpec.ofChange fnTakeWrong)

/-- 'laws.FnWays': WHATEVER THE INPUT: true; the input reads as it did. -/
def fnWaysSpec : ChangeSpec := { name := "fnWays", fn := fun _ => fun
  | [d] => { results := [.lit (.bool true)], args := [d] }
  | _ => none }
def fnWaysRow : OpenClaim := { program := "ytomanpmffjkkgaa", sum := "4d745fbe933e304069c743f34ac7721beadaaf5e4f30608f53b25f3b6dfbf78a", func := "loop.example/g00110/laws.FnWays", spec := "fnWays", unfollowed := true, recurses := true, named := ["math/bits.divideError", "math/bits.overflowError"], apart := false }
def FnWaysSaid : Prop := fnWaysRow.holds Try.pinned (OpenSpec.ofChange fnWaysSpec)

/-- ITS FALSE NEIGHBOUR: 'it returns false'. Refute it at one input. -/
def fnWaysWrong : ChangeSpec := { name := "fnWays", fn := fun _ => fun
  | [d] => { results := [.lit (.bool false)], args := [d] }
  | _ => none }
def FnWaysWrongFalsely : Prop := fnWaysRow.holds Try.pinned (OpenSpec.ofChange fnWaysWrong)

/-- 'laws.FnExactLotsScale': WHATEVER THE INPUT: true; the input reads as it did. -/
def fnExactLotsScaleSpec : ChangeSpec := { name := "fnExactLotsScale", fn := fun _ => fun
  | [d1, d2, d3, d4] => { results := [.lit (.bool true)], args := [d1, d2, d3, d4] }
  | _ => none }
def fnExactLotsScaleRow : OpenClaim := { program := "ytomanpmffjkkgaa", sum := "4d745fbe933e304069c743f34ac7721beadaaf5e4f30608f53b25f3b6dfbf78a", func := "loop.example/g00110/laws.FnExactLotsScale", spec := "fnExactLotsScale", unfollowed := true, recurses := true, named := ["math/bits.divideError", "math/bits.overflowError"], apart := false }
def FnExactLotsScaleSaid : Prop := fnExactLotsScaleRow.holds Try.pinned (OpenSpec.ofChange fnExactLotsScaleSpec)

/-- ITS FALSE NEIGHBOUR: 'it returns false'. Refute it at one input. -/
def fnExactLotsScaleWrong : ChangeSpec := { name := "fnExactLotsScale", fn := fun _ => fun
  | [d1, d2, d3, d4] => { results := [.lit (.bool false)], args := [d1, d2, d3, d4] }
  | _ => none }
def FnExactLotsScaleWrongFalsely : Prop := fnExactLotsScaleRow.holds Try.pinned (OpenSpec.ofChange fnExactLotsScaleWrong)

/-- 'laws.FnScaled': WHATEVER THE INPUT: true; the input reads as it did. -/
def fnScaledSpec : ChangeSpec := { name := "fnScaled", fn := fun _ => fun
  | [d] => { results := [.lit (.bool true)], args := [d] }
  | _ => none }
def fnScaledRow : OpenClaim := { program := "ytomanpmffjkkgaa", sum := "4d745fbe933e304069c743f34ac7721beadaaf5e4f30608f53b25f3b6dfbf78a", func := "loop.example/g00110/laws.FnScaled", spec := "fnScaled", unfollowed := true, recurses := true, named := ["math/bits.divideError", "math/bits.overflowError"], apart := false }
def FnScaledSaid : Prop := fnScaledRow.holds Try.pinned (OpenSpec.ofChange fnScaledSpec)

/-- ITS FALSE NEIGHBOUR: 'it returns false'. Refute it at one input. -/
def fnScaledWrong : ChangeSpec := { name := "fnScaled", fn := fun _ => fun
  | [d] => { results := [.lit (.bool false)], args := [d] }
  | _ => none }
def FnScaledWrongFalsely : Prop := fnScaledRow.holds Try.pinned (OpenSpec.ofChange fnScaledWrong)

/- THE SECOND FORM. 'bulk': how many values and letters a reading holds, each counted each time it is reached (what is shared counts as often as it is met; a slice's spare places count too). A statement '..UptoSaid' is the law's where the arguments, and the package variables that the reading takes, are together of bulk at most 1048576: NARROWER than '..Said'. Prove '..Said' where nothing that the law and all that it calls make is longer than what came in: it says more and counts as full. Else prove '..UptoSaid'. A law counts once. -/
mutual
def uptoBulk {H : Type} : DataW H → Nat
  | .lit (.string bytes) => bytes.length + 1
  | .lit _ => 1
  | .nil => 1
  | .ptr d => uptoBulk d + 1
  | .slice elems spare => uptoBulkAll elems + uptoBulkAll spare + 1
  | .agg parts => uptoBulkAll parts + 1
  | .iface _ d => uptoBulk d + 1
  | .map entries => uptoBulkEntries entries + 1
  | .held _ => 1
def uptoBulkAll {H : Type} : List (DataW H) → Nat
  | [] => 0
  | d :: r => uptoBulk d + uptoBulkAll r
def uptoBulkEntries {H : Type} : List (Lit × DataW H) → Nat
  | [] => 0
  | x :: r => uptoBulkEntry x + uptoBulkEntries r
def uptoBulkEntry {H : Type} : Lit × DataW H → Nat
  | (.string bytes, d) => bytes.length + uptoBulk d + 1
  | (_, d) => uptoBulk d + 1
 end
def uptoSmall : (H : Type) → List (DataW H) → Bool := fun _ ds => decide (uptoBulkAll ds ≤ 1048576)
def OpenSpec.upto (s : _root_.Go.ChangeSpec) : _root_.Go.OpenSpec := { _root_.Go.OpenSpec.ofChange s with cond := some uptoSmall }

/-- 'laws.FnExactLotsOk', WHERE WHAT IT READS IS OF BULK AT MOST 1048576: true; the input reads as it did. -/
def fnExactLotsOkUptoRow : OpenClaim := { program := "ytomanpmffjkkgaa", sum := "4d745fbe933e304069c743f34ac7721beadaaf5e4f30608f53b25f3b6dfbf78a", func := "loop.example/g00110/laws.FnExactLotsOk", spec := "fnExactLotsOk", unfollowed := true, recurses := true, apart := false, narrowed := true }
def FnExactLotsOkUptoSaid : Prop := fnExactLotsOkUptoRow.holds Try.pinned (OpenSpec.upto fnExactLotsOkSpec)

/-- 'laws.FnExactLotsQty', WHERE WHAT IT READS IS OF BULK AT MOST 1048576: true; the input reads as it did. -/
def fnExactLotsQtyUptoRow : OpenClaim := { program := "ytomanpmffjkkgaa", sum := "4d745fbe933e304069c743f34ac7721beadaaf5e4f30608f53b25f3b6dfbf78a", func := "loop.example/g00110/laws.FnExactLotsQty", spec := "fnExactLotsQty", unfollowed := true, recurses := true, apart := false, narrowed := true }
def FnExactLotsQtyUptoSaid : Prop := fnExactLotsQtyUptoRow.holds Try.pinned (OpenSpec.upto fnExactLotsQtySpec)

/-- 'laws.FnExactLotsCost', WHERE WHAT IT READS IS OF BULK AT MOST 1048576: true; the input reads as it did. -/
def fnExactLotsCostUptoRow : OpenClaim := { program := "ytomanpmffjkkgaa", sum := "4d745fbe933e304069c743f34ac7721beadaaf5e4f30608f53b25f3b6dfbf78a", func := "loop.example/g00110/laws.FnExactLotsCost", spec := "fnExactLotsCost", unfollowed := true, recurses := true, apart := false, narrowed := true }
def FnExactLotsCostUptoSaid : Prop := fnExactLotsCostUptoRow.holds Try.pinned (OpenSpec.upto fnExactLotsCostSpec)

/-- 'laws.FnExactLotsOf', WHERE WHAT IT READS IS OF BULK AT MOST 1048576: true; the input reads as it did. -/
def fnExactLotsOfUptoRow : OpenClaim := { program := "ytomanpmffjkkgaa", sum := "4d745fbe933e304069c743f34ac7721beadaaf5e4f30608f53b25f3b6dfbf78a", func := "loop.example/g00110/laws.FnExactLotsOf", spec := "fnExactLotsOf", unfollowed := true, recurses := true, apart := false, narrowed := true }
def FnExactLotsOfUptoSaid : Prop := fnExactLotsOfUptoRow.holds Try.pinned (OpenSpec.upto fnExactLotsOfSpec)

/-- 'laws.FnExactLotOpen', WHERE WHAT IT READS IS OF BULK AT MOST 1048576: true; the input reads as it did. -/
def fnExactLotOpenUptoRow : OpenClaim := { program := "ytomanpmffjkkgaa", sum := "4d745fbe933e304069c743f34ac7721beadaaf5e4f30608f53b25f3b6dfbf78a", func := "loop.example/g00110/laws.FnExactLotOpen", spec := "fnExactLotOpen", inPlace := ["slices.overlaps[loop.example/g00110/impl.Lot]"], unfollowed := true, recurses := true, apart := false, narrowed := true }
def FnExactLotOpenUptoSaid : Prop := fnExactLotOpenUptoRow.holds Try.pinned (OpenSpec.upto fnExactLotOpenSpec)

/-- 'laws.FnOpened', WHERE WHAT IT READS IS OF BULK AT MOST 1048576: true; the input reads as it did. -/
def fnOpenedUptoRow : OpenClaim := { program := "ytomanpmffjkkgaa", sum := "4d745fbe933e304069c743f34ac7721beadaaf5e4f30608f53b25f3b6dfbf78a", func := "loop.example/g00110/laws.FnOpened", spec := "fnOpened", inPlace := ["slices.overlaps[loop.example/g00110/impl.Lot]"], unfollowed := true, recurses := true, apart := false, narrowed := true }
def FnOpenedUptoSaid : Prop := fnOpenedUptoRow.holds Try.pinned (OpenSpec.upto fnOpenedSpec)

/-- 'laws.FnExactLotTake', WHERE WHAT IT READS IS OF BULK AT MOST 1048576: true; the input reads as it did. -/
def fnExactLotTakeUptoRow : OpenClaim := { program := "ytomanpmffjkkgaa", sum := "4d745fbe933e304069c743f34ac7721beadaaf5e4f30608f53b25f3b6dfbf78a", func := "loop.example/g00110/laws.FnExactLotTake", spec := "fnExactLotTake", unfollowed := true, recurses := true, named := ["math/bits.divideError", "math/bits.overflowError"], apart := false, narrowed := true }
def FnExactLotTakeUptoSaid : Prop := fnExactLotTakeUptoRow.holds Try.pinned (OpenSpec.upto fnExactLotTakeSpec)

/-- 'laws.FnTake', WHERE WHAT IT READS IS OF BULK AT MOST 1048576: true; the input reads as it did. -/
def fnTakeUptoRow : OpenClaim := { program := "ytomanpmffjkkgaa", sum := "4d745fbe933e304069c743f34ac7721beadaaf5e4f30608f53b25f3b6dfbf78a", func := "loop.example/g00110/laws.FnTake", spec := "fnTake", unfollowed := true, recurses := true, named := ["math/bits.divideError", "math/bits.overflowError"], apart := false, narrowed := true }
def FnTakeUptoSaid : Prop := fnTakeUptoRow.holds Try.pinned (OpenSpec.upto fnTakeSpec)

/-- 'laws.FnWays', WHERE WHAT IT READS IS OF BULK AT MOST 1048576: true; the input reads as it did. -/
def fnWaysUptoRow : OpenClaim := { program := "ytomanpmffjkkgaa", sum := "4d745fbe933e304069c743f34ac7721beadaaf5e4f30608f53b25f3b6dfbf78a", func := "loop.example/g00110/laws.FnWays", spec := "fnWays", unfollowed := true, recurses := true, named := ["math/bits.divideError", "math/bits.overflowError"], apart := false, narrowed := true }
def FnWaysUptoSaid : Prop := fnWaysUptoRow.holds Try.pinned (OpenSpec.upto fnWaysSpec)

/-- 'laws.FnExactLotsScale', WHERE WHAT IT READS IS OF BULK AT MOST 1048576: true; the input reads as it did. -/
def fnExactLotsScaleUptoRow : OpenClaim := { program := "ytomanpmffjkkgaa", sum := "4d745fbe933e304069c743f34ac7721beadaaf5e4f30608f53b25f3b6dfbf78a", func := "loop.example/g00110/laws.FnExactLotsScale", spec := "fnExactLotsScale", unfollowed := true, recurses := true, named := ["math/bits.divideError", "math/bits.overflowError"], apart := false, narrowed := true }
def FnExactLotsScaleUptoSaid : Prop := fnExactLotsScaleUptoRow.holds Try.pinned (OpenSpec.upto fnExactLotsScaleSpec)

/-- 'laws.FnScaled', WHERE WHAT IT READS IS OF BULK AT MOST 1048576: true; the input reads as it did. -/
def fnScaledUptoRow : OpenClaim := { program := "ytomanpmffjkkgaa", sum := "4d745fbe933e304069c743f34ac7721beadaaf5e4f30608f53b25f3b6dfbf78a", func := "loop.example/g00110/laws.FnScaled", spec := "fnScaled", unfollowed := true, recurses := true, named := ["math/bits.divideError", "math/bits.overflowError"], apart := false, narrowed := true }
def FnScaledUptoSaid : Prop := fnScaledUptoRow.holds Try.pinned (OpenSpec.upto fnScaledSpec)

end Rows
end Go.Proofs.Ytomanpmffjkkgaa
