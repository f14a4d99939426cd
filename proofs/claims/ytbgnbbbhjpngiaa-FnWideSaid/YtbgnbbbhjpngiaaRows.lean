/-
  No cell of these rows narrows 'for every input' (looked for: loops, veiled, ifaces, maps, wideKeys, modest, calm, conditions, laid).
  DERIVED. THE GIVEN ROWS OF THIS SEAT. 9 by the template 'for every input the law returns true; each argument reads behind the call as it read before'; 0 by the template 'total and deterministic' (their statements: YtbgnbbbhjpngiaaTotals.lean).
  GIVEN WITH THE SEED: the statements are not yours to turn. If you find one false, say at which input.
  Laid BY PROGRAM, IN A SANDBOX (cutbox-rows.mjs): the forced cells as the released guide's own fill.sh prints them over the translation f7a502a898615c68… (all of the seat's roots in one cut). By AI agents, Wed Nov 11 2026. No macro, syntax, notation, axiom, sorry.
-/
import Derived.Test.YtbgnbbbhjpngiaaChecked
import GoSem.Claim
import GoSem.ClaimJoined
import GoSem.ClaimMapViews
import Derived.JoinedTies
import Derived.KernelRfl
namespace Go.Proofs.Ytbgnbbbhjpngiaa
/- THE CELL 'sum', in the pinned program and in every row, IS THE sha256 OF THE DUMP (.gsa) THAT YtbgnbbbhjpngiaaProg.lean LOADS. Nothing in Lean hashes anything: it is a label: what it is worth is what the hold of that sum in a sandbox is worth. -/
noncomputable def Try.pinned : Pinned := { name := "ytbgnbbbhjpngiaa", sum := "f7a502a898615c68fe40c1ef38950cd2879d54e80981e42f23a12f83cfe53307", checked := Try.checked }
namespace Rows
def none {H : Type} : Left H := { results := [], args := [] }

/-- 'laws.FnExactConstants': WHATEVER THE INPUT: true; the input reads as it did. -/
def fnExactConstantsSpec : ChangeSpec := { name := "fnExactConstants", fn := fun _ => fun
  | [] => { results := [.lit (.bool true)], args := [] }
  | _ => none }
def fnExactConstantsRow : OpenClaim := { program := "ytbgnbbbhjpngiaa", sum := "f7a502a898615c68fe40c1ef38950cd2879d54e80981e42f23a12f83cfe53307", func := "loop.example/g00110/laws.FnExactConstants", spec := "fnExactConstants", apart := false }
def FnExactConstantsSaid : Prop := fnExactConstantsRow.holds Try.pinned (OpenSpec.ofChange fnExactConstantsSpec)

/-- ITS FALSE NEIGHBOUR: 'it returns false'. Refute it at one input. -/
def fnExactConstantsWrong : ChangeSpec := { name := "fnExactConstants", fn := fun _ => fun
  | [] => { results := [.lit (.bool false)], args := [] }
  | _ => none }
def FnExactConstantsWrongFalsely : Prop := fnExactConstantsRow.holds Try.pinned (OpenSpec.ofChange fnExactConstantsWrong)

/-- 'laws.FnExactAmountOk': WHATEVER THE INPUT: true; the input reads as it did. -/
def fnExactAmountOkSpec : ChangeSpec := { name := "fnExactAmountOk", fn := fun _ => fun
  | [d] => { results := [.lit (.bool true)], args := [d] }
  | _ => none }
def fnExactAmountOkRow : OpenClaim := { program := "ytbgnbbbhjpngiaa", sum := "f7a502a898615c68fe40c1ef38950cd2879d54e80981e42f23a12f83cfe53307", func := "loop.example/g00110/laws.FnExactAmountOk", spec := "fnExactAmountOk", apart := false }
def FnExactAmountOkSaid : Prop := fnExactAmountOkRow.holds Try.pinned (OpenSpec.ofChange fnExactAmountOkSpec)

/-- ITS FALSE NEIGHBOUR: 'it returns false'. Refute it at one input. -/
def fnExactAmountOkWrong : ChangeSpec := { name := "fnExactAmountOk", fn := fun _ => fun
  | [d] => { results := [.lit (.bool false)], args := [d] }
  | _ => none }
def FnExactAmountOkWrongFalsely : Prop := fnExactAmountOkRow.holds Try.pinned (OpenSpec.ofChange fnExactAmountOkWrong)

/-- 'laws.FnExactAddIn': WHATEVER THE INPUT: true; the input reads as it did. -/
def fnExactAddInSpec : ChangeSpec := { name := "fnExactAddIn", fn := fun _ => fun
  | [d1, d2] => { results := [.lit (.bool true)], args := [d1, d2] }
  | _ => none }
def fnExactAddInRow : OpenClaim := { program := "ytbgnbbbhjpngiaa", sum := "f7a502a898615c68fe40c1ef38950cd2879d54e80981e42f23a12f83cfe53307", func := "loop.example/g00110/laws.FnExactAddIn", spec := "fnExactAddIn", apart := false }
def FnExactAddInSaid : Prop := fnExactAddInRow.holds Try.pinned (OpenSpec.ofChange fnExactAddInSpec)

/-- ITS FALSE NEIGHBOUR: 'it returns false'. Refute it at one input. -/
def fnExactAddInWrong : ChangeSpec := { name := "fnExactAddIn", fn := fun _ => fun
  | [d1, d2] => { results := [.lit (.bool false)], args := [d1, d2] }
  | _ => none }
def FnExactAddInWrongFalsely : Prop := fnExactAddInRow.holds Try.pinned (OpenSpec.ofChange fnExactAddInWrong)

/-- 'laws.FnExactSubIn': WHATEVER THE INPUT: true; the input reads as it did. -/
def fnExactSubInSpec : ChangeSpec := { name := "fnExactSubIn", fn := fun _ => fun
  | [d1, d2] => { results := [.lit (.bool true)], args := [d1, d2] }
  | _ => none }
def fnExactSubInRow : OpenClaim := { program := "ytbgnbbbhjpngiaa", sum := "f7a502a898615c68fe40c1ef38950cd2879d54e80981e42f23a12f83cfe53307", func := "loop.example/g00110/laws.FnExactSubIn", spec := "fnExactSubIn", apart := false }
def FnExactSubInSaid : Prop := fnExactSubInRow.holds Try.pinned (OpenSpec.ofChange fnExactSubInSpec)

/-- ITS FALSE NEIGHBOUR: 'it returns false'. Refute it at one input. -/
def fnExactSubInWrong : ChangeSpec := { name := "fnExactSubIn", fn := fun _ => fun
  | [d1, d2] => { results := [.lit (.bool false)], args := [d1, d2] }
  | _ => none }
def FnExactSubInWrongFalsely : Prop := fnExactSubInRow.holds Try.pinned (OpenSpec.ofChange fnExactSubInWrong)

/-- 'laws.FnExactDivFloor': WHATEVER THE INPUT: true; the input reads as it did. -/
def fnExactDivFloorSpec : ChangeSpec := { name := "fnExactDivFloor", fn := fun _ => fun
  | [d1, d2] => { results := [.lit (.bool true)], args := [d1, d2] }
  | _ => none }
def fnExactDivFloorRow : OpenClaim := { program := "ytbgnbbbhjpngiaa", sum := "f7a502a898615c68fe40c1ef38950cd2879d54e80981e42f23a12f83cfe53307", func := "loop.example/g00110/laws.FnExactDivFloor", spec := "fnExactDivFloor", apart := false }
def FnExactDivFloorSaid : Prop := fnExactDivFloorRow.holds Try.pinned (OpenSpec.ofChange fnExactDivFloorSpec)

/-- ITS FALSE NEIGHBOUR: 'it returns false'. Refute it at one input. -/
def fnExactDivFloorWrong : ChangeSpec := { name := "fnExactDivFloor", fn := fun _ => fun
  | [d1, d2] => { results := [.lit (.bool false)], args := [d1, d2] }
  | _ => none }
def FnExactDivFloorWrongFalsely : Prop := fnExactDivFloorRow.holds Try.pinned (OpenSpec.ofChange fnExactDivFloorWrong)

/-- 'laws.FnExactMulIn': WHATEVER THE INPUT: true; the input reads as it did. -/
def fnExactMulInSpec : ChangeSpec := { name := "fnExactMulIn", fn := fun _ => fun
  | [d1, d2] => { results := [.lit (.bool true)], args := [d1, d2] }
  | _ => none }
def fnExactMulInRow : OpenClaim := { program := "ytbgnbbbhjpngiaa", sum := "f7a502a898615c68fe40c1ef38950cd2879d54e80981e42f23a12f83cfe53307", func := "loop.example/g00110/laws.FnExactMulIn", spec := "fnExactMulIn", apart := false }
def FnExactMulInSaid : Prop := fnExactMulInRow.holds Try.pinned (OpenSpec.ofChange fnExactMulInSpec)

/-- ITS FALSE NEIGHBOUR: 'it returns false'. Refute it at one input. -/
def fnExactMulInWrong : ChangeSpec := { name := "fnExactMulIn", fn := fun _ => fun
  | [d1, d2] => { results := [.lit (.bool false)], args := [d1, d2] }
  | _ => none }
def FnExactMulInWrongFalsely : Prop := fnExactMulInRow.holds Try.pinned (OpenSpec.ofChange fnExactMulInWrong)

/-- 'laws.FnExactMulDiv': WHATEVER THE INPUT: true; the input reads as it did. -/
def fnExactMulDivSpec : ChangeSpec := { name := "fnExactMulDiv", fn := fun _ => fun
  | [d1, d2, d3] => { results := [.lit (.bool true)], args := [d1, d2, d3] }
  | _ => none }
def fnExactMulDivRow : OpenClaim := { program := "ytbgnbbbhjpngiaa", sum := "f7a502a898615c68fe40c1ef38950cd2879d54e80981e42f23a12f83cfe53307", func := "loop.example/g00110/laws.FnExactMulDiv", spec := "fnExactMulDiv", named := ["math/bits.divideError", "math/bits.overflowError"], apart := false }
def FnExactMulDivSaid : Prop := fnExactMulDivRow.holds Try.pinned (OpenSpec.ofChange fnExactMulDivSpec)

/-- ITS FALSE NEIGHBOUR: 'it returns false'. Refute it at one input. -/
def fnExactMulDivWrong : ChangeSpec := { name := "fnExactMulDiv", fn := fun _ => fun
  | [d1, d2, d3] => { results := [.lit (.bool false)], args := [d1, d2, d3] }
  | _ => none }
def FnExactMulDivWrongFalsely : Prop := fnExactMulDivRow.holds Try.pinned (OpenSpec.ofChange fnExactMulDivWrong)

/-- 'laws.FnWide': WHATEVER THE INPUT: true; the input reads as it did. -/
def fnWideSpec : ChangeSpec := { name := "fnWide", fn := fun _ => fun
  | [d] => { results := [.lit (.bool true)], args := [d] }
  | _ => none }
def fnWideRow : OpenClaim := { program := "ytbgnbbbhjpngiaa", sum := "f7a502a898615c68fe40c1ef38950cd2879d54e80981e42f23a12f83cfe53307", func := "loop.example/g00110/laws.FnWide", spec := "fnWide", named := ["math/bits.divideError", "math/bits.overflowError"], apart := false }
def FnWideSaid : Prop := fnWideRow.holds Try.pinned (OpenSpec.ofChange fnWideSpec)

/-- ITS FALSE NEIGHBOUR: 'it returns false'. Refute it at one input. -/
def fnWideWrong : ChangeSpec := { name := "fnWide", fn := fun _ => fun
  | [d] => { results := [.lit (.bool false)], args := [d] }
  | _ => none }
def FnWideWrongFalsely : Prop := fnWideRow.holds Try.pinned (OpenSpec.ofChange fnWideWrong)

/-- 'laws.FnFloors': WHATEVER THE INPUT: true; the input reads as it did. -/
def fnFloorsSpec : ChangeSpec := { name := "fnFloors", fn := fun _ => fun
  | [d] => { results := [.lit (.bool true)], args := [d] }
  | _ => none }
def fnFloorsRow : OpenClaim := { program := "ytbgnbbbhjpngiaa", sum := "f7a502a898615c68fe40c1ef38950cd2879d54e80981e42f23a12f83cfe53307", func := "loop.example/g00110/laws.FnFloors", spec := "fnFloors", apart := false }
def FnFloorsSaid : Prop := fnFloorsRow.holds Try.pinned (OpenSpec.ofChange fnFloorsSpec)

/-- ITS FALSE NEIGHBOUR: 'it returns false'. Refute it at one input. -/
def fnFloorsWrong : ChangeSpec := { name := "fnFloors", fn := fun _ => fun
  | [d] => { results := [.lit (.bool false)], args := [d] }
  | _ => none }
def FnFloorsWrongFalsely : Prop := fnFloorsRow.holds Try.pinned (OpenSpec.ofChange fnFloorsWrong)

/- THE SECOND FORM. 'bulk': how many values and letters a reading holds, each counted each time it is reached (what is shared counts as often as it is met; a slice's spare places count too). A statement '..UptoSaid' is the law's where the arguments, and the package variables that the reading takes, are together of bulk at most 1048576: NARROWER than '..Said'. Prove '..Said' where nothing that the law and all that it calls make is longer than what came in: it says more and counts as full. Else prove '..UptoSaid'. A law counts once. -/
mutual
def uptoBulk {H : Type} : DataW H → Nat
  | .lit (.string bytes) => bytes.length + 1
  | .lit _ => 1
  | .nil => 1
  | .ptr d => uptoBulk d + 1
  | .slice elems spare => uptoBulkAll elems + uptoBulkAll spare + 1
  | .agg parts => uptoBulkAll parts + 1
  | .iface _ d => uptoBulk d + 1
  | .map entries => uptoBulkEntries entries + 1
  | .held _ => 1
def uptoBulkAll {H : Type} : List (DataW H) → Nat
  | [] => 0
  | d :: r => uptoBulk d + uptoBulkAll r
def uptoBulkEntries {H : Type} : List (Lit × DataW H) → Nat
  | [] => 0
  | x :: r => uptoBulkEntry x + uptoBulkEntries r
def uptoBulkEntry {H : Type} : Lit × DataW H → Nat
  | (.string bytes, d) => bytes.length + uptoBulk d + 1
  | (_, d) => uptoBulk d + 1
 end
def uptoSmall : (H : Type) → List (DataW H) → Bool := fun _ ds => decide (uptoBulkAll ds ≤ 1048576)
def OpenSpec.upto (s : _root_.Go.ChangeSpec) : _root_.Go.OpenSpec := { _root_.Go.OpenSpec.ofChange s with cond := some uptoSmall }

/-- 'laws.FnExactConstants', WHERE WHAT IT READS IS OF BULK AT MOST 1048576: true; the input reads as it did. -/
def fnExactConstantsUptoRow : OpenClaim := { program := "ytbgnbbbhjpngiaa", sum := "f7a502a898615c68fe40c1ef38950cd2879d54e80981e42f23a12f83cfe53307", func := "loop.example/g00110/laws.FnExactConstants", spec := "fnExactConstants", apart := false, narrowed := true }
def FnExactConstantsUptoSaid : Prop := fnExactConstantsUptoRow.holds Try.pinned (OpenSpec.upto fnExactConstantsSpec)

/-- 'laws.FnExactAmountOk', WHERE WHAT IT READS IS OF BULK AT MOST 1048576: true; the input reads as it did. -/
def fnExactAmountOkUptoRow : OpenClaim := { program := "ytbgnbbbhjpngiaa", sum := "f7a502a898615c68fe40c1ef38950cd2879d54e80981e42f23a12f83cfe53307", func := "loop.example/g00110/laws.FnExactAmountOk", spec := "fnExactAmountOk", apart := false, narrowed := true }
def FnExactAmountOkUptoSaid : Prop := fnExactAmountOkUptoRow.holds Try.pinned (OpenSpec.upto fnExactAmountOkSpec)

/-- 'laws.FnExactAddIn', WHERE WHAT IT READS IS OF BULK AT MOST 1048576: true; the input reads as it did. -/
def fnExactAddInUptoRow : OpenClaim := { program := "ytbgnbbbhjpngiaa", sum := "f7a502a898615c68fe40c1ef38950cd2879d54e80981e42f23a12f83cfe53307", func := "loop.example/g00110/laws.FnExactAddIn", spec := "fnExactAddIn", apart := false, narrowed := true }
def FnExactAddInUptoSaid : Prop := fnExactAddInUptoRow.holds Try.pinned (OpenSpec.upto fnExactAddInSpec)

/-- 'laws.FnExactSubIn', WHERE WHAT IT READS IS OF BULK AT MOST 1048576: true; the input reads as it did. -/
def fnExactSubInUptoRow : OpenClaim := { program := "ytbgnbbbhjpngiaa", sum := "f7a502a898615c68fe40c1ef38950cd2879d54e80981e42f23a12f83cfe53307", func := "loop.example/g00110/laws.FnExactSubIn", spec := "fnExactSubIn", apart := false, narrowed := true }
def FnExactSubInUptoSaid : Prop := fnExactSubInUptoRow.holds Try.pinned (OpenSpec.upto fnExactSubInSpec)

/-- 'laws.FnExactDivFloor', WHERE WHAT IT READS IS OF BULK AT MOST 1048576: true; the input reads as it did. -/
def fnExactDivFloorUptoRow : OpenClaim := { program := "ytbgnbbbhjpngiaa", sum := "f7a502a898615c68fe40c1ef38950cd2879d54e80981e42f23a12f83cfe53307", func := "loop.example/g00110/laws.FnExactDivFloor", spec := "fnExactDivFloor", apart := false, narrowed := true }
def FnExactDivFloorUptoSaid : Prop := fnExactDivFloorUptoRow.holds Try.pinned (OpenSpec.upto fnExactDivFloorSpec)

/-- 'laws.FnExactMulIn', WHERE WHAT IT READS IS OF BULK AT MOST 1048576: true; the input reads as it did. -/
def fnExactMulInUptoRow : OpenClaim := { program := "ytbgnbbbhjpngiaa", sum := "f7a502a898615c68fe40c1ef38950cd2879d54e80981e42f23a12f83cfe53307", func := "loop.example/g00110/laws.FnExactMulIn", spec := "fnExactMulIn", apart := false, narrowed := true }
def FnExactMulInUptoSaid : Prop := fnExactMulInUptoRow.holds Try.pinned (OpenSpec.upto fnExactMulInSpec)

/-- 'laws.FnExactMulDiv', WHERE WHAT IT READS IS OF BULK AT MOST 1048576: true; the input reads as it did. -/
def fnExactMulDivUptoRow : OpenClaim := { program := "ytbgnbbbhjpngiaa", sum := "f7a502a898615c68fe40c1ef38950cd2879d54e80981e42f23a12f83cfe53307", func := "loop.example/g00110/laws.FnExactMulDiv", spec := "fnExactMulDiv", named := ["math/bits.divideError", "math/bits.overflowError"], apart := false, narrowed := true }
def FnExactMulDivUptoSaid : Prop := fnExactMulDivUptoRow.holds Try.pinned (OpenSpec.upto fnExactMulDivSpec)

/-- 'laws.FnWide', WHERE WHAT IT READS IS OF BULK AT MOST 1048576: true; the input reads as it did. -/
def fnWideUptoRow : OpenClaim := { program := "ytbgnbbbhjpngiaa", sum := "f7a502a898615c68fe40c1ef38950cd2879d54e80981e42f23a12f83cfe53307", func := "loop.example/g00110/laws.FnWide", spec := "fnWide", named := ["math/bits.divideError", "math/bits.overflowError"], apart := false, narrowed := true }
def FnWideUptoSaid : Prop := fnWideUptoRow.holds Try.pinned (OpenSpec.upto fnWideSpec)

/-- 'laws.FnFloors', WHERE WHAT IT READS IS OF BULK AT MOST 1048576: true; the input reads as it did. -/
def fnFloorsUptoRow : OpenClaim := { program := "ytbgnbbbhjpngiaa", sum := "f7a502a898615c68fe40c1ef38950cd2879d54e80981e42f23a12f83cfe53307", func := "loop.example/g00110/laws.FnFloors", spec := "fnFloors", apart := false, narrowed := true }
def FnFloorsUptoSaid : Prop := fnFloorsUptoRow.holds Try.pinned (OpenSpec.upto fnFloorsSpec)

end Rows
end Go.Proofs.Ytbgnbbbhjpngiaa
