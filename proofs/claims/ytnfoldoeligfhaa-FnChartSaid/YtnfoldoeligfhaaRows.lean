/-
  No cell of these rows narrows 'for every input' (looked for: loops, veiled, ifaces, maps, wideKeys, modest, calm, conditions, laid).
  DERIVED. THE GIVEN ROWS OF THIS SEAT. 7 by the template 'for every input the law returns true; each argument reads behind the call as it read before'; 0 by the template 'total and deterministic' (their statements: YtnfoldoeligfhaaTotals.lean).
  GIVEN WITH THE SEED: the statements are not yours to turn. If you find one false, say at which input.
  Laid BY PROGRAM, IN A SANDBOX (cutbox-rows.mjs): the forced cells as the released guide's own fill.sh prints them over the translation 71543f5dc3e44dca… (all of the seat's roots in one cut). By AI agents, Wed Nov 11 2026. No macro, syntax, notation, axiom, sorry.
-/
import Derived.Test.YtnfoldoeligfhaaChecked
import GoSem.Claim
import GoSem.ClaimJoined
import GoSem.ClaimMapViews
import Derived.JoinedTies
import Derived.KernelRfl
namespace Go.Proofs.Ytnfoldoeligfhaa
/- THE CELL 'sum', in the pinned program and in every row, IS THE sha256 OF THE DUMP (.gsa) THAT YtnfoldoeligfhaaProg.lean LOADS. Nothing in Lean hashes anything: it is a label: what it is worth is what the hold of that sum in a sandbox is worth. -/
noncomputable def Try.pinned : Pinned := { name := "ytnfoldoeligfhaa", sum := "71543f5dc3e44dca0d22aacb0c0cd65e5f4280c986eac784032f3ac5e90b99cc", checked := Try.checked }
namespace Rows
def none {H : Type} : Left H := { results := [], args := [] }

/-- 'laws.FnExactAccountsOk': WHATEVER THE INPUT: true; the input reads as it did. -/
def fnExactAccountsOkSpec : ChangeSpec := { name := "fnExactAccountsOk", fn := fun _ => fun
  | [d] => { results := [.lit (.bool true)], args := [d] }
  | _ => none }
def fnExactAccountsOkRow : OpenClaim := { program := "ytnfoldoeligfhaa", sum := "71543f5dc3e44dca0d22aacb0c0cd65e5f4280c986eac784032f3ac5e90b99cc", func := "loop.example/g00110/laws.FnExactAccountsOk", spec := "fnExactAccountsOk", apart := false }
def FnExactAccountsOkSaid : Prop := fnExactAccountsOkRow.holds Try.pinned (OpenSpec.ofChange fnExactAccountsOkSpec)

/-- ITS FALSE NEIGHBOUR: 'it returns false'. Refute it at one input. -/
def fnExactAccountsOkWrong : ChangeSpec := { name := "fnExactAccountsOk", fn := fun _ => fun
  | [d] => { results := [.lit (.bool false)], args := [d] }
  | _ => none }
def FnExactAccountsOkWrongFalsely : Prop := fnExactAccountsOkRow.holds Try.pinned (OpenSpec.ofChange fnExactAccountsOkWrong)

/-- 'laws.FnExactInstrsOk': WHATEVER THE INPUT: true; the input reads as it did. -/
def fnExactInstrsOkSpec : ChangeSpec := { name := "fnExactInstrsOk", fn := fun _ => fun
  | [d] => { results := [.lit (.bool true)], args := [d] }
  | _ => none }
def fnExactInstrsOkRow : OpenClaim := { program := "ytnfoldoeligfhaa", sum := "71543f5dc3e44dca0d22aacb0c0cd65e5f4280c986eac784032f3ac5e90b99cc", func := "loop.example/g00110/laws.FnExactInstrsOk", spec := "fnExactInstrsOk", apart := false }
def FnExactInstrsOkSaid : Prop := fnExactInstrsOkRow.holds Try.pinned (OpenSpec.ofChange fnExactInstrsOkSpec)

/-- ITS FALSE NEIGHBOUR: 'it returns false'. Refute it at one input. -/
def fnExactInstrsOkWrong : ChangeSpec := { name := "fnExactInstrsOk", fn := fun _ => fun
  | [d] => { results := [.lit (.bool false)], args := [d] }
  | _ => none }
def FnExactInstrsOkWrongFalsely : Prop := fnExactInstrsOkRow.holds Try.pinned (OpenSpec.ofChange fnExactInstrsOkWrong)

/-- 'laws.FnExactAccountKind': WHATEVER THE INPUT: true; the input reads as it did. -/
def fnExactAccountKindSpec : ChangeSpec := { name := "fnExactAccountKind", fn := fun _ => fun
  | [d1, d2] => { results := [.lit (.bool true)], args := [d1, d2] }
  | _ => none }
def fnExactAccountKindRow : OpenClaim := { program := "ytnfoldoeligfhaa", sum := "71543f5dc3e44dca0d22aacb0c0cd65e5f4280c986eac784032f3ac5e90b99cc", func := "loop.example/g00110/laws.FnExactAccountKind", spec := "fnExactAccountKind", apart := false }
def FnExactAccountKindSaid : Prop := fnExactAccountKindRow.holds Try.pinned (OpenSpec.ofChange fnExactAccountKindSpec)

/-- ITS FALSE NEIGHBOUR: 'it returns false'. Refute it at one input. -/
def fnExactAccountKindWrong : ChangeSpec := { name := "fnExactAccountKind", fn := fun _ => fun
  | [d1, d2] => { results := [.lit (.bool false)], args := [d1, d2] }
  | _ => none }
def FnExactAccountKindWrongFalsely : Prop := fnExactAccountKindRow.holds Try.pinned (OpenSpec.ofChange fnExactAccountKindWrong)

/-- 'laws.FnExactInstrKind': WHATEVER THE INPUT: true; the input reads as it did. -/
def fnExactInstrKindSpec : ChangeSpec := { name := "fnExactInstrKind", fn := fun _ => fun
  | [d1, d2] => { results := [.lit (.bool true)], args := [d1, d2] }
  | _ => none }
def fnExactInstrKindRow : OpenClaim := { program := "ytnfoldoeligfhaa", sum := "71543f5dc3e44dca0d22aacb0c0cd65e5f4280c986eac784032f3ac5e90b99cc", func := "loop.example/g00110/laws.FnExactInstrKind", spec := "fnExactInstrKind", apart := false }
def FnExactInstrKindSaid : Prop := fnExactInstrKindRow.holds Try.pinned (OpenSpec.ofChange fnExactInstrKindSpec)

/-- ITS FALSE NEIGHBOUR: 'it returns false'. Refute it at one input. -/
def fnExactInstrKindWrong : ChangeSpec := { name := "fnExactInstrKind", fn := fun _ => fun
  | [d1, d2] => { results := [.lit (.bool false)], args := [d1, d2] }
  | _ => none }
def FnExactInstrKindWrongFalsely : Prop := fnExactInstrKindRow.holds Try.pinned (OpenSpec.ofChange fnExactInstrKindWrong)

/-- 'laws.FnExactAccountPut': WHATEVER THE INPUT: true; the input reads as it did. -/
def fnExactAccountPutSpec : ChangeSpec := { name := "fnExactAccountPut", fn := fun _ => fun
  | [d1, d2] => { results := [.lit (.bool true)], args := [d1, d2] }
  | _ => none }
def fnExactAccountPutRow : OpenClaim := { program := "ytnfoldoeligfhaa", sum := "71543f5dc3e44dca0d22aacb0c0cd65e5f4280c986eac784032f3ac5e90b99cc", func := "loop.example/g00110/laws.FnExactAccountPut", spec := "fnExactAccountPut", inPlace := ["slices.overlaps[loop.example/g00110/impl.Account]"], apart := false }
def FnExactAccountPutSaid : Prop := fnExactAccountPutRow.holds Try.pinned (OpenSpec.ofChange fnExactAccountPutSpec)

/-- ITS FALSE NEIGHBOUR: 'it returns false'. Refute it at one input. -/
def fnExactAccountPutWrong : ChangeSpec := { name := "fnExactAccountPut", fn := fun _ => fun
  | [d1, d2] => { results := [.lit (.bool false)], args := [d1, d2] }
  | _ => none }
def FnExactAccountPutWrongFalsely : Prop := fnExactAccountPutRow.holds Try.pinned (OpenSpec.ofChange fnExactAccountPutWrong)

/-- 'laws.FnExactInstrPut': WHATEVER THE INPUT: true; the input reads as it did. -/
def fnExactInstrPutSpec : ChangeSpec := { name := "fnExactInstrPut", fn := fun _ => fun
  | [d1, d2] => { results := [.lit (.bool true)], args := [d1, d2] }
  | _ => none }
def fnExactInstrPutRow : OpenClaim := { program := "ytnfoldoeligfhaa", sum := "71543f5dc3e44dca0d22aacb0c0cd65e5f4280c986eac784032f3ac5e90b99cc", func := "loop.example/g00110/laws.FnExactInstrPut", spec := "fnExactInstrPut", inPlace := ["slices.overlaps[loop.example/g00110/impl.Instr]"], apart := false }
def FnExactInstrPutSaid : Prop := fnExactInstrPutRow.holds Try.pinned (OpenSpec.ofChange fnExactInstrPutSpec)

/-- ITS FALSE NEIGHBOUR: 'it returns false'. Refute it at one input. -/
def fnExactInstrPutWrong : ChangeSpec := { name := "fnExactInstrPut", fn := fun _ => fun
  | [d1, d2] => { results := [.lit (.bool false)], args := [d1, d2] }
  | _ => none }
def FnExactInstrPutWrongFalsely : Prop := fnExactInstrPutRow.holds Try.pinned (OpenSpec.ofChange fnExactInstrPutWrong)

/-- 'laws.FnChart': WHATEVER THE INPUT: true; the input reads as it did. -/
def fnChartSpec : ChangeSpec := { name := "fnChart", fn := fun _ => fun
  | [d] => { results := [.lit (.bool true)], args := [d] }
  | _ => none }
def fnChartRow : OpenClaim := { program := "ytnfoldoeligfhaa", sum := "71543f5dc3e44dca0d22aacb0c0cd65e5f4280c986eac784032f3ac5e90b99cc", func := "loop.example/g00110/laws.FnChart", spec := "fnChart", inPlace := ["slices.overlaps[loop.example/g00110/impl.Account]", "slices.overlaps[loop.example/g00110/impl.Instr]"], apart := false }
def FnChartSaid : Prop := fnChartRow.holds Try.pinned (OpenSpec.ofChange fnChartSpec)

/-- ITS FALSE NEIGHBOUR: 'it returns false'. Refute it at one input. -/
def fnChartWrong : ChangeSpec := { name := "fnChart", fn := fun _ => fun
  | [d] => { results := [.lit (.bool false)], args := [d] }
  | _ => none }
def FnChartWrongFalsely : Prop := fnChartRow.holds Try.pinned (OpenSpec.ofChange fnChartWrong)

/- THE SECOND FORM. 'bulk': how many values and letters a reading holds, each counted each time it is reached (what is shared counts as often as it is met; a slice's spare places count too). A statement '..UptoSaid' is the law's where the arguments, and the package variables that the reading takes, are together of bulk at most 1048576: NARROWER than '..Said'. Prove '..Said' where nothing that the law and all that it calls make is longer than what came in: it says more and counts as full. Else prove '..UptoSaid'. A law counts once. -/
mutual
def uptoBulk {H : Type} : DataW H → Nat
  | .lit (.string bytes) => bytes.length + 1
  | .lit _ => 1
  | .nil => 1
  | .ptr d => uptoBulk d + 1
  | .slice elems spare => uptoBulkAll elems + uptoBulkAll spare + 1
  | .agg parts => uptoBulkAll parts + 1
  | .iface _ d => uptoBulk d + 1
  | .map entries => uptoBulkEntries entries + 1
  | .held _ => 1
def uptoBulkAll {H : Type} : List (DataW H) → Nat
  | [] => 0
  | d :: r => uptoBulk d + uptoBulkAll r
def uptoBulkEntries {H : Type} : List (Lit × DataW H) → Nat
  | [] => 0
  | x :: r => uptoBulkEntry x + uptoBulkEntries r
def uptoBulkEntry {H : Type} : Lit × DataW H → Nat
  | (.string bytes, d) => bytes.length + uptoBulk d + 1
  | (_, d) => uptoBulk d + 1
 end
def uptoSmall : (H : Type) → List (DataW H) → Bool := fun _ ds => decide (uptoBulkAll ds ≤ 1048576)
def OpenSpec.upto (s : _root_.Go.ChangeSpec) : _root_.Go.OpenSpec := { _root_.Go.OpenSpec.ofChange s with cond := some uptoSmall }

/-- 'laws.FnExactAccountsOk', WHERE WHAT IT READS IS OF BULK AT MOST 1048576: true; the input reads as it did. -/
def fnExactAccountsOkUptoRow : OpenClaim := { program := "ytnfoldoeligfhaa", sum := "71543f5dc3e44dca0d22aacb0c0cd65e5f4280c986eac784032f3ac5e90b99cc", func := "loop.example/g00110/laws.FnExactAccountsOk", spec := "fnExactAccountsOk", apart := false, narrowed := true }
def FnExactAccountsOkUptoSaid : Prop := fnExactAccountsOkUptoRow.holds Try.pinned (OpenSpec.upto fnExactAccountsOkSpec)

/-- 'laws.FnExactInstrsOk', WHERE WHAT IT READS IS OF BULK AT MOST 1048576: true; the input reads as it did. -/
def fnExactInstrsOkUptoRow : OpenClaim := { program := "ytnfoldoeligfhaa", sum := "71543f5dc3e44dca0d22aacb0c0cd65e5f4280c986eac784032f3ac5e90b99cc", func := "loop.example/g00110/laws.FnExactInstrsOk", spec := "fnExactInstrsOk", apart := false, narrowed := true }
def FnExactInstrsOkUptoSaid : Prop := fnExactInstrsOkUptoRow.holds Try.pinned (OpenSpec.upto fnExactInstrsOkSpec)

/-- 'laws.FnExactAccountKind', WHERE WHAT IT READS IS OF BULK AT MOST 1048576: true; the input reads as it did. -/
def fnExactAccountKindUptoRow : OpenClaim := { program := "ytnfoldoeligfhaa", sum := "71543f5dc3e44dca0d22aacb0c0cd65e5f4280c986eac784032f3ac5e90b99cc", func := "loop.example/g00110/laws.FnExactAccountKind", spec := "fnExactAccountKind", apart := false, narrowed := true }
def FnExactAccountKindUptoSaid : Prop := fnExactAccountKindUptoRow.holds Try.pinned (OpenSpec.upto fnExactAccountKindSpec)

/-- 'laws.FnExactInstrKind', WHERE WHAT IT READS IS OF BULK AT MOST 1048576: true; the input reads as it did. -/
def fnExactInstrKindUptoRow : OpenClaim := { program := "ytnfoldoeligfhaa", sum := "71543f5dc3e44dca0d22aacb0c0cd65e5f4280c986eac784032f3ac5e90b99cc", func := "loop.example/g00110/laws.FnExactInstrKind", spec := "fnExactInstrKind", apart := false, narrowed := true }
def FnExactInstrKindUptoSaid : Prop := fnExactInstrKindUptoRow.holds Try.pinned (OpenSpec.upto fnExactInstrKindSpec)

/-- 'laws.FnExactAccountPut', WHERE WHAT IT READS IS OF BULK AT MOST 1048576: true; the input reads as it did. -/
def fnExactAccountPutUptoRow : OpenClaim := { program := "ytnfoldoeligfhaa", sum := "71543f5dc3e44dca0d22aacb0c0cd65e5f4280c986eac784032f3ac5e90b99cc", func := "loop.example/g00110/laws.FnExactAccountPut", spec := "fnExactAccountPut", inPlace := ["slices.overlaps[loop.example/g00110/impl.Account]"], apart := false, narrowed := true }
def FnExactAccountPutUptoSaid : Prop := fnExactAccountPutUptoRow.holds Try.pinned (OpenSpec.upto fnExactAccountPutSpec)

/-- 'laws.FnExactInstrPut', WHERE WHAT IT READS IS OF BULK AT MOST 1048576: true; the input reads as it did. -/
def fnExactInstrPutUptoRow : OpenClaim := { program := "ytnfoldoeligfhaa", sum := "71543f5dc3e44dca0d22aacb0c0cd65e5f4280c986eac784032f3ac5e90b99cc", func := "loop.example/g00110/laws.FnExactInstrPut", spec := "fnExactInstrPut", inPlace := ["slices.overlaps[loop.example/g00110/impl.Instr]"], apart := false, narrowed := true }
def FnExactInstrPutUptoSaid : Prop := fnExactInstrPutUptoRow.holds Try.pinned (OpenSpec.upto fnExactInstrPutSpec)

/-- 'laws.FnChart', WHERE WHAT IT READS IS OF BULK AT MOST 1048576: true; the input reads as it did. -/
def fnChartUptoRow : OpenClaim := { program := "ytnfoldoeligfhaa", sum := "71543f5dc3e44dca0d22aacb0c0cd65e5f4280c986eac784032f3ac5e90b99cc", func := "loop.example/g00110/laws.FnChart", spec := "fnChart", inPlace := ["slices.overlaps[loop.example/g00110/impl.Account]", "slices.overlaps[loop.example/g00110/impl.Instr]"], apart := false, narrowed := true }
def FnChartUptoSaid : Prop := fnChartUptoRow.holds Try.pinned (OpenSpec.upto fnChartSpec)

end Rows
end Go.Proofs.Ytnfoldoeligfhaa
