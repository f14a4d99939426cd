/-
  No cell of these rows narrows 'for every input' (looked for: loops, veiled, ifaces, maps, wideKeys, modest, calm, conditions, laid).
  DERIVED. THE GIVEN ROWS OF THIS SEAT. 9 by the template 'for every input the law returns true; each argument reads behind the call as it read before'; 0 by the template 'total and deterministic' (their statements: YtpcjpjjkaplebaaTotals.lean).
  GIVEN WITH THE SEED: the statements are not yours to turn. If you find one false, say at which input.
  Laid BY PROGRAM, IN A SANDBOX (cutbox-rows.mjs): the forced cells as the released guide's own fill.sh prints them over the translation e4041d1bee35f568… (all of the seat's roots in one cut). By AI agents, Wed Nov 11 2026. No macro, syntax, notation, axiom, sorry.
-/
import Derived.Test.YtpcjpjjkaplebaaChecked
import GoSem.Claim
import GoSem.ClaimJoined
import GoSem.ClaimMapViews
import Derived.JoinedTies
import Derived.KernelRfl
namespace Go.Proofs.Ytpcjpjjkaplebaa
/- THE CELL 'sum', in the pinned program and in every row, IS THE sha256 OF THE DUMP (.gsa) THAT YtpcjpjjkaplebaaProg.lean LOADS. Nothing in Lean hashes anything: it is a label: what it is worth is what the hold of that sum in a sandbox is worth. -/
noncomputable def Try.pinned : Pinned := { name := "ytpcjpjjkaplebaa", sum := "e4041d1bee35f568769503d53782cfac3e4a162c7fe5f911f8b5e390db563237", checked := Try.checked }
namespace Rows
def none {H : Type} : Left H := { results := [], args := [] }

/-- 'laws.FnExactBalsOk': WHATEVER THE INPUT: true; the input reads as it did. -/
def fnExactBalsOkSpec : ChangeSpec := { name := "fnExactBalsOk", fn := fun _ => fun
  | [d] => { results := [.lit (.bool true)], args := [d] }
  | _ => none }
def fnExactBalsOkRow : OpenClaim := { program := "ytpcjpjjkaplebaa", sum := "e4041d1bee35f568769503d53782cfac3e4a162c7fe5f911f8b5e390db563237", func := "loop.example/g00110/laws.FnExactBalsOk", spec := "fnExactBalsOk", apart := false }
def FnExactBalsOkSaid : Prop := fnExactBalsOkRow.holds Try.pinned (OpenSpec.ofChange fnExactBalsOkSpec)

/-- ITS FALSE NEIGHBOUR: 'it returns false'. Refute it at one input. -/
def fnExactBalsOkWrong : ChangeSpec := { name := "fnExactBalsOk", fn := fun _ => fun
  | [d] => { results := [.lit (.bool false)], args := [d] }
  | _ => none }
def FnExactBalsOkWrongFalsely : Prop := fnExactBalsOkRow.holds Try.pinned (OpenSpec.ofChange fnExactBalsOkWrong)

/-- 'laws.FnExactLegsOk': WHATEVER THE INPUT: true; the input reads as it did. -/
def fnExactLegsOkSpec : ChangeSpec := { name := "fnExactLegsOk", fn := fun _ => fun
  | [d] => { results := [.lit (.bool true)], args := [d] }
  | _ => none }
def fnExactLegsOkRow : OpenClaim := { program := "ytpcjpjjkaplebaa", sum := "e4041d1bee35f568769503d53782cfac3e4a162c7fe5f911f8b5e390db563237", func := "loop.example/g00110/laws.FnExactLegsOk", spec := "fnExactLegsOk", unfollowed := true, recurses := true, apart := false }
def FnExactLegsOkSaid : Prop := fnExactLegsOkRow.holds Try.pinned (OpenSpec.ofChange fnExactLegsOkSpec)

/-- ITS FALSE NEIGHBOUR: 'it returns false'. Refute it at one input. -/
def fnExactLegsOkWrong : ChangeSpec := { name := "fnExactLegsOk", fn := fun _ => fun
  | [d] => { results := [.lit (.bool false)], args := [d] }
  | _ => none }
def FnExactLegsOkWrongFalsely : Prop := fnExactLegsOkRow.holds Try.pinned (OpenSpec.ofChange fnExactLegsOkWrong)

/-- 'laws.FnExactBalOf': WHATEVER THE INPUT: true; the input reads as it did. -/
def fnExactBalOfSpec : ChangeSpec := { name := "fnExactBalOf", fn := fun _ => fun
  | [d1, d2, d3] => { results := [.lit (.bool true)], args := [d1, d2, d3] }
  | _ => none }
def fnExactBalOfRow : OpenClaim := { program := "ytpcjpjjkaplebaa", sum := "e4041d1bee35f568769503d53782cfac3e4a162c7fe5f911f8b5e390db563237", func := "loop.example/g00110/laws.FnExactBalOf", spec := "fnExactBalOf", apart := false }
def FnExactBalOfSaid : Prop := fnExactBalOfRow.holds Try.pinned (OpenSpec.ofChange fnExactBalOfSpec)

/-- ITS FALSE NEIGHBOUR: 'it returns false'. Refute it at one input. -/
def fnExactBalOfWrong : ChangeSpec := { name := "fnExactBalOf", fn := fun _ => fun
  | [d1, d2, d3] => { results := [.lit (.bool false)], args := [d1, d2, d3] }
  | _ => none }
def FnExactBalOfWrongFalsely : Prop := fnExactBalOfRow.holds Try.pinned (OpenSpec.ofChange fnExactBalOfWrong)

/-- 'laws.FnExactBalsSum': WHATEVER THE INPUT: true; the input reads as it did. -/
def fnExactBalsSumSpec : ChangeSpec := { name := "fnExactBalsSum", fn := fun _ => fun
  | [d1, d2] => { results := [.lit (.bool true)], args := [d1, d2] }
  | _ => none }
def fnExactBalsSumRow : OpenClaim := { program := "ytpcjpjjkaplebaa", sum := "e4041d1bee35f568769503d53782cfac3e4a162c7fe5f911f8b5e390db563237", func := "loop.example/g00110/laws.FnExactBalsSum", spec := "fnExactBalsSum", apart := false }
def FnExactBalsSumSaid : Prop := fnExactBalsSumRow.holds Try.pinned (OpenSpec.ofChange fnExactBalsSumSpec)

/-- ITS FALSE NEIGHBOUR: 'it returns false'. Refute it at one input. -/
def fnExactBalsSumWrong : ChangeSpec := { name := "fnExactBalsSum", fn := fun _ => fun
  | [d1, d2] => { results := [.lit (.bool false)], args := [d1, d2] }
  | _ => none }
def FnExactBalsSumWrongFalsely : Prop := fnExactBalsSumRow.holds Try.pinned (OpenSpec.ofChange fnExactBalsSumWrong)

/-- 'laws.FnExactBalPut': WHATEVER THE INPUT: true; the input reads as it did. -/
def fnExactBalPutSpec : ChangeSpec := { name := "fnExactBalPut", fn := fun _ => fun
  | [d1, d2, d3, d4] => { results := [.lit (.bool true)], args := [d1, d2, d3, d4] }
  | _ => none }
def fnExactBalPutRow : OpenClaim := { program := "ytpcjpjjkaplebaa", sum := "e4041d1bee35f568769503d53782cfac3e4a162c7fe5f911f8b5e390db563237", func := "loop.example/g00110/laws.FnExactBalPut", spec := "fnExactBalPut", inPlace := ["slices.overlaps[loop.example/g00110/impl.Bal]"], apart := false }
def FnExactBalPutSaid : Prop := fnExactBalPutRow.holds Try.pinned (OpenSpec.ofChange fnExactBalPutSpec)

/-- ITS FALSE NEIGHBOUR: 'it returns false'. Refute it at one input. -/
def fnExactBalPutWrong : ChangeSpec := { name := "fnExactBalPut", fn := fun _ => fun
  | [d1, d2, d3, d4] => { results := [.lit (.bool false)], args := [d1, d2, d3, d4] }
  | _ => none }
def FnExactBalPutWrongFalsely : Prop := fnExactBalPutRow.holds Try.pinned (OpenSpec.ofChange fnExactBalPutWrong)

/-- 'laws.FnExactBalsPost': WHATEVER THE INPUT: true; the input reads as it did. -/
def fnExactBalsPostSpec : ChangeSpec := { name := "fnExactBalsPost", fn := fun _ => fun
  | [d1, d2, d3] => { results := [.lit (.bool true)], args := [d1, d2, d3] }
  | _ => none }
def fnExactBalsPostRow : OpenClaim := { program := "ytpcjpjjkaplebaa", sum := "e4041d1bee35f568769503d53782cfac3e4a162c7fe5f911f8b5e390db563237", func := "loop.example/g00110/laws.FnExactBalsPost", spec := "fnExactBalsPost", inPlace := ["slices.overlaps[loop.example/g00110/impl.Bal]"], unfollowed := true, recurses := true, apart := false }
def FnExactBalsPostSaid : Prop := fnExactBalsPostRow.holds Try.pinned (OpenSpec.ofChange fnExactBalsPostSpec)

/-- ITS FALSE NEIGHBOUR: 'it returns false'. Refute it at one input. -/
def fnExactBalsPostWrong : ChangeSpec := { name := "fnExactBalsPost", fn := fun _ => fun
  | [d1, d2, d3] => { results := [.lit (.bool false)], args := [d1, d2, d3] }
  | _ => none }
def FnExactBalsPostWrongFalsely : Prop := fnExactBalsPostRow.holds Try.pinned (OpenSpec.ofChange fnExactBalsPostWrong)

/-- 'laws.FnBalPut': WHATEVER THE INPUT: true; the input reads as it did. -/
def fnBalPutSpec : ChangeSpec := { name := "fnBalPut", fn := fun _ => fun
  | [d] => { results := [.lit (.bool true)], args := [d] }
  | _ => none }
def fnBalPutRow : OpenClaim := { program := "ytpcjpjjkaplebaa", sum := "e4041d1bee35f568769503d53782cfac3e4a162c7fe5f911f8b5e390db563237", func := "loop.example/g00110/laws.FnBalPut", spec := "fnBalPut", inPlace := ["slices.overlaps[loop.example/g00110/impl.Bal]"], apart := false }
def FnBalPutSaid : Prop := fnBalPutRow.holds Try.pinned (OpenSpec.ofChange fnBalPutSpec)

/-- ITS FALSE NEIGHBOUR: 'it returns false'. Refute it at one input. -/
def fnBalPutWrong : ChangeSpec := { name := "fnBalPut", fn := fun _ => fun
  | [d] => { results := [.lit (.bool false)], args := [d] }
  | _ => none }
def FnBalPutWrongFalsely : Prop := fnBalPutRow.holds Try.pinned (OpenSpec.ofChange fnBalPutWrong)

/-- 'laws.FnPostBack': WHATEVER THE INPUT: true; the input reads as it did. -/
def fnPostBackSpec : ChangeSpec := { name := "fnPostBack", fn := fun _ => fun
  | [d] => { results := [.lit (.bool true)], args := [d] }
  | _ => none }
def fnPostBackRow : OpenClaim := { program := "ytpcjpjjkaplebaa", sum := "e4041d1bee35f568769503d53782cfac3e4a162c7fe5f911f8b5e390db563237", func := "loop.example/g00110/laws.FnPostBack", spec := "fnPostBack", inPlace := ["slices.overlaps[loop.example/g00110/impl.Bal]"], unfollowed := true, recurses := true, apart := false }
def FnPostBackSaid : Prop := fnPostBackRow.holds Try.pinned (OpenSpec.ofChange fnPostBackSpec)

/-- ITS FALSE NEIGHBOUR: 'it returns false'. Refute it at one input. -/
def fnPostBackWrong : ChangeSpec := { name := "fnPostBack", fn := fun _ => fun
  | [d] => { results := [.lit (.bool false)], args := [d] }
  | _ => none }
def FnPostBackWrongFalsely : Prop := fnPostBackRow.holds Try.pinned (OpenSpec.ofChange fnPostBackWrong)

/-- 'laws.FnPost': WHATEVER THE INPUT: true; the input reads as it did. -/
def fnPostSpec : ChangeSpec := { name := "fnPost", fn := fun _ => fun
  | [d] => { results := [.lit (.bool true)], args := [d] }
  | _ => none }
def fnPostRow : OpenClaim := { program := "ytpcjpjjkaplebaa", sum := "e4041d1bee35f568769503d53782cfac3e4a162c7fe5f911f8b5e390db563237", func := "loop.example/g00110/laws.FnPost", spec := "fnPost", inPlace := ["slices.overlaps[loop.example/g00110/impl.Bal]"], unfollowed := true, recurses := true, apart := false }
def FnPostSaid : Prop := fnPostRow.holds Try.pinned (OpenSpec.ofChange fnPostSpec)

/-- ITS FALSE NEIGHBOUR: 'it returns false'. Refute it at one input. -/
def fnPostWrong : ChangeSpec := { name := "fnPost", fn := fun _ => fun
  | [d] => { results := [.lit (.bool false)], args := [d] }
  | _ => none }
def FnPostWrongFalsely : Prop := fnPostRow.holds Try.pinned (OpenSpec.ofChange fnPostWrong)

/- THE SECOND FORM. 'bulk': how many values and letters a reading holds, each counted each time it is reached (what is shared counts as often as it is met; a slice's spare places count too). A statement '..UptoSaid' is the law's where the arguments, and the package variables that the reading takes, are together of bulk at most 1048576: NARROWER than '..Said'. Prove '..Said' where nothing that the law and all that it calls make is longer than what came in: it says more and counts as full. Else prove '..UptoSaid'. A law counts once. -/
mutual
def uptoBulk {H : Type} : DataW H → Nat
  | .lit (.string bytes) => bytes.length + 1
  | .lit _ => 1
  | .nil => 1
  | .ptr d => uptoBulk d + 1
  | .slice elems spare => uptoBulkAll elems + uptoBulkAll spare + 1
  | .agg parts => uptoBulkAll parts + 1
  | .iface _ d => uptoBulk d + 1
  | .map entries => uptoBulkEntries entries + 1
  | .held _ => 1
def uptoBulkAll {H : Type} : List (DataW H) → Nat
  | [] => 0
  | d :: r => uptoBulk d + uptoBulkAll r
def uptoBulkEntries {H : Type} : List (Lit × DataW H) → Nat
  | [] => 0
  | x :: r => uptoBulkEntry x + uptoBulkEntries r
def uptoBulkEntry {H : Type} : Lit × DataW H → Nat
  | (.string bytes, d) => bytes.length + uptoBulk d + 1
  | (_, d) => uptoBulk d + 1
 end
def uptoSmall : (H : Type) → List (DataW H) → Bool := fun _ ds => decide (uptoBulkAll ds ≤ 1048576)
def OpenSpec.upto (s : _root_.Go.ChangeSpec) : _root_.Go.OpenSpec := { _root_.Go.OpenSpec.ofChange s with cond := some uptoSmall }

/-- 'laws.FnExactBalsOk', WHERE WHAT IT READS IS OF BULK AT MOST 1048576: true; the input reads as it did. -/
def fnExactBalsOkUptoRow : OpenClaim := { program := "ytpcjpjjkaplebaa", sum := "e4041d1bee35f568769503d53782cfac3e4a162c7fe5f911f8b5e390db563237", func := "loop.example/g00110/laws.FnExactBalsOk", spec := "fnExactBalsOk", apart := false, narrowed := true }
def FnExactBalsOkUptoSaid : Prop := fnExactBalsOkUptoRow.holds Try.pinned (OpenSpec.upto fnExactBalsOkSpec)

/-- 'laws.FnExactLegsOk', WHERE WHAT IT READS IS OF BULK AT MOST 1048576: true; the input reads as it did. -/
def fnExactLegsOkUptoRow : OpenClaim := { program := "ytpcjpjjkaplebaa", sum := "e4041d1bee35f568769503d53782cfac3e4a162c7fe5f911f8b5e390db563237", func := "loop.example/g00110/laws.FnExactLegsOk", spec := "fnExactLegsOk", unfollowed := true, recurses := true, apart := false, narrowed := true }
def FnExactLegsOkUptoSaid : Prop := fnExactLegsOkUptoRow.holds Try.pinned (OpenSpec.upto fnExactLegsOkSpec)

/-- 'laws.FnExactBalOf', WHERE WHAT IT READS IS OF BULK AT MOST 1048576: true; the input reads as it did. -/
def fnExactBalOfUptoRow : OpenClaim := { program := "ytpcjpjjkaplebaa", sum := "e4041d1bee35f568769503d53782cfac3e4a162c7fe5f911f8b5e390db563237", func := "loop.example/g00110/laws.FnExactBalOf", spec := "fnExactBalOf", apart := false, narrowed := true }
def FnExactBalOfUptoSaid : Prop := fnExactBalOfUptoRow.holds Try.pinned (OpenSpec.upto fnExactBalOfSpec)

/-- 'laws.FnExactBalsSum', WHERE WHAT IT READS IS OF BULK AT MOST 1048576: true; the input reads as it did. -/
def fnExactBalsSumUptoRow : OpenClaim := { program := "ytpcjpjjkaplebaa", sum := "e4041d1bee35f568769503d53782cfac3e4a162c7fe5f911f8b5e390db563237", func := "loop.example/g00110/laws.FnExactBalsSum", spec := "fnExactBalsSum", apart := false, narrowed := true }
def FnExactBalsSumUptoSaid : Prop := fnExactBalsSumUptoRow.holds Try.pinned (OpenSpec.upto fnExactBalsSumSpec)

/-- 'laws.FnExactBalPut', WHERE WHAT IT READS IS OF BULK AT MOST 1048576: true; the input reads as it did. -/
def fnExactBalPutUptoRow : OpenClaim := { program := "ytpcjpjjkaplebaa", sum := "e4041d1bee35f568769503d53782cfac3e4a162c7fe5f911f8b5e390db563237", func := "loop.example/g00110/laws.FnExactBalPut", spec := "fnExactBalPut", inPlace := ["slices.overlaps[loop.example/g00110/impl.Bal]"], apart := false, narrowed := true }
def FnExactBalPutUptoSaid : Prop := fnExactBalPutUptoRow.holds Try.pinned (OpenSpec.upto fnExactBalPutSpec)

/-- 'laws.FnExactBalsPost', WHERE WHAT IT READS IS OF BULK AT MOST 1048576: true; the input reads as it did. -/
def fnExactBalsPostUptoRow : OpenClaim := { program := "ytpcjpjjkaplebaa", sum := "e4041d1bee35f568769503d53782cfac3e4a162c7fe5f911f8b5e390db563237", func := "loop.example/g00110/laws.FnExactBalsPost", spec := "fnExactBalsPost", inPlace := ["slices.overlaps[loop.example/g00110/impl.Bal]"], unfollowed := true, recurses := true, apart := false, narrowed := true }
def FnExactBalsPostUptoSaid : Prop := fnExactBalsPostUptoRow.holds Try.pinned (OpenSpec.upto fnExactBalsPostSpec)

/-- 'laws.FnBalPut', WHERE WHAT IT READS IS OF BULK AT MOST 1048576: true; the input reads as it did. -/
def fnBalPutUptoRow : OpenClaim := { program := "ytpcjpjjkaplebaa", sum := "e4041d1bee35f568769503d53782cfac3e4a162c7fe5f911f8b5e390db563237", func := "loop.example/g00110/laws.FnBalPut", spec := "fnBalPut", inPlace := ["slices.overlaps[loop.example/g00110/impl.Bal]"], apart := false, narrowed := true }
def FnBalPutUptoSaid : Prop := fnBalPutUptoRow.holds Try.pinned (OpenSpec.upto fnBalPutSpec)

/-- 'laws.FnPostBack', WHERE WHAT IT READS IS OF BULK AT MOST 1048576: true; the input reads as it did. -/
def fnPostBackUptoRow : OpenClaim := { program := "ytpcjpjjkaplebaa", sum := "e4041d1bee35f568769503d53782cfac3e4a162c7fe5f911f8b5e390db563237", func := "loop.example/g00110/laws.FnPostBack", spec := "fnPostBack", inPlace := ["slices.overlaps[loop.example/g00110/impl.Bal]"], unfollowed := true, recurses := true, apart := false, narrowed := true }
def FnPostBackUptoSaid : Prop := fnPostBackUptoRow.holds Try.pinned (OpenSpec.upto fnPostBackSpec)

/-- 'laws.FnPost', WHERE WHAT IT READS IS OF BULK AT MOST 1048576: true; the input reads as it did. -/
def fnPostUptoRow : OpenClaim := { program := "ytpcjpjjkaplebaa", sum := "e4041d1bee35f568769503d53782cfac3e4a162c7fe5f911f8b5e390db563237", func := "loop.example/g00110/laws.FnPost", spec := "fnPost", inPlace := ["slices.overlaps[loop.example/g00110/impl.Bal]"], unfollowed := true, recurses := true, apart := false, narrowed := true }
def FnPostUptoSaid : Prop := fnPostUptoRow.holds Try.pinned (OpenSpec.upto fnPostSpec)

end Rows
end Go.Proofs.Ytpcjpjjkaplebaa
