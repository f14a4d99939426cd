/-
  No cell of these rows narrows 'for every input' (looked for: loops, veiled, ifaces, maps, wideKeys, modest, calm, conditions, laid).
  DERIVED. THE GIVEN ROWS OF THIS SEAT. 6 by the template 'for every input the law returns true; each argument reads behind the call as it read before'; 0 by the template 'total and deterministic' (their statements: YtpnejhelandclaaTotals.lean).
  GIVEN WITH THE SEED: the statements are not yours to turn. If you find one false, say at which input.
  Laid BY PROGRAM, IN A SANDBOX (cutbox-rows.mjs): the forced cells as the released guide's own fill.sh prints them over the translation 13a38a4d19ce8b8a… (all of the seat's roots in one cut). By AI agents, Wed Nov 11 2026. No macro, syntax, notation, axiom, sorry.
-/
import Derived.Test.YtpnejhelandclaaChecked
import GoSem.Claim
import GoSem.ClaimJoined
import GoSem.ClaimMapViews
import Derived.JoinedTies
import Derived.KernelRfl
namespace Go.Proofs.Ytpnejhelandclaa
/- THE CELL 'sum', in the pinned program and in every row, IS THE sha256 OF THE DUMP (.gsa) THAT YtpnejhelandclaaProg.lean LOADS. Nothing in Lean hashes anything: it is a label: what it is worth is what the hold of that sum in a sandbox is worth. -/
noncomputable def Try.pinned : Pinned := { name := "ytpnejhelandclaa", sum := "13a38a4d19ce8b8a099555d38693711a7fc86cb8b6163c4ec4f039d458f020f0", checked := Try.checked }
namespace Rows
def none {H : Type} : Left H := { results := [], args := [] }

/-- 'laws.FnExactWeightsOk': WHATEVER THE INPUT: true; the input reads as it did. -/
def fnExactWeightsOkSpec : ChangeSpec := { name := "fnExactWeightsOk", fn := fun _ => fun
  | [d] => { results := [.lit (.bool true)], args := [d] }
  | _ => none }
def fnExactWeightsOkRow : OpenClaim := { program := "ytpnejhelandclaa", sum := "13a38a4d19ce8b8a099555d38693711a7fc86cb8b6163c4ec4f039d458f020f0", func := "loop.example/g00110/laws.FnExactWeightsOk", spec := "fnExactWeightsOk", unfollowed := true, recurses := true, apart := false }
def FnExactWeightsOkSaid : Prop := fnExactWeightsOkRow.holds Try.pinned (OpenSpec.ofChange fnExactWeightsOkSpec)

/-- ITS FALSE NEIGHBOUR: 'it returns false'. Refute it at one input. -/
def fnExactWeightsOkWrong : ChangeSpec := { name := "fnExactWeightsOk", fn := fun _ => fun
  | [d] => { results := [.lit (.bool false)], args := [d] }
  | _ => none }
def FnExactWeightsOkWrongFalsely : Prop := fnExactWeightsOkRow.holds Try.pinned (OpenSpec.ofChange fnExactWeightsOkWrong)

/-- 'laws.FnExactShareQuota': WHATEVER THE INPUT: true; the input reads as it did. -/
def fnExactShareQuotaSpec : ChangeSpec := { name := "fnExactShareQuota", fn := fun _ => fun
  | [d1, d2, d3] => { results := [.lit (.bool true)], args := [d1, d2, d3] }
  | _ => none }
def fnExactShareQuotaRow : OpenClaim := { program := "ytpnejhelandclaa", sum := "13a38a4d19ce8b8a099555d38693711a7fc86cb8b6163c4ec4f039d458f020f0", func := "loop.example/g00110/laws.FnExactShareQuota", spec := "fnExactShareQuota", unfollowed := true, recurses := true, named := ["math/bits.divideError", "math/bits.overflowError"], apart := false }
def FnExactShareQuotaSaid : Prop := fnExactShareQuotaRow.holds Try.pinned (OpenSpec.ofChange fnExactShareQuotaSpec)

/-- ITS FALSE NEIGHBOUR: 'it returns false'. Refute it at one input. -/
def fnExactShareQuotaWrong : ChangeSpec := { name := "fnExactShareQuota", fn := fun _ => fun
  | [d1, d2, d3] => { results := [.lit (.bool false)], args := [d1, d2, d3] }
  | _ => none }
def FnExactShareQuotaWrongFalsely : Prop := fnExactShareQuotaRow.holds Try.pinned (OpenSpec.ofChange fnExactShareQuotaWrong)

/-- 'laws.FnExactShareOrder': WHATEVER THE INPUT: true; the input reads as it did. -/
def fnExactShareOrderSpec : ChangeSpec := { name := "fnExactShareOrder", fn := fun _ => fun
  | [d1, d2] => { results := [.lit (.bool true)], args := [d1, d2] }
  | _ => none }
def fnExactShareOrderRow : OpenClaim := { program := "ytpnejhelandclaa", sum := "13a38a4d19ce8b8a099555d38693711a7fc86cb8b6163c4ec4f039d458f020f0", func := "loop.example/g00110/laws.FnExactShareOrder", spec := "fnExactShareOrder", unfollowed := true, recurses := true, named := ["math/bits.divideError", "math/bits.overflowError"], apart := false }
def FnExactShareOrderSaid : Prop := fnExactShareOrderRow.holds Try.pinned (OpenSpec.ofChange fnExactShareOrderSpec)

/-- ITS FALSE NEIGHBOUR: 'it returns false'. Refute it at one input. -/
def fnExactShareOrderWrong : ChangeSpec := { name := "fnExactShareOrder", fn := fun _ => fun
  | [d1, d2] => { results := [.lit (.bool false)], args := [d1, d2] }
  | _ => none }
def FnExactShareOrderWrongFalsely : Prop := fnExactShareOrderRow.holds Try.pinned (OpenSpec.ofChange fnExactShareOrderWrong)

/-- 'laws.FnExactShares': WHATEVER THE INPUT: true; the input reads as it did. -/
def fnExactSharesSpec : ChangeSpec := { name := "fnExactShares", fn := fun _ => fun
  | [d1, d2] => { results := [.lit (.bool true)], args := [d1, d2] }
  | _ => none }
def fnExactSharesRow : OpenClaim := { program := "ytpnejhelandclaa", sum := "13a38a4d19ce8b8a099555d38693711a7fc86cb8b6163c4ec4f039d458f020f0", func := "loop.example/g00110/laws.FnExactShares", spec := "fnExactShares", unfollowed := true, recurses := true, named := ["math/bits.divideError", "math/bits.overflowError"], apart := false }
def FnExactSharesSaid : Prop := fnExactSharesRow.holds Try.pinned (OpenSpec.ofChange fnExactSharesSpec)

/-- ITS FALSE NEIGHBOUR: 'it returns false'. Refute it at one input. -/
def fnExactSharesWrong : ChangeSpec := { name := "fnExactShares", fn := fun _ => fun
  | [d1, d2] => { results := [.lit (.bool false)], args := [d1, d2] }
  | _ => none }
def FnExactSharesWrongFalsely : Prop := fnExactSharesRow.holds Try.pinned (OpenSpec.ofChange fnExactSharesWrong)

/-- 'laws.FnShareOrder': WHATEVER THE INPUT: true; the input reads as it did. -/
def fnShareOrderSpec : ChangeSpec := { name := "fnShareOrder", fn := fun _ => fun
  | [d] => { results := [.lit (.bool true)], args := [d] }
  | _ => none }
def fnShareOrderRow : OpenClaim := { program := "ytpnejhelandclaa", sum := "13a38a4d19ce8b8a099555d38693711a7fc86cb8b6163c4ec4f039d458f020f0", func := "loop.example/g00110/laws.FnShareOrder", spec := "fnShareOrder", unfollowed := true, recurses := true, named := ["math/bits.divideError", "math/bits.overflowError"], apart := false }
def FnShareOrderSaid : Prop := fnShareOrderRow.holds Try.pinned (OpenSpec.ofChange fnShareOrderSpec)

/-- ITS FALSE NEIGHBOUR: 'it returns false'. Refute it at one input. -/
def fnShareOrderWrong : ChangeSpec := { name := "fnShareOrder", fn := fun _ => fun
  | [d] => { results := [.lit (.bool false)], args := [d] }
  | _ => none }
def FnShareOrderWrongFalsely : Prop := fnShareOrderRow.holds Try.pinned (OpenSpec.ofChange fnShareOrderWrong)

/-- 'laws.FnShares': WHATEVER THE INPUT: true; the input reads as it did. -/
def fnSharesSpec : ChangeSpec := { name := "fnShares", fn := fun _ => fun
  | [d] => { results := [.lit (.bool true)], args := [d] }
  | _ => none }
def fnSharesRow : OpenClaim := { program := "ytpnejhelandclaa", sum := "13a38a4d19ce8b8a099555d38693711a7fc86cb8b6163c4ec4f039d458f020f0", func := "loop.example/g00110/laws.FnShares", spec := "fnShares", unfollowed := true, recurses := true, named := ["math/bits.divideError", "math/bits.overflowError"], apart := false }
def FnSharesSaid : Prop := fnSharesRow.holds Try.pinned (OpenSpec.ofChange fnSharesSpec)

/-- ITS FALSE NEIGHBOUR: 'it returns false'. Refute it at one input. -/
def fnSharesWrong : ChangeSpec := { name := "fnShares", fn := fun _ => fun
  | [d] => { results := [.lit (.bool false)], args := [d] }
  | _ => none }
def FnSharesWrongFalsely : Prop := fnSharesRow.holds Try.pinned (OpenSpec.ofChange fnSharesWrong)

/- THE SECOND FORM. 'bulk': how many values and letters a reading holds, each counted each time it is reached (what is shared counts as often as it is met; a slice's spare places count too). A statement '..UptoSaid' is the law's where the arguments, and the package variables that the reading takes, are together of bulk at most 1048576: NARROWER than '..Said'. Prove '..Said' where nothing that the law and all that it calls make is longer than what came in: it says more and counts as full. Else prove '..UptoSaid'. A law counts once. -/
mutual
def uptoBulk {H : Type} : DataW H → Nat
  | .lit (.string bytes) => bytes.length + 1
  | .lit _ => 1
  | .nil => 1
  | .ptr d => uptoBulk d + 1
  | .slice elems spare => uptoBulkAll elems + uptoBulkAll spare + 1
  | .agg parts => uptoBulkAll parts + 1
  | .iface _ d => uptoBulk d + 1
  | .map entries => uptoBulkEntries entries + 1
  | .held _ => 1
def uptoBulkAll {H : Type} : List (DataW H) → Nat
  | [] => 0
  | d :: r => uptoBulk d + uptoBulkAll r
def uptoBulkEntries {H : Type} : List (Lit × DataW H) → Nat
  | [] => 0
  | x :: r => uptoBulkEntry x + uptoBulkEntries r
def uptoBulkEntry {H : Type} : Lit × DataW H → Nat
  | (.string bytes, d) => bytes.length + uptoBulk d + 1
  | (_, d) => uptoBulk d + 1
 end
def uptoSmall : (H : Type) → List (DataW H) → Bool := fun _ ds => decide (uptoBulkAll ds ≤ 1048576)
def OpenSpec.upto (s : _root_.Go.ChangeSpec) : _root_.Go.OpenSpec := { _root_.Go.OpenSpec.ofChange s with cond := some uptoSmall }

/-- 'laws.FnExactWeightsOk', WHERE WHAT IT READS IS OF BULK AT MOST 1048576: true; the input reads as it did. -/
def fnExactWeightsOkUptoRow : OpenClaim := { program := "ytpnejhelandclaa", sum := "13a38a4d19ce8b8a099555d38693711a7fc86cb8b6163c4ec4f039d458f020f0", func := "loop.example/g00110/laws.FnExactWeightsOk", spec := "fnExactWeightsOk", unfollowed := true, recurses := true, apart := false, narrowed := true }
def FnExactWeightsOkUptoSaid : Prop := fnExactWeightsOkUptoRow.holds Try.pinned (OpenSpec.upto fnExactWeightsOkSpec)

/-- 'laws.FnExactShareQuota', WHERE WHAT IT READS IS OF BULK AT MOST 1048576: true; the input reads as it did. -/
def fnExactShareQuotaUptoRow : OpenClaim := { program := "ytpnejhelandclaa", sum := "13a38a4d19ce8b8a099555d38693711a7fc86cb8b6163c4ec4f039d458f020f0", func := "loop.example/g00110/laws.FnExactShareQuota", spec := "fnExactShareQuota", unfollowed := true, recurses := true, named := ["math/bits.divideError", "math/bits.overflowError"], apart := false, narrowed := true }
def FnExactShareQuotaUptoSaid : Prop := fnExactShareQuotaUptoRow.holds Try.pinned (OpenSpec.upto fnExactShareQuotaSpec)

/-- 'laws.FnExactShareOrder', WHERE WHAT IT READS IS OF BULK AT MOST 1048576: true; the input reads as it did. -/
def fnExactShareOrderUptoRow : OpenClaim := { program := "ytpnejhelandclaa", sum := "13a38a4d19ce8b8a099555d38693711a7fc86cb8b6163c4ec4f039d458f020f0", func := "loop.example/g00110/laws.FnExactShareOrder", spec := "fnExactShareOrder", unfollowed := true, recurses := true, named := ["math/bits.divideError", "math/bits.overflowError"], apart := false, narrowed := true }
def FnExactShareOrderUptoSaid : Prop := fnExactShareOrderUptoRow.holds Try.pinned (OpenSpec.upto fnExactShareOrderSpec)

/-- 'laws.FnExactShares', WHERE WHAT IT READS IS OF BULK AT MOST 1048576: true; the input reads as it did. -/
def fnExactSharesUptoRow : OpenClaim := { program := "ytpnejhelandclaa", sum := "13a38a4d19ce8b8a099555d38693711a7fc86cb8b6163c4ec4f039d458f020f0", func := "loop.example/g00110/laws.FnExactShares", spec := "fnExactShares", unfollowed := true, recurses := true, named := ["math/bits.divideError", "math/bits.overflowError"], apart := false, narrowed := true }
def FnExactSharesUptoSaid : Prop := fnExactSharesUptoRow.holds Try.pinned (OpenSpec.upto fnExactSharesSpec)

/-- 'laws.FnShareOrder', WHERE WHAT IT READS IS OF BULK AT MOST 1048576: true; the input reads as it did. -/
def fnShareOrderUptoRow : OpenClaim := { program := "ytpnejhelandclaa", sum := "13a38a4d19ce8b8a099555d38693711a7fc86cb8b6163c4ec4f039d458f020f0", func := "loop.example/g00110/laws.FnShareOrder", spec := "fnShareOrder", unfollowed := true, recurses := true, named := ["math/bits.divideError", "math/bits.overflowError"], apart := false, narrowed := true }
def FnShareOrderUptoSaid : Prop := fnShareOrderUptoRow.holds Try.pinned (OpenSpec.upto fnShareOrderSpec)

/-- 'laws.FnShares', WHERE WHAT IT READS IS OF BULK AT MOST 1048576: true; the input reads as it did. -/
def fnSharesUptoRow : OpenClaim := { program := "ytpnejhelandclaa", sum := "13a38a4d19ce8b8a099555d38693711a7fc86cb8b6163c4ec4f039d458f020f0", func := "loop.example/g00110/laws.FnShares", spec := "fnShares", unfollowed := true, recurses := true, named := ["math/bits.divideError", "math/bits.overflowError"], apart := false, narrowed := true }
def FnSharesUptoSaid : Prop := fnSharesUptoRow.holds Try.pinned (OpenSpec.upto fnSharesSpec)

end Rows
end Go.Proofs.Ytpnejhelandclaa
