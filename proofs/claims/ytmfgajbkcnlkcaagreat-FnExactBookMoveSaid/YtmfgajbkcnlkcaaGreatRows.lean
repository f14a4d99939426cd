/-
  No cell of these rows narrows 'for every input' (looked for: loops, veiled, ifaces, maps, wideKeys, modest, calm, conditions, laid).
  DERIVED. THE GIVEN ROWS OF THIS SEAT. 5 by the template 'for every input the law returns true; each argument reads behind the call as it read before'; 0 by the template 'total and deterministic' (their statements: YtmfgajbkcnlkcaaGreatTotals.lean).
  GIVEN WITH THE SEED: the statements are not yours to turn. If you find one false, say at which input.
  Laid BY PROGRAM, IN A SANDBOX (cutbox-rows.mjs): the forced cells as the released guide's own fill.sh prints them over the translation 5f735415b9e99385… (all of the seat's roots in one cut). By AI agents, Wed Nov 11 2026. No macro, syntax, notation, axiom, sorry.
-/
import Derived.Test.YtmfgajbkcnlkcaaGreatChecked
import GoSem.Claim
import GoSem.ClaimJoined
import GoSem.ClaimMapViews
import Derived.JoinedTies
import Derived.KernelRfl
namespace Go.Proofs.YtmfgajbkcnlkcaaGreat
/- THE CELL 'sum', in the pinned program and in every row, IS THE sha256 OF THE DUMP (.gsa) THAT YtmfgajbkcnlkcaaGreatProg.lean LOADS. Nothing in Lean hashes anything: it is a label: what it is worth is what the hold of that sum in a sandbox is worth. -/
noncomputable def Tryz.pinned : Pinned := { name := "ytmfgajbkcnlkcaagreat", sum := "5f735415b9e9938529135b2e2b895bed01d865e850e636db79c6156388a7d2c8", checked := Tryz.checked }
namespace Rows
def none {H : Type} : Left H := { results := [], args := [] }

/-- 'laws.FnExactBookCancel': WHATEVER THE INPUT: true; the input reads as it did. -/
def fnExactBookCancelSpec : ChangeSpec := { name := "fnExactBookCancel", fn := fun _ => fun
  | [d1, d2] => { results := [.lit (.bool true)], args := [d1, d2] }
  | _ => none }
def fnExactBookCancelRow : OpenClaim := { program := "ytmfgajbkcnlkcaagreat", sum := "5f735415b9e9938529135b2e2b895bed01d865e850e636db79c6156388a7d2c8", func := "loop.example/g00110/laws.FnExactBookCancel", spec := "fnExactBookCancel", unfollowed := true, recurses := true, apart := false }
def FnExactBookCancelSaid : Prop := fnExactBookCancelRow.holds Tryz.pinned (OpenSpec.ofChange fnExactBookCancelSpec)

/-- ITS FALSE NEIGHBOUR: 'it returns false'. Refute it at one input. -/
def fnExactBookCancelWrong : ChangeSpec := { name := "fnExactBookCancel", fn := fun _ => fun
  | [d1, d2] => { results := [.lit (.bool false)], args := [d1, d2] }
  | _ => none }
def FnExactBookCancelWrongFalsely : Prop := fnExactBookCancelRow.holds Tryz.pinned (OpenSpec.ofChange fnExactBookCancelWrong)

/-- 'laws.FnExactBookAccount': WHATEVER THE INPUT: true; the input reads as it did. -/
def fnExactBookAccountSpec : ChangeSpec := { name := "fnExactBookAccount", fn := fun _ => fun
  | [d1, d2, d3] => { results := [.lit (.bool true)], args := [d1, d2, d3] }
  | _ => none }
def fnExactBookAccountRow : OpenClaim := { program := "ytmfgajbkcnlkcaagreat", sum := "5f735415b9e9938529135b2e2b895bed01d865e850e636db79c6156388a7d2c8", func := "loop.example/g00110/laws.FnExactBookAccount", spec := "fnExactBookAccount", inPlace := ["slices.overlaps[loop.example/g00110/impl.Account]"], unfollowed := true, recurses := true, apart := false }
def FnExactBookAccountSaid : Prop := fnExactBookAccountRow.holds Tryz.pinned (OpenSpec.ofChange fnExactBookAccountSpec)

/-- ITS FALSE NEIGHBOUR: 'it returns false'. Refute it at one input. -/
def fnExactBookAccountWrong : ChangeSpec := { name := "fnExactBookAccount", fn := fun _ => fun
  | [d1, d2, d3] => { results := [.lit (.bool false)], args := [d1, d2, d3] }
  | _ => none }
def FnExactBookAccountWrongFalsely : Prop := fnExactBookAccountRow.holds Tryz.pinned (OpenSpec.ofChange fnExactBookAccountWrong)

/-- 'laws.FnExactBookInstr': WHATEVER THE INPUT: true; the input reads as it did. -/
def fnExactBookInstrSpec : ChangeSpec := { name := "fnExactBookInstr", fn := fun _ => fun
  | [d1, d2, d3] => { results := [.lit (.bool true)], args := [d1, d2, d3] }
  | _ => none }
def fnExactBookInstrRow : OpenClaim := { program := "ytmfgajbkcnlkcaagreat", sum := "5f735415b9e9938529135b2e2b895bed01d865e850e636db79c6156388a7d2c8", func := "loop.example/g00110/laws.FnExactBookInstr", spec := "fnExactBookInstr", inPlace := ["slices.overlaps[loop.example/g00110/impl.Instr]"], unfollowed := true, recurses := true, apart := false }
def FnExactBookInstrSaid : Prop := fnExactBookInstrRow.holds Tryz.pinned (OpenSpec.ofChange fnExactBookInstrSpec)

/-- ITS FALSE NEIGHBOUR: 'it returns false'. Refute it at one input. -/
def fnExactBookInstrWrong : ChangeSpec := { name := "fnExactBookInstr", fn := fun _ => fun
  | [d1, d2, d3] => { results := [.lit (.bool false)], args := [d1, d2, d3] }
  | _ => none }
def FnExactBookInstrWrongFalsely : Prop := fnExactBookInstrRow.holds Tryz.pinned (OpenSpec.ofChange fnExactBookInstrWrong)

/-- 'laws.FnExactBookIssue': WHATEVER THE INPUT: true; the input reads as it did. -/
def fnExactBookIssueSpec : ChangeSpec := { name := "fnExactBookIssue", fn := fun _ => fun
  | [d1, d2, d3, d4, d5, d6] => { results := [.lit (.bool true)], args := [d1, d2, d3, d4, d5, d6] }
  | _ => none }
def fnExactBookIssueRow : OpenClaim := { program := "ytmfgajbkcnlkcaagreat", sum := "5f735415b9e9938529135b2e2b895bed01d865e850e636db79c6156388a7d2c8", func := "loop.example/g00110/laws.FnExactBookIssue", spec := "fnExactBookIssue", inPlace := ["slices.overlaps[loop.example/g00110/impl.Bal]", "slices.overlaps[loop.example/g00110/impl.Lot]"], unfollowed := true, recurses := true, apart := false }
def FnExactBookIssueSaid : Prop := fnExactBookIssueRow.holds Tryz.pinned (OpenSpec.ofChange fnExactBookIssueSpec)

/-- ITS FALSE NEIGHBOUR: 'it returns false'. Refute it at one input. -/
def fnExactBookIssueWrong : ChangeSpec := { name := "fnExactBookIssue", fn := fun _ => fun
  | [d1, d2, d3, d4, d5, d6] => { results := [.lit (.bool false)], args := [d1, d2, d3, d4, d5, d6] }
  | _ => none }
def FnExactBookIssueWrongFalsely : Prop := fnExactBookIssueRow.holds Tryz.pinned (OpenSpec.ofChange fnExactBookIssueWrong)

/-- 'laws.FnExactBookMove': WHATEVER THE INPUT: true; the input reads as it did. -/
def fnExactBookMoveSpec : ChangeSpec := { name := "fnExactBookMove", fn := fun _ => fun
  | [d1, d2, d3, d4, d5, d6] => { results := [.lit (.bool true)], args := [d1, d2, d3, d4, d5, d6] }
  | _ => none }
def fnExactBookMoveRow : OpenClaim := { program := "ytmfgajbkcnlkcaagreat", sum := "5f735415b9e9938529135b2e2b895bed01d865e850e636db79c6156388a7d2c8", func := "loop.example/g00110/laws.FnExactBookMove", spec := "fnExactBookMove", inPlace := ["slices.overlaps[loop.example/g00110/impl.Bal]", "slices.overlaps[loop.example/g00110/impl.Lot]"], unfollowed := true, recurses := true, named := ["math/bits.divideError", "math/bits.overflowError"], apart := false }
def FnExactBookMoveSaid : Prop := fnExactBookMoveRow.holds Tryz.pinned (OpenSpec.ofChange fnExactBookMoveSpec)

/-- ITS FALSE NEIGHBOUR: 'it returns false'. Refute it at one input. -/
def fnExactBookMoveWrong : ChangeSpec := { name := "fnExactBookMove", fn := fun _ => fun
  | [d1, d2, d3, d4, d5, d6] => { results := [.lit (.bool false)], args := [d1, d2, d3, d4, d5, d6] }
  | _ => none }
def FnExactBookMoveWrongFalsely : Prop := fnExactBookMoveRow.holds Tryz.pinned (OpenSpec.ofChange fnExactBookMoveWrong)

/- THE SECOND FORM. 'bulk': how many values and letters a reading holds, each counted each time it is reached (what is shared counts as often as it is met; a slice's spare places count too). A statement '..UptoSaid' is the law's where the arguments, and the package variables that the reading takes, are together of bulk at most 1048576: NARROWER than '..Said'. Prove '..Said' where nothing that the law and all that it calls make is longer than what came in: it says more and counts as full. Else prove '..UptoSaid'. A law counts once. -/
mutual
def uptoBulk {H : Type} : DataW H → Nat
  | .lit (.string bytes) => bytes.length + 1
  | .lit _ => 1
  | .nil => 1
  | .ptr d => uptoBulk d + 1
  | .slice elems spare => uptoBulkAll elems + uptoBulkAll spare + 1
  | .agg parts => uptoBulkAll parts + 1
  | .iface _ d => uptoBulk d + 1
  | .map entries => uptoBulkEntries entries + 1
  | .held _ => 1
def uptoBulkAll {H : Type} : List (DataW H) → Nat
  | [] => 0
  | d :: r => uptoBulk d + uptoBulkAll r
def uptoBulkEntries {H : Type} : List (Lit × DataW H) → Nat
  | [] => 0
  | x :: r => uptoBulkEntry x + uptoBulkEntries r
def uptoBulkEntry {H : Type} : Lit × DataW H → Nat
  | (.string bytes, d) => bytes.length + uptoBulk d + 1
  | (_, d) => uptoBulk d + 1
 end
def uptoSmall : (H : Type) → List (DataW H) → Bool := fun _ ds => decide (uptoBulkAll ds ≤ 1048576)
def OpenSpec.upto (s : _root_.Go.ChangeSpec) : _root_.Go.OpenSpec := { _root_.Go.OpenSpec.ofChange s with cond := some uptoSmall }

/-- 'laws.FnExactBookCancel', WHERE WHAT IT READS IS OF BULK AT MOST 1048576: true; the input reads as it did. -/
def fnExactBookCancelUptoRow : OpenClaim := { program := "ytmfgajbkcnlkcaagreat", sum := "5f735415b9e9938529135b2e2b895bed01d865e850e636db79c6156388a7d2c8", func := "loop.example/g00110/laws.FnExactBookCancel", spec := "fnExactBookCancel", unfollowed := true, recurses := true, apart := false, narrowed := true }
def FnExactBookCancelUptoSaid : Prop := fnExactBookCancelUptoRow.holds Tryz.pinned (OpenSpec.upto fnExactBookCancelSpec)

/-- 'laws.FnExactBookAccount', WHERE WHAT IT READS IS OF BULK AT MOST 1048576: true; the input reads as it did. -/
def fnExactBookAccountUptoRow : OpenClaim := { program := "ytmfgajbkcnlkcaagreat", sum := "5f735415b9e9938529135b2e2b895bed01d865e850e636db79c6156388a7d2c8", func := "loop.example/g00110/laws.FnExactBookAccount", spec := "fnExactBookAccount", inPlace := ["slices.overlaps[loop.example/g00110/impl.Account]"], unfollowed := true, recurses := true, apart := false, narrowed := true }
def FnExactBookAccountUptoSaid : Prop := fnExactBookAccountUptoRow.holds Tryz.pinned (OpenSpec.upto fnExactBookAccountSpec)

/-- 'laws.FnExactBookInstr', WHERE WHAT IT READS IS OF BULK AT MOST 1048576: true; the input reads as it did. -/
def fnExactBookInstrUptoRow : OpenClaim := { program := "ytmfgajbkcnlkcaagreat", sum := "5f735415b9e9938529135b2e2b895bed01d865e850e636db79c6156388a7d2c8", func := "loop.example/g00110/laws.FnExactBookInstr", spec := "fnExactBookInstr", inPlace := ["slices.overlaps[loop.example/g00110/impl.Instr]"], unfollowed := true, recurses := true, apart := false, narrowed := true }
def FnExactBookInstrUptoSaid : Prop := fnExactBookInstrUptoRow.holds Tryz.pinned (OpenSpec.upto fnExactBookInstrSpec)

/-- 'laws.FnExactBookIssue', WHERE WHAT IT READS IS OF BULK AT MOST 1048576: true; the input reads as it did. -/
def fnExactBookIssueUptoRow : OpenClaim := { program := "ytmfgajbkcnlkcaagreat", sum := "5f735415b9e9938529135b2e2b895bed01d865e850e636db79c6156388a7d2c8", func := "loop.example/g00110/laws.FnExactBookIssue", spec := "fnExactBookIssue", inPlace := ["slices.overlaps[loop.example/g00110/impl.Bal]", "slices.overlaps[loop.example/g00110/impl.Lot]"], unfollowed := true, recurses := true, apart := false, narrowed := true }
def FnExactBookIssueUptoSaid : Prop := fnExactBookIssueUptoRow.holds Tryz.pinned (OpenSpec.upto fnExactBookIssueSpec)

/-- 'laws.FnExactBookMove', WHERE WHAT IT READS IS OF BULK AT MOST 1048576: true; the input reads as it did. -/
def fnExactBookMoveUptoRow : OpenClaim := { program := "ytmfgajbkcnlkcaagreat", sum := "5f735415b9e9938529135b2e2b895bed01d865e850e636db79c6156388a7d2c8", func := "loop.example/g00110/laws.FnExactBookMove", spec := "fnExactBookMove", inPlace := ["slices.overlaps[loop.example/g00110/impl.Bal]", "slices.overlaps[loop.example/g00110/impl.Lot]"], unfollowed := true, recurses := true, named := ["math/bits.divideError", "math/bits.overflowError"], apart := false, narrowed := true }
def FnExactBookMoveUptoSaid : Prop := fnExactBookMoveUptoRow.holds Tryz.pinned (OpenSpec.upto fnExactBookMoveSpec)

end Rows
end Go.Proofs.YtmfgajbkcnlkcaaGreat
