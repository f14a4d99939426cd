/-
  No cell of these rows narrows 'for every input' (looked for: loops, veiled, ifaces, maps, wideKeys, modest, calm, conditions, laid).
  DERIVED. THE GIVEN ROWS OF THIS SEAT. 5 by the template 'for every input the law returns true; each argument reads behind the call as it read before'; 0 by the template 'total and deterministic' (their statements: YtmfgajbkcnlkcaaTotals.lean).
  GIVEN WITH THE SEED: the statements are not yours to turn. If you find one false, say at which input.
  Laid BY PROGRAM, IN A SANDBOX (cutbox-rows.mjs): the forced cells as the released guide's own fill.sh prints them over the translation 5efdb65fdf9ef776… (all of the seat's roots in one cut). By AI agents, Wed Nov 11 2026. No macro, syntax, notation, axiom, sorry.
-/
import Derived.Test.YtmfgajbkcnlkcaaChecked
import GoSem.Claim
import GoSem.ClaimJoined
import GoSem.ClaimMapViews
import Derived.JoinedTies
import Derived.KernelRfl
namespace Go.Proofs.Ytmfgajbkcnlkcaa
/- THE CELL 'sum', in the pinned program and in every row, IS THE sha256 OF THE DUMP (.gsa) THAT YtmfgajbkcnlkcaaProg.lean LOADS. Nothing in Lean hashes anything: it is a label: what it is worth is what the hold of that sum in a sandbox is worth. -/
noncomputable def Try.pinned : Pinned := { name := "ytmfgajbkcnlkcaa", sum := "5efdb65fdf9ef77605f77376628b6d0b6e2375ce7e49d46b3c6f5366ba698967", checked := Try.checked }
namespace Rows
def none {H : Type} : Left H := { results := [], args := [] }

/-- 'laws.FnExactTradesOk': WHATEVER THE INPUT: true; the input reads as it did. -/
def fnExactTradesOkSpec : ChangeSpec := { name := "fnExactTradesOk", fn := fun _ => fun
  | [d] => { results := [.lit (.bool true)], args := [d] }
  | _ => none }
def fnExactTradesOkRow : OpenClaim := { program := "ytmfgajbkcnlkcaa", sum := "5efdb65fdf9ef77605f77376628b6d0b6e2375ce7e49d46b3c6f5366ba698967", func := "loop.example/g00110/laws.FnExactTradesOk", spec := "fnExactTradesOk", apart := false }
def FnExactTradesOkSaid : Prop := fnExactTradesOkRow.holds Try.pinned (OpenSpec.ofChange fnExactTradesOkSpec)

/-- ITS FALSE NEIGHBOUR: 'it returns false'. Refute it at one input. -/
def fnExactTradesOkWrong : ChangeSpec := { name := "fnExactTradesOk", fn := fun _ => fun
  | [d] => { results := [.lit (.bool false)], args := [d] }
  | _ => none }
def FnExactTradesOkWrongFalsely : Prop := fnExactTradesOkRow.holds Try.pinned (OpenSpec.ofChange fnExactTradesOkWrong)

/-- 'laws.FnExactBooksNew': WHATEVER THE INPUT: true; the input reads as it did. -/
def fnExactBooksNewSpec : ChangeSpec := { name := "fnExactBooksNew", fn := fun _ => fun
  | [] => { results := [.lit (.bool true)], args := [] }
  | _ => none }
def fnExactBooksNewRow : OpenClaim := { program := "ytmfgajbkcnlkcaa", sum := "5efdb65fdf9ef77605f77376628b6d0b6e2375ce7e49d46b3c6f5366ba698967", func := "loop.example/g00110/laws.FnExactBooksNew", spec := "fnExactBooksNew", apart := false }
def FnExactBooksNewSaid : Prop := fnExactBooksNewRow.holds Try.pinned (OpenSpec.ofChange fnExactBooksNewSpec)

/-- ITS FALSE NEIGHBOUR: 'it returns false'. Refute it at one input. -/
def fnExactBooksNewWrong : ChangeSpec := { name := "fnExactBooksNew", fn := fun _ => fun
  | [] => { results := [.lit (.bool false)], args := [] }
  | _ => none }
def FnExactBooksNewWrongFalsely : Prop := fnExactBooksNewRow.holds Try.pinned (OpenSpec.ofChange fnExactBooksNewWrong)

/-- 'laws.FnExactBooksOk': WHATEVER THE INPUT: true; the input reads as it did. -/
def fnExactBooksOkSpec : ChangeSpec := { name := "fnExactBooksOk", fn := fun _ => fun
  | [d] => { results := [.lit (.bool true)], args := [d] }
  | _ => none }
def fnExactBooksOkRow : OpenClaim := { program := "ytmfgajbkcnlkcaa", sum := "5efdb65fdf9ef77605f77376628b6d0b6e2375ce7e49d46b3c6f5366ba698967", func := "loop.example/g00110/laws.FnExactBooksOk", spec := "fnExactBooksOk", unfollowed := true, recurses := true, apart := false }
def FnExactBooksOkSaid : Prop := fnExactBooksOkRow.holds Try.pinned (OpenSpec.ofChange fnExactBooksOkSpec)

/-- ITS FALSE NEIGHBOUR: 'it returns false'. Refute it at one input. -/
def fnExactBooksOkWrong : ChangeSpec := { name := "fnExactBooksOk", fn := fun _ => fun
  | [d] => { results := [.lit (.bool false)], args := [d] }
  | _ => none }
def FnExactBooksOkWrongFalsely : Prop := fnExactBooksOkRow.holds Try.pinned (OpenSpec.ofChange fnExactBooksOkWrong)

/-- 'laws.FnExactTradeOf': WHATEVER THE INPUT: true; the input reads as it did. -/
def fnExactTradeOfSpec : ChangeSpec := { name := "fnExactTradeOf", fn := fun _ => fun
  | [d1, d2] => { results := [.lit (.bool true)], args := [d1, d2] }
  | _ => none }
def fnExactTradeOfRow : OpenClaim := { program := "ytmfgajbkcnlkcaa", sum := "5efdb65fdf9ef77605f77376628b6d0b6e2375ce7e49d46b3c6f5366ba698967", func := "loop.example/g00110/laws.FnExactTradeOf", spec := "fnExactTradeOf", unfollowed := true, recurses := true, apart := false }
def FnExactTradeOfSaid : Prop := fnExactTradeOfRow.holds Try.pinned (OpenSpec.ofChange fnExactTradeOfSpec)

/-- ITS FALSE NEIGHBOUR: 'it returns false'. Refute it at one input. -/
def fnExactTradeOfWrong : ChangeSpec := { name := "fnExactTradeOf", fn := fun _ => fun
  | [d1, d2] => { results := [.lit (.bool false)], args := [d1, d2] }
  | _ => none }
def FnExactTradeOfWrongFalsely : Prop := fnExactTradeOfRow.holds Try.pinned (OpenSpec.ofChange fnExactTradeOfWrong)

/-- 'laws.FnExactTradesOpen': WHATEVER THE INPUT: true; the input reads as it did. -/
def fnExactTradesOpenSpec : ChangeSpec := { name := "fnExactTradesOpen", fn := fun _ => fun
  | [d1, d2, d3] => { results := [.lit (.bool true)], args := [d1, d2, d3] }
  | _ => none }
def fnExactTradesOpenRow : OpenClaim := { program := "ytmfgajbkcnlkcaa", sum := "5efdb65fdf9ef77605f77376628b6d0b6e2375ce7e49d46b3c6f5366ba698967", func := "loop.example/g00110/laws.FnExactTradesOpen", spec := "fnExactTradesOpen", unfollowed := true, recurses := true, apart := false }
def FnExactTradesOpenSaid : Prop := fnExactTradesOpenRow.holds Try.pinned (OpenSpec.ofChange fnExactTradesOpenSpec)

/-- ITS FALSE NEIGHBOUR: 'it returns false'. Refute it at one input. -/
def fnExactTradesOpenWrong : ChangeSpec := { name := "fnExactTradesOpen", fn := fun _ => fun
  | [d1, d2, d3] => { results := [.lit (.bool false)], args := [d1, d2, d3] }
  | _ => none }
def FnExactTradesOpenWrongFalsely : Prop := fnExactTradesOpenRow.holds Try.pinned (OpenSpec.ofChange fnExactTradesOpenWrong)

/- THE SECOND FORM. 'bulk': how many values and letters a reading holds, each counted each time it is reached (what is shared counts as often as it is met; a slice's spare places count too). A statement '..UptoSaid' is the law's where the arguments, and the package variables that the reading takes, are together of bulk at most 1048576: NARROWER than '..Said'. Prove '..Said' where nothing that the law and all that it calls make is longer than what came in: it says more and counts as full. Else prove '..UptoSaid'. A law counts once. -/
mutual
def uptoBulk {H : Type} : DataW H → Nat
  | .lit (.string bytes) => bytes.length + 1
  | .lit _ => 1
  | .nil => 1
  | .ptr d => uptoBulk d + 1
  | .slice elems spare => uptoBulkAll elems + uptoBulkAll spare + 1
  | .agg parts => uptoBulkAll parts + 1
  | .iface _ d => uptoBulk d + 1
  | .map entries => uptoBulkEntries entries + 1
  | .held _ => 1
def uptoBulkAll {H : Type} : List (DataW H) → Nat
  | [] => 0
  | d :: r => uptoBulk d + uptoBulkAll r
def uptoBulkEntries {H : Type} : List (Lit × DataW H) → Nat
  | [] => 0
  | x :: r => uptoBulkEntry x + uptoBulkEntries r
def uptoBulkEntry {H : Type} : Lit × DataW H → Nat
  | (.string bytes, d) => bytes.length + uptoBulk d + 1
  | (_, d) => uptoBulk d + 1
 end
def uptoSmall : (H : Type) → List (DataW H) → Bool := fun _ ds => decide (uptoBulkAll ds ≤ 1048576)
def OpenSpec.upto (s : _root_.Go.ChangeSpec) : _root_.Go.OpenSpec := { _root_.Go.OpenSpec.ofChange s with cond := some uptoSmall }

/-- 'laws.FnExactTradesOk', WHERE WHAT IT READS IS OF BULK AT MOST 1048576: true; the input reads as it did. -/
def fnExactTradesOkUptoRow : OpenClaim := { program := "ytmfgajbkcnlkcaa", sum := "5efdb65fdf9ef77605f77376628b6d0b6e2375ce7e49d46b3c6f5366ba698967", func := "loop.example/g00110/laws.FnExactTradesOk", spec := "fnExactTradesOk", apart := false, narrowed := true }
def FnExactTradesOkUptoSaid : Prop := fnExactTradesOkUptoRow.holds Try.pinned (OpenSpec.upto fnExactTradesOkSpec)

/-- 'laws.FnExactBooksNew', WHERE WHAT IT READS IS OF BULK AT MOST 1048576: true; the input reads as it did. -/
def fnExactBooksNewUptoRow : OpenClaim := { program := "ytmfgajbkcnlkcaa", sum := "5efdb65fdf9ef77605f77376628b6d0b6e2375ce7e49d46b3c6f5366ba698967", func := "loop.example/g00110/laws.FnExactBooksNew", spec := "fnExactBooksNew", apart := false, narrowed := true }
def FnExactBooksNewUptoSaid : Prop := fnExactBooksNewUptoRow.holds Try.pinned (OpenSpec.upto fnExactBooksNewSpec)

/-- 'laws.FnExactBooksOk', WHERE WHAT IT READS IS OF BULK AT MOST 1048576: true; the input reads as it did. -/
def fnExactBooksOkUptoRow : OpenClaim := { program := "ytmfgajbkcnlkcaa", sum := "5efdb65fdf9ef77605f77376628b6d0b6e2375ce7e49d46b3c6f5366ba698967", func := "loop.example/g00110/laws.FnExactBooksOk", spec := "fnExactBooksOk", unfollowed := true, recurses := true, apart := false, narrowed := true }
def FnExactBooksOkUptoSaid : Prop := fnExactBooksOkUptoRow.holds Try.pinned (OpenSpec.upto fnExactBooksOkSpec)

/-- 'laws.FnExactTradeOf', WHERE WHAT IT READS IS OF BULK AT MOST 1048576: true; the input reads as it did. -/
def fnExactTradeOfUptoRow : OpenClaim := { program := "ytmfgajbkcnlkcaa", sum := "5efdb65fdf9ef77605f77376628b6d0b6e2375ce7e49d46b3c6f5366ba698967", func := "loop.example/g00110/laws.FnExactTradeOf", spec := "fnExactTradeOf", unfollowed := true, recurses := true, apart := false, narrowed := true }
def FnExactTradeOfUptoSaid : Prop := fnExactTradeOfUptoRow.holds Try.pinned (OpenSpec.upto fnExactTradeOfSpec)

/-- 'laws.FnExactTradesOpen', WHERE WHAT IT READS IS OF BULK AT MOST 1048576: true; the input reads as it did. -/
def fnExactTradesOpenUptoRow : OpenClaim := { program := "ytmfgajbkcnlkcaa", sum := "5efdb65fdf9ef77605f77376628b6d0b6e2375ce7e49d46b3c6f5366ba698967", func := "loop.example/g00110/laws.FnExactTradesOpen", spec := "fnExactTradesOpen", unfollowed := true, recurses := true, apart := false, narrowed := true }
def FnExactTradesOpenUptoSaid : Prop := fnExactTradesOpenUptoRow.holds Try.pinned (OpenSpec.upto fnExactTradesOpenSpec)

end Rows
end Go.Proofs.Ytmfgajbkcnlkcaa
