/-
  No cell of these rows narrows 'for every input' (looked for: loops, veiled, ifaces, maps, wideKeys, modest, calm, conditions, laid).
  DERIVED. THE GIVEN ROWS OF THIS SEAT. 5 by the template 'for every input the law returns true; each argument reads behind the call as it read before'; 0 by the template 'total and deterministic' (their statements: YtbkclmpopofebaaTotals.lean).
  GIVEN WITH THE SEED: the statements are not yours to turn. If you find one false, say at which input.
  Laid BY PROGRAM, IN A SANDBOX (cutbox-rows.mjs): the forced cells as the released guide's own fill.sh prints them over the translation 7ac5d2bf18f0da2d… (all of the seat's roots in one cut). By AI agents, Wed Nov 11 2026. No macro, syntax, notation, axiom, sorry.
-/
import Derived.Test.YtbkclmpopofebaaChecked
import GoSem.Claim
import GoSem.ClaimJoined
import GoSem.ClaimMapViews
import Derived.JoinedTies
import Derived.KernelRfl
namespace Go.Proofs.Ytbkclmpopofebaa
/- THE CELL 'sum', in the pinned program and in every row, IS THE sha256 OF THE DUMP (.gsa) THAT YtbkclmpopofebaaProg.lean LOADS. Nothing in Lean hashes anything: it is a label: what it is worth is what the hold of that sum in a sandbox is worth. -/
noncomputable def Try.pinned : Pinned := { name := "ytbkclmpopofebaa", sum := "7ac5d2bf18f0da2dba151c6085a20d3be6181ddb11a712ddc6258f23f1237dbc", checked := Try.checked }
namespace Rows
def none {H : Type} : Left H := { results := [], args := [] }

/-- 'valiselaw12.PermsSafe': WHATEVER THE INPUT: true; the input reads as it did. -/
def permsSafeSpec : ChangeSpec := { name := "permsSafe", fn := fun _ => fun
  | [d1, d2, d3] => { results := [.lit (.bool true)], args := [d1, d2, d3] }
  | _ => none }
def permsSafeRow : OpenClaim := { program := "ytbkclmpopofebaa", sum := "7ac5d2bf18f0da2dba151c6085a20d3be6181ddb11a712ddc6258f23f1237dbc", func := "valise/valiselaw12.PermsSafe", spec := "permsSafe", apart := false }
def PermsSafeSaid : Prop := permsSafeRow.holds Try.pinned (OpenSpec.ofChange permsSafeSpec)

/-- ITS FALSE NEIGHBOUR: 'it returns false'. Refute it at one input. -/
def permsSafeWrong : ChangeSpec := { name := "permsSafe", fn := fun _ => fun
  | [d1, d2, d3] => { results := [.lit (.bool false)], args := [d1, d2, d3] }
  | _ => none }
def PermsSafeWrongFalsely : Prop := permsSafeRow.holds Try.pinned (OpenSpec.ofChange permsSafeWrong)

/-- 'valiselaw12.PermsSettles': WHATEVER THE INPUT: true; the input reads as it did. -/
def permsSettlesSpec : ChangeSpec := { name := "permsSettles", fn := fun _ => fun
  | [d1, d2, d3] => { results := [.lit (.bool true)], args := [d1, d2, d3] }
  | _ => none }
def permsSettlesRow : OpenClaim := { program := "ytbkclmpopofebaa", sum := "7ac5d2bf18f0da2dba151c6085a20d3be6181ddb11a712ddc6258f23f1237dbc", func := "valise/valiselaw12.PermsSettles", spec := "permsSettles", apart := false }
def PermsSettlesSaid : Prop := permsSettlesRow.holds Try.pinned (OpenSpec.ofChange permsSettlesSpec)

/-- ITS FALSE NEIGHBOUR: 'it returns false'. Refute it at one input. -/
def permsSettlesWrong : ChangeSpec := { name := "permsSettles", fn := fun _ => fun
  | [d1, d2, d3] => { results := [.lit (.bool false)], args := [d1, d2, d3] }
  | _ => none }
def PermsSettlesWrongFalsely : Prop := permsSettlesRow.holds Try.pinned (OpenSpec.ofChange permsSettlesWrong)

/-- 'valiselaw12.PermsTexts': WHATEVER THE INPUT: true; the input reads as it did. -/
def permsTextsSpec : ChangeSpec := { name := "permsTexts", fn := fun _ => fun
  | [d1, d2] => { results := [.lit (.bool true)], args := [d1, d2] }
  | _ => none }
def permsTextsRow : OpenClaim := { program := "ytbkclmpopofebaa", sum := "7ac5d2bf18f0da2dba151c6085a20d3be6181ddb11a712ddc6258f23f1237dbc", func := "valise/valiselaw12.PermsTexts", spec := "permsTexts", apart := false }
def PermsTextsSaid : Prop := permsTextsRow.holds Try.pinned (OpenSpec.ofChange permsTextsSpec)

/-- ITS FALSE NEIGHBOUR: 'it returns false'. Refute it at one input. -/
def permsTextsWrong : ChangeSpec := { name := "permsTexts", fn := fun _ => fun
  | [d1, d2] => { results := [.lit (.bool false)], args := [d1, d2] }
  | _ => none }
def PermsTextsWrongFalsely : Prop := permsTextsRow.holds Try.pinned (OpenSpec.ofChange permsTextsWrong)

/-- 'valiselaw12.PermsParses': WHATEVER THE INPUT: true; the input reads as it did. -/
def permsParsesSpec : ChangeSpec := { name := "permsParses", fn := fun _ => fun
  | [d] => { results := [.lit (.bool true)], args := [d] }
  | _ => none }
def permsParsesRow : OpenClaim := { program := "ytbkclmpopofebaa", sum := "7ac5d2bf18f0da2dba151c6085a20d3be6181ddb11a712ddc6258f23f1237dbc", func := "valise/valiselaw12.PermsParses", spec := "permsParses", inPlace := ["internal/bytealg.IndexByteString"], apart := false }
def PermsParsesSaid : Prop := permsParsesRow.holds Try.pinned (OpenSpec.ofChange permsParsesSpec)

/-- ITS FALSE NEIGHBOUR: 'it returns false'. Refute it at one input. -/
def permsParsesWrong : ChangeSpec := { name := "permsParses", fn := fun _ => fun
  | [d] => { results := [.lit (.bool false)], args := [d] }
  | _ => none }
def PermsParsesWrongFalsely : Prop := permsParsesRow.holds Try.pinned (OpenSpec.ofChange permsParsesWrong)

/-- 'valiselaw12.PermsRound': WHATEVER THE INPUT: true; the input reads as it did. -/
def permsRoundSpec : ChangeSpec := { name := "permsRound", fn := fun _ => fun
  | [d1, d2, d3] => { results := [.lit (.bool true)], args := [d1, d2, d3] }
  | _ => none }
def permsRoundRow : OpenClaim := { program := "ytbkclmpopofebaa", sum := "7ac5d2bf18f0da2dba151c6085a20d3be6181ddb11a712ddc6258f23f1237dbc", func := "valise/valiselaw12.PermsRound", spec := "permsRound", inPlace := ["internal/bytealg.IndexByteString"], apart := false }
def PermsRoundSaid : Prop := permsRoundRow.holds Try.pinned (OpenSpec.ofChange permsRoundSpec)

/-- ITS FALSE NEIGHBOUR: 'it returns false'. Refute it at one input. -/
def permsRoundWrong : ChangeSpec := { name := "permsRound", fn := fun _ => fun
  | [d1, d2, d3] => { results := [.lit (.bool false)], args := [d1, d2, d3] }
  | _ => none }
def PermsRoundWrongFalsely : Prop := permsRoundRow.holds Try.pinned (OpenSpec.ofChange permsRoundWrong)

/- THE SECOND FORM. 'bulk': how many values and letters a reading holds, each counted each time it is reached (what is shared counts as often as it is met; a slice's spare places count too). A statement '..UptoSaid' is the law's where the arguments, and the package variables that the reading takes, are together of bulk at most 1048576: NARROWER than '..Said'. Prove '..Said' where nothing that the law and all that it calls make is longer than what came in: it says more and counts as full. Else prove '..UptoSaid'. A law counts once. -/
mutual
def uptoBulk {H : Type} : DataW H → Nat
  | .lit (.string bytes) => bytes.length + 1
  | .lit _ => 1
  | .nil => 1
  | .ptr d => uptoBulk d + 1
  | .slice elems spare => uptoBulkAll elems + uptoBulkAll spare + 1
  | .agg parts => uptoBulkAll parts + 1
  | .iface _ d => uptoBulk d + 1
  | .map entries => uptoBulkEntries entries + 1
  | .held _ => 1
def uptoBulkAll {H : Type} : List (DataW H) → Nat
  | [] => 0
  | d :: r => uptoBulk d + uptoBulkAll r
def uptoBulkEntries {H : Type} : List (Lit × DataW H) → Nat
  | [] => 0
  | x :: r => uptoBulkEntry x + uptoBulkEntries r
def uptoBulkEntry {H : Type} : Lit × DataW H → Nat
  | (.string bytes, d) => bytes.length + uptoBulk d + 1
  | (_, d) => uptoBulk d + 1
 end
def uptoSmall : (H : Type) → List (DataW H) → Bool := fun _ ds => decide (uptoBulkAll ds ≤ 1048576)
def OpenSpec.upto (s : _root_.Go.ChangeSpec) : _root_.Go.OpenSpec := { _root_.Go.OpenSpec.ofChange s with cond := some uptoSmall }

/-- 'valiselaw12.PermsSafe', WHERE WHAT IT READS IS OF BULK AT MOST 1048576: true; the input reads as it did. -/
def permsSafeUptoRow : OpenClaim := { program := "ytbkclmpopofebaa", sum := "7ac5d2bf18f0da2dba151c6085a20d3be6181ddb11a712ddc6258f23f1237dbc", func := "valise/valiselaw12.PermsSafe", spec := "permsSafe", apart := false, narrowed := true }
def PermsSafeUptoSaid : Prop := permsSafeUptoRow.holds Try.pinned (OpenSpec.upto permsSafeSpec)

/-- 'valiselaw12.PermsSettles', WHERE WHAT IT READS IS OF BULK AT MOST 1048576: true; the input reads as it did. -/
def permsSettlesUptoRow : OpenClaim := { program := "ytbkclmpopofebaa", sum := "7ac5d2bf18f0da2dba151c6085a20d3be6181ddb11a712ddc6258f23f1237dbc", func := "valise/valiselaw12.PermsSettles", spec := "permsSettles", apart := false, narrowed := true }
def PermsSettlesUptoSaid : Prop := permsSettlesUptoRow.holds Try.pinned (OpenSpec.upto permsSettlesSpec)

/-- 'valiselaw12.PermsTexts', WHERE WHAT IT READS IS OF BULK AT MOST 1048576: true; the input reads as it did. -/
def permsTextsUptoRow : OpenClaim := { program := "ytbkclmpopofebaa", sum := "7ac5d2bf18f0da2dba151c6085a20d3be6181ddb11a712ddc6258f23f1237dbc", func := "valise/valiselaw12.PermsTexts", spec := "permsTexts", apart := false, narrowed := true }
def PermsTextsUptoSaid : Prop := permsTextsUptoRow.holds Try.pinned (OpenSpec.upto permsTextsSpec)

/-- 'valiselaw12.PermsParses', WHERE WHAT IT READS IS OF BULK AT MOST 1048576: true; the input reads as it did. -/
def permsParsesUptoRow : OpenClaim := { program := "ytbkclmpopofebaa", sum := "7ac5d2bf18f0da2dba151c6085a20d3be6181ddb11a712ddc6258f23f1237dbc", func := "valise/valiselaw12.PermsParses", spec := "permsParses", inPlace := ["internal/bytealg.IndexByteString"], apart := false, narrowed := true }
def PermsParsesUptoSaid : Prop := permsParsesUptoRow.holds Try.pinned (OpenSpec.upto permsParsesSpec)

/-- 'valiselaw12.PermsRound', WHERE WHAT IT READS IS OF BULK AT MOST 1048576: true; the input reads as it did. -/
def permsRoundUptoRow : OpenClaim := { program := "ytbkclmpopofebaa", sum := "7ac5d2bf18f0da2dba151c6085a20d3be6181ddb11a712ddc6258f23f1237dbc", func := "valise/valiselaw12.PermsRound", spec := "permsRound", inPlace := ["internal/bytealg.IndexByteString"], apart := false, narrowed := true }
def PermsRoundUptoSaid : Prop := permsRoundUptoRow.holds Try.pinned (OpenSpec.upto permsRoundSpec)

end Rows
end Go.Proofs.Ytbkclmpopofebaa
