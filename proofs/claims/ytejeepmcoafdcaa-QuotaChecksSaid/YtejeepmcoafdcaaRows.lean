/-
  No cell of these rows narrows 'for every input' (looked for: loops, veiled, ifaces, maps, wideKeys, modest, calm, conditions, laid).
  DERIVED. THE GIVEN ROWS OF THIS SEAT. 5 by the template 'for every input the law returns true; each argument reads behind the call as it read before'; 0 by the template 'total and deterministic' (their statements: YtejeepmcoafdcaaTotals.lean).
  GIVEN WITH THE SEED: the statements are not yours to turn. If you find one false, say at which input.
  Laid BY PROGRAM, IN A SANDBOX (cutbox-rows.mjs): the forced cells as the released guide's own fill.sh prints them over the translation 740b434630ee891c… (all of the seat's roots in one cut). By AI agents, Wed Nov 11 2026. No macro, syntax, notation, axiom, sorry.
-/
import Derived.Test.YtejeepmcoafdcaaChecked
import GoSem.Claim
import GoSem.ClaimJoined
import GoSem.ClaimMapViews
import Derived.JoinedTies
import Derived.KernelRfl
namespace Go.Proofs.Ytejeepmcoafdcaa
/- THE CELL 'sum', in the pinned program and in every row, IS THE sha256 OF THE DUMP (.gsa) THAT YtejeepmcoafdcaaProg.lean LOADS. Nothing in Lean hashes anything: it is a label: what it is worth is what the hold of that sum in a sandbox is worth. -/
noncomputable def Try.pinned : Pinned := { name := "ytejeepmcoafdcaa", sum := "740b434630ee891c0f98f6ee896ccabc0abc1eadb4b4a64eeb462606edfa5600", checked := Try.checked }
namespace Rows
def none {H : Type} : Left H := { results := [], args := [] }

/-- 'valiselaw20.QuotaCounts': WHATEVER THE INPUT: true; the input reads as it did. -/
def quotaCountsSpec : ChangeSpec := { name := "quotaCounts", fn := fun _ => fun
  | [d1, d2] => { results := [.lit (.bool true)], args := [d1, d2] }
  | _ => none }
def quotaCountsRow : OpenClaim := { program := "ytejeepmcoafdcaa", sum := "740b434630ee891c0f98f6ee896ccabc0abc1eadb4b4a64eeb462606edfa5600", func := "valise/valiselaw20.QuotaCounts", spec := "quotaCounts", apart := false }
def QuotaCountsSaid : Prop := quotaCountsRow.holds Try.pinned (OpenSpec.ofChange quotaCountsSpec)

/-- ITS FALSE NEIGHBOUR: 'it returns false'. Refute it at one input. -/
def quotaCountsWrong : ChangeSpec := { name := "quotaCounts", fn := fun _ => fun
  | [d1, d2] => { results := [.lit (.bool false)], args := [d1, d2] }
  | _ => none }
def QuotaCountsWrongFalsely : Prop := quotaCountsRow.holds Try.pinned (OpenSpec.ofChange quotaCountsWrong)

/-- 'valiselaw20.QuotaBatches': WHATEVER THE INPUT: true; the input reads as it did. -/
def quotaBatchesSpec : ChangeSpec := { name := "quotaBatches", fn := fun _ => fun
  | [d1, d2] => { results := [.lit (.bool true)], args := [d1, d2] }
  | _ => none }
def quotaBatchesRow : OpenClaim := { program := "ytejeepmcoafdcaa", sum := "740b434630ee891c0f98f6ee896ccabc0abc1eadb4b4a64eeb462606edfa5600", func := "valise/valiselaw20.QuotaBatches", spec := "quotaBatches", unfollowed := true, recurses := true, apart := false }
def QuotaBatchesSaid : Prop := quotaBatchesRow.holds Try.pinned (OpenSpec.ofChange quotaBatchesSpec)

/-- ITS FALSE NEIGHBOUR: 'it returns false'. Refute it at one input. -/
def quotaBatchesWrong : ChangeSpec := { name := "quotaBatches", fn := fun _ => fun
  | [d1, d2] => { results := [.lit (.bool false)], args := [d1, d2] }
  | _ => none }
def QuotaBatchesWrongFalsely : Prop := quotaBatchesRow.holds Try.pinned (OpenSpec.ofChange quotaBatchesWrong)

/-- 'valiselaw20.QuotaBounds': WHATEVER THE INPUT: true; the input reads as it did. -/
def quotaBoundsSpec : ChangeSpec := { name := "quotaBounds", fn := fun _ => fun
  | [d1, d2] => { results := [.lit (.bool true)], args := [d1, d2] }
  | _ => none }
def quotaBoundsRow : OpenClaim := { program := "ytejeepmcoafdcaa", sum := "740b434630ee891c0f98f6ee896ccabc0abc1eadb4b4a64eeb462606edfa5600", func := "valise/valiselaw20.QuotaBounds", spec := "quotaBounds", unfollowed := true, recurses := true, apart := false }
def QuotaBoundsSaid : Prop := quotaBoundsRow.holds Try.pinned (OpenSpec.ofChange quotaBoundsSpec)

/-- ITS FALSE NEIGHBOUR: 'it returns false'. Refute it at one input. -/
def quotaBoundsWrong : ChangeSpec := { name := "quotaBounds", fn := fun _ => fun
  | [d1, d2] => { results := [.lit (.bool false)], args := [d1, d2] }
  | _ => none }
def QuotaBoundsWrongFalsely : Prop := quotaBoundsRow.holds Try.pinned (OpenSpec.ofChange quotaBoundsWrong)

/-- 'valiselaw20.QuotaOnward': WHATEVER THE INPUT: true; the input reads as it did. -/
def quotaOnwardSpec : ChangeSpec := { name := "quotaOnward", fn := fun _ => fun
  | [d1, d2, d3] => { results := [.lit (.bool true)], args := [d1, d2, d3] }
  | _ => none }
def quotaOnwardRow : OpenClaim := { program := "ytejeepmcoafdcaa", sum := "740b434630ee891c0f98f6ee896ccabc0abc1eadb4b4a64eeb462606edfa5600", func := "valise/valiselaw20.QuotaOnward", spec := "quotaOnward", unfollowed := true, recurses := true, apart := false }
def QuotaOnwardSaid : Prop := quotaOnwardRow.holds Try.pinned (OpenSpec.ofChange quotaOnwardSpec)

/-- ITS FALSE NEIGHBOUR: 'it returns false'. Refute it at one input. -/
def quotaOnwardWrong : ChangeSpec := { name := "quotaOnward", fn := fun _ => fun
  | [d1, d2, d3] => { results := [.lit (.bool false)], args := [d1, d2, d3] }
  | _ => none }
def QuotaOnwardWrongFalsely : Prop := quotaOnwardRow.holds Try.pinned (OpenSpec.ofChange quotaOnwardWrong)

/-- 'valiselaw20.QuotaChecks': WHATEVER THE INPUT: true; the input reads as it did. -/
def quotaChecksSpec : ChangeSpec := { name := "quotaChecks", fn := fun _ => fun
  | [d] => { results := [.lit (.bool true)], args := [d] }
  | _ => none }
def quotaChecksRow : OpenClaim := { program := "ytejeepmcoafdcaa", sum := "740b434630ee891c0f98f6ee896ccabc0abc1eadb4b4a64eeb462606edfa5600", func := "valise/valiselaw20.QuotaChecks", spec := "quotaChecks", apart := false }
def QuotaChecksSaid : Prop := quotaChecksRow.holds Try.pinned (OpenSpec.ofChange quotaChecksSpec)

/-- ITS FALSE NEIGHBOUR: 'it returns false'. Refute it at one input. -/
def quotaChecksWrong : ChangeSpec := { name := "quotaChecks", fn := fun _ => fun
  | [d] => { results := [.lit (.bool false)], args := [d] }
  | _ => none }
def QuotaChecksWrongFalsely : Prop := quotaChecksRow.holds Try.pinned (OpenSpec.ofChange quotaChecksWrong)

/- THE SECOND FORM. 'bulk': how many values and letters a reading holds, each counted each time it is reached (what is shared counts as often as it is met; a slice's spare places count too). A statement '..UptoSaid' is the law's where the arguments, and the package variables that the reading takes, are together of bulk at most 1048576: NARROWER than '..Said'. Prove '..Said' where nothing that the law and all that it calls make is longer than what came in: it says more and counts as full. Else prove '..UptoSaid'. A law counts once. -/
mutual
def uptoBulk {H : Type} : DataW H → Nat
  | .lit (.string bytes) => bytes.length + 1
  | .lit _ => 1
  | .nil => 1
  | .ptr d => uptoBulk d + 1
  | .slice elems spare => uptoBulkAll elems + uptoBulkAll spare + 1
  | .agg parts => uptoBulkAll parts + 1
  | .iface _ d => uptoBulk d + 1
  | .map entries => uptoBulkEntries entries + 1
  | .held _ => 1
def uptoBulkAll {H : Type} : List (DataW H) → Nat
  | [] => 0
  | d :: r => uptoBulk d + uptoBulkAll r
def uptoBulkEntries {H : Type} : List (Lit × DataW H) → Nat
  | [] => 0
  | x :: r => uptoBulkEntry x + uptoBulkEntries r
def uptoBulkEntry {H : Type} : Lit × DataW H → Nat
  | (.string bytes, d) => bytes.length + uptoBulk d + 1
  | (_, d) => uptoBulk d + 1
 end
def uptoSmall : (H : Type) → List (DataW H) → Bool := fun _ ds => decide (uptoBulkAll ds ≤ 1048576)
def OpenSpec.upto (s : _root_.Go.ChangeSpec) : _root_.Go.OpenSpec := { _root_.Go.OpenSpec.ofChange s with cond := some uptoSmall }

/-- 'valiselaw20.QuotaCounts', WHERE WHAT IT READS IS OF BULK AT MOST 1048576: true; the input reads as it did. -/
def quotaCountsUptoRow : OpenClaim := { program := "ytejeepmcoafdcaa", sum := "740b434630ee891c0f98f6ee896ccabc0abc1eadb4b4a64eeb462606edfa5600", func := "valise/valiselaw20.QuotaCounts", spec := "quotaCounts", apart := false, narrowed := true }
def QuotaCountsUptoSaid : Prop := quotaCountsUptoRow.holds Try.pinned (OpenSpec.upto quotaCountsSpec)

/-- 'valiselaw20.QuotaBatches', WHERE WHAT IT READS IS OF BULK AT MOST 1048576: true; the input reads as it did. -/
def quotaBatchesUptoRow : OpenClaim := { program := "ytejeepmcoafdcaa", sum := "740b434630ee891c0f98f6ee896ccabc0abc1eadb4b4a64eeb462606edfa5600", func := "valise/valiselaw20.QuotaBatches", spec := "quotaBatches", unfollowed := true, recurses := true, apart := false, narrowed := true }
def QuotaBatchesUptoSaid : Prop := quotaBatchesUptoRow.holds Try.pinned (OpenSpec.upto quotaBatchesSpec)

/-- 'valiselaw20.QuotaBounds', WHERE WHAT IT READS IS OF BULK AT MOST 1048576: true; the input reads as it did. -/
def quotaBoundsUptoRow : OpenClaim := { program := "ytejeepmcoafdcaa", sum := "740b434630ee891c0f98f6ee896ccabc0abc1eadb4b4a64eeb462606edfa5600", func := "valise/valiselaw20.QuotaBounds", spec := "quotaBounds", unfollowed := true, recurses := true, apart := false, narrowed := true }
def QuotaBoundsUptoSaid : Prop := quotaBoundsUptoRow.holds Try.pinned (OpenSpec.upto quotaBoundsSpec)

/-- 'valiselaw20.QuotaOnward', WHERE WHAT IT READS IS OF BULK AT MOST 1048576: true; the input reads as it did. -/
def quotaOnwardUptoRow : OpenClaim := { program := "ytejeepmcoafdcaa", sum := "740b434630ee891c0f98f6ee896ccabc0abc1eadb4b4a64eeb462606edfa5600", func := "valise/valiselaw20.QuotaOnward", spec := "quotaOnward", unfollowed := true, recurses := true, apart := false, narrowed := true }
def QuotaOnwardUptoSaid : Prop := quotaOnwardUptoRow.holds Try.pinned (OpenSpec.upto quotaOnwardSpec)

/-- 'valiselaw20.QuotaChecks', WHERE WHAT IT READS IS OF BULK AT MOST 1048576: true; the input reads as it did. -/
def quotaChecksUptoRow : OpenClaim := { program := "ytejeepmcoafdcaa", sum := "740b434630ee891c0f98f6ee896ccabc0abc1eadb4b4a64eeb462606edfa5600", func := "valise/valiselaw20.QuotaChecks", spec := "quotaChecks", apart := false, narrowed := true }
def QuotaChecksUptoSaid : Prop := quotaChecksUptoRow.holds Try.pinned (OpenSpec.upto quotaChecksSpec)

end Rows
end Go.Proofs.Ytejeepmcoafdcaa
