/-
  No cell of these rows narrows 'for every input' (looked for: loops, veiled, ifaces, maps, wideKeys, modest, calm, conditions, laid).
  DERIVED. THE GIVEN ROWS OF THIS SEAT. 7 by the template 'for every input the law returns true; each argument reads behind the call as it read before'; 0 by the template 'total and deterministic' (their statements: YtejcpngmllciiaaTotals.lean).
  GIVEN WITH THE SEED: the statements are not yours to turn. If you find one false, say at which input.
  Laid BY PROGRAM, IN A SANDBOX (cutbox-rows.mjs): the forced cells as the released guide's own fill.sh prints them over the translation ed1ecc8764b9bf9d… (all of the seat's roots in one cut). By AI agents, Wed Nov 11 2026. No macro, syntax, notation, axiom, sorry.
-/
import Derived.Test.YtejcpngmllciiaaChecked
import GoSem.Claim
import GoSem.ClaimJoined
import GoSem.ClaimMapViews
import Derived.JoinedTies
import Derived.KernelRfl
namespace Go.Proofs.Ytejcpngmllciiaa
/- THE CELL 'sum', in the pinned program and in every row, IS THE sha256 OF THE DUMP (.gsa) THAT YtejcpngmllciiaaProg.lean LOADS. Nothing in Lean hashes anything: it is a label: what it is worth is what the hold of that sum in a sandbox is worth. -/
noncomputable def Try.pinned : Pinned := { name := "ytejcpngmllciiaa", sum := "ed1ecc8764b9bf9d0134afc0b2f4f89162ce49b4749dd95cdf49a81ea1c28ac4", checked := Try.checked }
namespace Rows
def none {H : Type} : Left H := { results := [], args := [] }

/-- 'valiselaw11.SieveChecks': WHATEVER THE INPUT: true; the input reads as it did. -/
def sieveChecksSpec : ChangeSpec := { name := "sieveChecks", fn := fun _ => fun
  | [d] => { results := [.lit (.bool true)], args := [d] }
  | _ => none }
def sieveChecksRow : OpenClaim := { program := "ytejcpngmllciiaa", sum := "ed1ecc8764b9bf9d0134afc0b2f4f89162ce49b4749dd95cdf49a81ea1c28ac4", func := "valise/valiselaw11.SieveChecks", spec := "sieveChecks", apart := false }
def SieveChecksSaid : Prop := sieveChecksRow.holds Try.pinned (OpenSpec.ofChange sieveChecksSpec)

/-- ITS FALSE NEIGHBOUR: 'it returns false'. Refute it at one input. -/
def sieveChecksWrong : ChangeSpec := { name := "sieveChecks", fn := fun _ => fun
  | [d] => { results := [.lit (.bool false)], args := [d] }
  | _ => none }
def SieveChecksWrongFalsely : Prop := sieveChecksRow.holds Try.pinned (OpenSpec.ofChange sieveChecksWrong)

/-- 'valiselaw11.SieveMatches': WHATEVER THE INPUT: true; the input reads as it did. -/
def sieveMatchesSpec : ChangeSpec := { name := "sieveMatches", fn := fun _ => fun
  | [d1, d2] => { results := [.lit (.bool true)], args := [d1, d2] }
  | _ => none }
def sieveMatchesRow : OpenClaim := { program := "ytejcpngmllciiaa", sum := "ed1ecc8764b9bf9d0134afc0b2f4f89162ce49b4749dd95cdf49a81ea1c28ac4", func := "valise/valiselaw11.SieveMatches", spec := "sieveMatches", apart := false }
def SieveMatchesSaid : Prop := sieveMatchesRow.holds Try.pinned (OpenSpec.ofChange sieveMatchesSpec)

/-- ITS FALSE NEIGHBOUR: 'it returns false'. Refute it at one input. -/
def sieveMatchesWrong : ChangeSpec := { name := "sieveMatches", fn := fun _ => fun
  | [d1, d2] => { results := [.lit (.bool false)], args := [d1, d2] }
  | _ => none }
def SieveMatchesWrongFalsely : Prop := sieveMatchesRow.holds Try.pinned (OpenSpec.ofChange sieveMatchesWrong)

/-- 'valiselaw11.SieveLiteral': WHATEVER THE INPUT: true; the input reads as it did. -/
def sieveLiteralSpec : ChangeSpec := { name := "sieveLiteral", fn := fun _ => fun
  | [d1, d2] => { results := [.lit (.bool true)], args := [d1, d2] }
  | _ => none }
def sieveLiteralRow : OpenClaim := { program := "ytejcpngmllciiaa", sum := "ed1ecc8764b9bf9d0134afc0b2f4f89162ce49b4749dd95cdf49a81ea1c28ac4", func := "valise/valiselaw11.SieveLiteral", spec := "sieveLiteral", apart := false }
def SieveLiteralSaid : Prop := sieveLiteralRow.holds Try.pinned (OpenSpec.ofChange sieveLiteralSpec)

/-- ITS FALSE NEIGHBOUR: 'it returns false'. Refute it at one input. -/
def sieveLiteralWrong : ChangeSpec := { name := "sieveLiteral", fn := fun _ => fun
  | [d1, d2] => { results := [.lit (.bool false)], args := [d1, d2] }
  | _ => none }
def SieveLiteralWrongFalsely : Prop := sieveLiteralRow.holds Try.pinned (OpenSpec.ofChange sieveLiteralWrong)

/-- 'valiselaw11.SieveStars': WHATEVER THE INPUT: true; the input reads as it did. -/
def sieveStarsSpec : ChangeSpec := { name := "sieveStars", fn := fun _ => fun
  | [d] => { results := [.lit (.bool true)], args := [d] }
  | _ => none }
def sieveStarsRow : OpenClaim := { program := "ytejcpngmllciiaa", sum := "ed1ecc8764b9bf9d0134afc0b2f4f89162ce49b4749dd95cdf49a81ea1c28ac4", func := "valise/valiselaw11.SieveStars", spec := "sieveStars", apart := false }
def SieveStarsSaid : Prop := sieveStarsRow.holds Try.pinned (OpenSpec.ofChange sieveStarsSpec)

/-- ITS FALSE NEIGHBOUR: 'it returns false'. Refute it at one input. -/
def sieveStarsWrong : ChangeSpec := { name := "sieveStars", fn := fun _ => fun
  | [d] => { results := [.lit (.bool false)], args := [d] }
  | _ => none }
def SieveStarsWrongFalsely : Prop := sieveStarsRow.holds Try.pinned (OpenSpec.ofChange sieveStarsWrong)

/-- 'valiselaw11.SieveJoins': WHATEVER THE INPUT: true; the input reads as it did. -/
def sieveJoinsSpec : ChangeSpec := { name := "sieveJoins", fn := fun _ => fun
  | [d1, d2, d3, d4] => { results := [.lit (.bool true)], args := [d1, d2, d3, d4] }
  | _ => none }
def sieveJoinsRow : OpenClaim := { program := "ytejcpngmllciiaa", sum := "ed1ecc8764b9bf9d0134afc0b2f4f89162ce49b4749dd95cdf49a81ea1c28ac4", func := "valise/valiselaw11.SieveJoins", spec := "sieveJoins", apart := false }
def SieveJoinsSaid : Prop := sieveJoinsRow.holds Try.pinned (OpenSpec.ofChange sieveJoinsSpec)

/-- ITS FALSE NEIGHBOUR: 'it returns false'. Refute it at one input. -/
def sieveJoinsWrong : ChangeSpec := { name := "sieveJoins", fn := fun _ => fun
  | [d1, d2, d3, d4] => { results := [.lit (.bool false)], args := [d1, d2, d3, d4] }
  | _ => none }
def SieveJoinsWrongFalsely : Prop := sieveJoinsRow.holds Try.pinned (OpenSpec.ofChange sieveJoinsWrong)

/-- 'valiselaw11.SieveChosen': WHATEVER THE INPUT: true; the input reads as it did. -/
def sieveChosenSpec : ChangeSpec := { name := "sieveChosen", fn := fun _ => fun
  | [d1, d2, d3] => { results := [.lit (.bool true)], args := [d1, d2, d3] }
  | _ => none }
def sieveChosenRow : OpenClaim := { program := "ytejcpngmllciiaa", sum := "ed1ecc8764b9bf9d0134afc0b2f4f89162ce49b4749dd95cdf49a81ea1c28ac4", func := "valise/valiselaw11.SieveChosen", spec := "sieveChosen", apart := false }
def SieveChosenSaid : Prop := sieveChosenRow.holds Try.pinned (OpenSpec.ofChange sieveChosenSpec)

/-- ITS FALSE NEIGHBOUR: 'it returns false'. Refute it at one input. -/
def sieveChosenWrong : ChangeSpec := { name := "sieveChosen", fn := fun _ => fun
  | [d1, d2, d3] => { results := [.lit (.bool false)], args := [d1, d2, d3] }
  | _ => none }
def SieveChosenWrongFalsely : Prop := sieveChosenRow.holds Try.pinned (OpenSpec.ofChange sieveChosenWrong)

/-- 'valiselaw11.SieveExcludes': WHATEVER THE INPUT: true; the input reads as it did. -/
def sieveExcludesSpec : ChangeSpec := { name := "sieveExcludes", fn := fun _ => fun
  | [d1, d2, d3, d4] => { results := [.lit (.bool true)], args := [d1, d2, d3, d4] }
  | _ => none }
def sieveExcludesRow : OpenClaim := { program := "ytejcpngmllciiaa", sum := "ed1ecc8764b9bf9d0134afc0b2f4f89162ce49b4749dd95cdf49a81ea1c28ac4", func := "valise/valiselaw11.SieveExcludes", spec := "sieveExcludes", apart := false }
def SieveExcludesSaid : Prop := sieveExcludesRow.holds Try.pinned (OpenSpec.ofChange sieveExcludesSpec)

/-- ITS FALSE NEIGHBOUR: 'it returns false'. Refute it at one input. -/
def sieveExcludesWrong : ChangeSpec := { name := "sieveExcludes", fn := fun _ => fun
  | [d1, d2, d3, d4] => { results := [.lit (.bool false)], args := [d1, d2, d3, d4] }
  | _ => none }
def SieveExcludesWrongFalsely : Prop := sieveExcludesRow.holds Try.pinned (OpenSpec.ofChange sieveExcludesWrong)

/- THE SECOND FORM. 'bulk': how many values and letters a reading holds, each counted each time it is reached (what is shared counts as often as it is met; a slice's spare places count too). A statement '..UptoSaid' is the law's where the arguments, and the package variables that the reading takes, are together of bulk at most 1048576: NARROWER than '..Said'. Prove '..Said' where nothing that the law and all that it calls make is longer than what came in: it says more and counts as full. Else prove '..UptoSaid'. A law counts once. -/
mutual
def uptoBulk {H : Type} : DataW H → Nat
  | .lit (.string bytes) => bytes.length + 1
  | .lit _ => 1
  | .nil => 1
  | .ptr d => uptoBulk d + 1
  | .slice elems spare => uptoBulkAll elems + uptoBulkAll spare + 1
  | .agg parts => uptoBulkAll parts + 1
  | .iface _ d => uptoBulk d + 1
  | .map entries => uptoBulkEntries entries + 1
  | .held _ => 1
def uptoBulkAll {H : Type} : List (DataW H) → Nat
  | [] => 0
  | d :: r => uptoBulk d + uptoBulkAll r
def uptoBulkEntries {H : Type} : List (Lit × DataW H) → Nat
  | [] => 0
  | x :: r => uptoBulkEntry x + uptoBulkEntries r
def uptoBulkEntry {H : Type} : Lit × DataW H → Nat
  | (.string bytes, d) => bytes.length + uptoBulk d + 1
  | (_, d) => uptoBulk d + 1
 end
def uptoSmall : (H : Type) → List (DataW H) → Bool := fun _ ds => decide (uptoBulkAll ds ≤ 1048576)
def OpenSpec.upto (s : _root_.Go.ChangeSpec) : _root_.Go.OpenSpec := { _root_.Go.OpenSpec.ofChange s with cond := some uptoSmall }

/-- 'valiselaw11.SieveChecks', WHERE WHAT IT READS IS OF BULK AT MOST 1048576: true; the input reads as it did. -/
def sieveChecksUptoRow : OpenClaim := { program := "ytejcpngmllciiaa", sum := "ed1ecc8764b9bf9d0134afc0b2f4f89162ce49b4749dd95cdf49a81ea1c28ac4", func := "valise/valiselaw11.SieveChecks", spec := "sieveChecks", apart := false, narrowed := true }
def SieveChecksUptoSaid : Prop := sieveChecksUptoRow.holds Try.pinned (OpenSpec.upto sieveChecksSpec)

/-- 'valiselaw11.SieveMatches', WHERE WHAT IT READS IS OF BULK AT MOST 1048576: true; the input reads as it did. -/
def sieveMatchesUptoRow : OpenClaim := { program := "ytejcpngmllciiaa", sum := "ed1ecc8764b9bf9d0134afc0b2f4f89162ce49b4749dd95cdf49a81ea1c28ac4", func := "valise/valiselaw11.SieveMatches", spec := "sieveMatches", apart := false, narrowed := true }
def SieveMatchesUptoSaid : Prop := sieveMatchesUptoRow.holds Try.pinned (OpenSpec.upto sieveMatchesSpec)

/-- 'valiselaw11.SieveLiteral', WHERE WHAT IT READS IS OF BULK AT MOST 1048576: true; the input reads as it did. -/
def sieveLiteralUptoRow : OpenClaim := { program := "ytejcpngmllciiaa", sum := "ed1ecc8764b9bf9d0134afc0b2f4f89162ce49b4749dd95cdf49a81ea1c28ac4", func := "valise/valiselaw11.SieveLiteral", spec := "sieveLiteral", apart := false, narrowed := true }
def SieveLiteralUptoSaid : Prop := sieveLiteralUptoRow.holds Try.pinned (OpenSpec.upto sieveLiteralSpec)

/-- 'valiselaw11.SieveStars', WHERE WHAT IT READS IS OF BULK AT MOST 1048576: true; the input reads as it did. -/
def sieveStarsUptoRow : OpenClaim := { program := "ytejcpngmllciiaa", sum := "ed1ecc8764b9bf9d0134afc0b2f4f89162ce49b4749dd95cdf49a81ea1c28ac4", func := "valise/valiselaw11.SieveStars", spec := "sieveStars", apart := false, narrowed := true }
def SieveStarsUptoSaid : Prop := sieveStarsUptoRow.holds Try.pinned (OpenSpec.upto sieveStarsSpec)

/-- 'valiselaw11.SieveJoins', WHERE WHAT IT READS IS OF BULK AT MOST 1048576: true; the input reads as it did. -/
def sieveJoinsUptoRow : OpenClaim := { program := "ytejcpngmllciiaa", sum := "ed1ecc8764b9bf9d0134afc0b2f4f89162ce49b4749dd95cdf49a81ea1c28ac4", func := "valise/valiselaw11.SieveJoins", spec := "sieveJoins", apart := false, narrowed := true }
def SieveJoinsUptoSaid : Prop := sieveJoinsUptoRow.holds Try.pinned (OpenSpec.upto sieveJoinsSpec)

/-- 'valiselaw11.SieveChosen', WHERE WHAT IT READS IS OF BULK AT MOST 1048576: true; the input reads as it did. -/
def sieveChosenUptoRow : OpenClaim := { program := "ytejcpngmllciiaa", sum := "ed1ecc8764b9bf9d0134afc0b2f4f89162ce49b4749dd95cdf49a81ea1c28ac4", func := "valise/valiselaw11.SieveChosen", spec := "sieveChosen", apart := false, narrowed := true }
def SieveChosenUptoSaid : Prop := sieveChosenUptoRow.holds Try.pinned (OpenSpec.upto sieveChosenSpec)

/-- 'valiselaw11.SieveExcludes', WHERE WHAT IT READS IS OF BULK AT MOST 1048576: true; the input reads as it did. -/
def sieveExcludesUptoRow : OpenClaim := { program := "ytejcpngmllciiaa", sum := "ed1ecc8764b9bf9d0134afc0b2f4f89162ce49b4749dd95cdf49a81ea1c28ac4", func := "valise/valiselaw11.SieveExcludes", spec := "sieveExcludes", apart := false, narrowed := true }
def SieveExcludesUptoSaid : Prop := sieveExcludesUptoRow.holds Try.pinned (OpenSpec.upto sieveExcludesSpec)

end Rows
end Go.Proofs.Ytejcpngmllciiaa
