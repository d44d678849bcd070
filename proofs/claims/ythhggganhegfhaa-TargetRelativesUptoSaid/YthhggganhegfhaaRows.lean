/-
  No cell of these rows narrows 'for every input' (looked for: loops, veiled, ifaces, maps, wideKeys, modest, calm, conditions, laid).
  DERIVED. THE GIVEN ROWS OF THIS SEAT. 4 by the template 'for every input the law returns true; each argument reads behind the call as it read before'; 0 by the template 'total and deterministic' (their statements: YthhggganhegfhaaTotals.lean).
  GIVEN WITH THE SEED: the statements are not yours to turn. If you find one false, say at which input.
  Laid BY PROGRAM, IN A SANDBOX (cutbox-rows.mjs): the forced cells as the released guide's own fill.sh prints them over the translation 48e203bd018dd69e… (all of the seat's roots in one cut). By AI agents, Wed Nov 11 2026. No macro, syntax, notation, axiom, sorry.
-/
import Derived.Test.YthhggganhegfhaaChecked
import GoSem.Claim
import GoSem.ClaimJoined
import GoSem.ClaimMapViews
import Derived.JoinedTies
import Derived.KernelRfl
namespace Go.Proofs.Ythhggganhegfhaa
/- THE CELL 'sum', in the pinned program and in every row, IS THE sha256 OF THE DUMP (.gsa) THAT YthhggganhegfhaaProg.lean LOADS. Nothing in Lean hashes anything: it is a label: what it is worth is what the hold of that sum in a sandbox is worth. -/
noncomputable def Try.pinned : Pinned := { name := "ythhggganhegfhaa", sum := "48e203bd018dd69e0c6502b59fa837244ebc1ce108ee12ed27d7d5edfb795698", checked := Try.checked }
namespace Rows
def none {H : Type} : Left H := { results := [], args := [] }

/-- 'valiselaw09.RouteWithins': WHATEVER THE INPUT: true; the input reads as it did. -/
def routeWithinsSpec : ChangeSpec := { name := "routeWithins", fn := fun _ => fun
  | [d1, d2] => { results := [.lit (.bool true)], args := [d1, d2] }
  | _ => none }
def routeWithinsRow : OpenClaim := { program := "ythhggganhegfhaa", sum := "48e203bd018dd69e0c6502b59fa837244ebc1ce108ee12ed27d7d5edfb795698", func := "valise/valiselaw09.RouteWithins", spec := "routeWithins", apart := false }
def RouteWithinsSaid : Prop := routeWithinsRow.holds Try.pinned (OpenSpec.ofChange routeWithinsSpec)

/-- ITS FALSE NEIGHBOUR: 'it returns false'. Refute it at one input. -/
def routeWithinsWrong : ChangeSpec := { name := "routeWithins", fn := fun _ => fun
  | [d1, d2] => { results := [.lit (.bool false)], args := [d1, d2] }
  | _ => none }
def RouteWithinsWrongFalsely : Prop := routeWithinsRow.holds Try.pinned (OpenSpec.ofChange routeWithinsWrong)

/-- 'valiselaw09.RouteJoins': WHATEVER THE INPUT: true; the input reads as it did. -/
def routeJoinsSpec : ChangeSpec := { name := "routeJoins", fn := fun _ => fun
  | [d] => { results := [.lit (.bool true)], args := [d] }
  | _ => none }
def routeJoinsRow : OpenClaim := { program := "ythhggganhegfhaa", sum := "48e203bd018dd69e0c6502b59fa837244ebc1ce108ee12ed27d7d5edfb795698", func := "valise/valiselaw09.RouteJoins", spec := "routeJoins", inPlace := ["internal/abi.NoEscape", "internal/bytealg.MakeNoZero"], apart := false }
def RouteJoinsSaid : Prop := routeJoinsRow.holds Try.pinned (OpenSpec.ofChange routeJoinsSpec)

/-- ITS FALSE NEIGHBOUR: 'it returns false'. Refute it at one input. -/
def routeJoinsWrong : ChangeSpec := { name := "routeJoins", fn := fun _ => fun
  | [d] => { results := [.lit (.bool false)], args := [d] }
  | _ => none }
def RouteJoinsWrongFalsely : Prop := routeJoinsRow.holds Try.pinned (OpenSpec.ofChange routeJoinsWrong)

/-- 'valiselaw10.TargetRelatives': WHATEVER THE INPUT: true; the input reads as it did. -/
def targetRelativesSpec : ChangeSpec := { name := "targetRelatives", fn := fun _ => fun
  | [d1, d2] => { results := [.lit (.bool true)], args := [d1, d2] }
  | _ => none }
def targetRelativesRow : OpenClaim := { program := "ythhggganhegfhaa", sum := "48e203bd018dd69e0c6502b59fa837244ebc1ce108ee12ed27d7d5edfb795698", func := "valise/valiselaw10.TargetRelatives", spec := "targetRelatives", inPlace := ["internal/abi.NoEscape", "internal/bytealg.MakeNoZero"], apart := false }
def TargetRelativesSaid : Prop := targetRelativesRow.holds Try.pinned (OpenSpec.ofChange targetRelativesSpec)

/-- ITS FALSE NEIGHBOUR: 'it returns false'. Refute it at one input. -/
def targetRelativesWrong : ChangeSpec := { name := "targetRelatives", fn := fun _ => fun
  | [d1, d2] => { results := [.lit (.bool false)], args := [d1, d2] }
  | _ => none }
def TargetRelativesWrongFalsely : Prop := targetRelativesRow.holds Try.pinned (OpenSpec.ofChange targetRelativesWrong)

/-- 'valiselaw09.RouteGoods': WHATEVER THE INPUT: true; the input reads as it did. -/
def routeGoodsSpec : ChangeSpec := { name := "routeGoods", fn := fun _ => fun
  | [d] => { results := [.lit (.bool true)], args := [d] }
  | _ => none }
def routeGoodsRow : OpenClaim := { program := "ythhggganhegfhaa", sum := "48e203bd018dd69e0c6502b59fa837244ebc1ce108ee12ed27d7d5edfb795698", func := "valise/valiselaw09.RouteGoods", spec := "routeGoods", inPlace := ["internal/bytealg.IndexByteString", "internal/bytealg.IndexString"], named := ["internal/bytealg.MaxLen"], apart := false }
def RouteGoodsSaid : Prop := routeGoodsRow.holds Try.pinned (OpenSpec.ofChange routeGoodsSpec)

/-- ITS FALSE NEIGHBOUR: 'it returns false'. Refute it at one input. -/
def routeGoodsWrong : ChangeSpec := { name := "routeGoods", fn := fun _ => fun
  | [d] => { results := [.lit (.bool false)], args := [d] }
  | _ => none }
def RouteGoodsWrongFalsely : Prop := routeGoodsRow.holds Try.pinned (OpenSpec.ofChange routeGoodsWrong)

/- THE SECOND FORM. 'bulk': how many values and letters a reading holds, each counted each time it is reached (what is shared counts as often as it is met; a slice's spare places count too). A statement '..UptoSaid' is the law's where the arguments, and the package variables that the reading takes, are together of bulk at most 1048576: NARROWER than '..Said'. Prove '..Said' where nothing that the law and all that it calls make is longer than what came in: it says more and counts as full. Else prove '..UptoSaid'. A law counts once. -/
mutual
def uptoBulk {H : Type} : DataW H → Nat
  | .lit (.string bytes) => bytes.length + 1
  | .lit _ => 1
  | .nil => 1
  | .ptr d => uptoBulk d + 1
  | .slice elems spare => uptoBulkAll elems + uptoBulkAll spare + 1
  | .agg parts => uptoBulkAll parts + 1
  | .iface _ d => uptoBulk d + 1
  | .map entries => uptoBulkEntries entries + 1
  | .held _ => 1
def uptoBulkAll {H : Type} : List (DataW H) → Nat
  | [] => 0
  | d :: r => uptoBulk d + uptoBulkAll r
def uptoBulkEntries {H : Type} : List (Lit × DataW H) → Nat
  | [] => 0
  | x :: r => uptoBulkEntry x + uptoBulkEntries r
def uptoBulkEntry {H : Type} : Lit × DataW H → Nat
  | (.string bytes, d) => bytes.length + uptoBulk d + 1
  | (_, d) => uptoBulk d + 1
 end
def uptoSmall : (H : Type) → List (DataW H) → Bool := fun _ ds => decide (uptoBulkAll ds ≤ 1048576)
def OpenSpec.upto (s : _root_.Go.ChangeSpec) : _root_.Go.OpenSpec := { _root_.Go.OpenSpec.ofChange s with cond := some uptoSmall }

/-- 'valiselaw09.RouteWithins', WHERE WHAT IT READS IS OF BULK AT MOST 1048576: true; the input reads as it did. -/
def routeWithinsUptoRow : OpenClaim := { program := "ythhggganhegfhaa", sum := "48e203bd018dd69e0c6502b59fa837244ebc1ce108ee12ed27d7d5edfb795698", func := "valise/valiselaw09.RouteWithins", spec := "routeWithins", apart := false, narrowed := true }
def RouteWithinsUptoSaid : Prop := routeWithinsUptoRow.holds Try.pinned (OpenSpec.upto routeWithinsSpec)

/-- 'valiselaw09.RouteJoins', WHERE WHAT IT READS IS OF BULK AT MOST 1048576: true; the input reads as it did. -/
def routeJoinsUptoRow : OpenClaim := { program := "ythhggganhegfhaa", sum := "48e203bd018dd69e0c6502b59fa837244ebc1ce108ee12ed27d7d5edfb795698", func := "valise/valiselaw09.RouteJoins", spec := "routeJoins", inPlace := ["internal/abi.NoEscape", "internal/bytealg.MakeNoZero"], apart := false, narrowed := true }
def RouteJoinsUptoSaid : Prop := routeJoinsUptoRow.holds Try.pinned (OpenSpec.upto routeJoinsSpec)

/-- 'valiselaw10.TargetRelatives', WHERE WHAT IT READS IS OF BULK AT MOST 1048576: true; the input reads as it did. -/
def targetRelativesUptoRow : OpenClaim := { program := "ythhggganhegfhaa", sum := "48e203bd018dd69e0c6502b59fa837244ebc1ce108ee12ed27d7d5edfb795698", func := "valise/valiselaw10.TargetRelatives", spec := "targetRelatives", inPlace := ["internal/abi.NoEscape", "internal/bytealg.MakeNoZero"], apart := false, narrowed := true }
def TargetRelativesUptoSaid : Prop := targetRelativesUptoRow.holds Try.pinned (OpenSpec.upto targetRelativesSpec)

/-- 'valiselaw09.RouteGoods', WHERE WHAT IT READS IS OF BULK AT MOST 1048576: true; the input reads as it did. -/
def routeGoodsUptoRow : OpenClaim := { program := "ythhggganhegfhaa", sum := "48e203bd018dd69e0c6502b59fa837244ebc1ce108ee12ed27d7d5edfb795698", func := "valise/valiselaw09.RouteGoods", spec := "routeGoods", inPlace := ["internal/bytealg.IndexByteString", "internal/bytealg.IndexString"], named := ["internal/bytealg.MaxLen"], apart := false, narrowed := true }
def RouteGoodsUptoSaid : Prop := routeGoodsUptoRow.holds Try.pinned (OpenSpec.upto routeGoodsSpec)

end Rows
end Go.Proofs.Ythhggganhegfhaa
