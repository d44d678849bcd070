/-
  What the door's laws of modes share: a world that holds the two tables.
-/
import Derived.Test.YtbkclmpopofebaaDoorCards
import Derived.Test.YtbkclmpopofebaaDoorTie
import Derived.Test.YtbkclmpopofebaaDoorChangeW
import Derived.OpenShut
namespace Go.Proofs.YtbkclmpopofebaaDoor
open Go.ChangeShapes Go.WideShapes Go.ChangeAt Go.RowKit
set_option linter.unusedVariables false

def rangeCells : List Nat := [128, 191, 160, 191, 128, 159, 144, 191, 128, 143, 0, 0, 0, 0, 0, 0, 0, 0, 0, 0, 0, 0, 0, 0, 0, 0, 0, 0, 0, 0, 0, 0]
def layCells (l : List Nat) (o : Obj) : Obj := match o with
  | .cells _ t frozen => .cells (l.map fun n : Nat => Value.int .u8 (n : Int)).toArray t frozen
  | o => o
noncomputable def laidWorld (os : Os) : World :=
  { World.holding Tryd.prog os ⟨#[], #[], []⟩ with heap := ((World.holding Tryd.prog os ⟨#[], #[], []⟩).heap.modify 2 (layCells rangeCells)).modify 1 (layCells Go.Pinned.utf8FirstZ) }
theorem laid_met (os : Os) (args : Array Value) : laidMet Tryd.prog Rows.permsChangesRow.laid ((laidWorld os).forCall (fun _ _ => 0) ⟨#[], args, []⟩).memory :=
  laidMet_of_run' 8 (by kernel_rfl) (by kernel_rfl)
end Go.Proofs.YtbkclmpopofebaaDoor
