/-
  The walk of the law's alive: it returns true.
-/
import Derived.Test.YtbkclmpopofebaaDoorText
import Derived.Test.YtbkclmpopofebaaDoorRd
import Derived.ShutString
namespace Go.Proofs.YtbkclmpopofebaaDoor
open Go.ChangeShapes Go.WideShapes Go.ChangeAt Go.RowKit
open Go.ChangeMaps (open_string shut_string)
set_option linter.unusedVariables false

theorem text_dir : textL 2 493 = [100, 114, 119, 120, 114, 45, 120, 114, 45, 120] := by decide

theorem alive_calls (w : World) : Calls Tryd.prog 5 #[] w (Holds w) := by
  go_enter Tryd.func5, Tryd.ntmps5
  go_wp2_with fail
  refine (text_good 2 493 (by omega) (by omega) (by omega) (by omega) w).mono ?_
  rintro e w' ⟨rfl, hb⟩
  rw [text_dir]
  go_wp2
  go_ret
  exact holds_mk hb
end Go.Proofs.YtbkclmpopofebaaDoor
