/-
  The walk of the law's alive: it returns true.
-/
import Derived.Test.YtbkclmpopofebaaTextRef
import Derived.ShutString
namespace Go.Proofs.Ytbkclmpopofebaa
open Go.ChangeShapes Go.WideShapes Go.ChangeAt Go.RowKit
open Go.ChangeMaps (open_string shut_string)
set_option linter.unusedVariables false

theorem text_dir : textL 2 493 = [100, 114, 119, 120, 114, 45, 120, 114, 45, 120] := by decide

theorem alive_calls (w : World) : Calls Try.prog 12 #[] w (Holds w) := by
  go_enter Try.func12, Try.ntmps12
  go_wp2_with fail
  refine (text_good 2 493 (by omega) (by omega) (by omega) (by omega) w).mono ?_
  rintro e w' ⟨rfl, hb⟩
  rw [text_dir]
  go_wp2
  go_ret
  exact holds_mk hb

theorem Below.next {w w1 w2 : World} (h : Below w.heap.size w w1) (k : Below w1.heap.size w1 w2) : Below w.heap.size w w2 := h.trans (k.mono h.size)

end Go.Proofs.Ytbkclmpopofebaa
