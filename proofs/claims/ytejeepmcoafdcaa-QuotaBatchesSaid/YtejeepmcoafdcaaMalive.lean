/-
  alive: true.
-/
import Derived.Test.YtejeepmcoafdcaaMeter
namespace Go.Proofs.Ytejeepmcoafdcaa
open Go.RowKit
set_option linter.unusedVariables false

theorem alive_calls (w : World) : Calls Try.prog 8 #[] w fun e w' => e = .returned (.bool true) ∧ Below w.heap.size w w' := by
  go_enter Try.func8, Try.ntmps8
  go_wp2_with fail
  refine (new_calls 1 10 _ _ _ _ _ _ _ _ _ _ _ w).mono ?_
  rintro e w1 ⟨M, rfl, hM, hm, hb⟩
  have hM1 := Blk.lt hm
  have M0 := Lib.hid hm
  have HB := Lib.hid hb
  clear hm hb
  go_wp2_with fail
  refine (entry_calls w1 M 1 10 0 0 M0.out (by unfold IsInt; omega) (by unfold Fine; omega)).mono ?_
  rintro e w2 ⟨rfl, hm, ho⟩
  have M1 := Lib.hid hm
  have O1 := Lib.hid ho
  clear hm ho
  rw [show entryErr 1 0 = 0 from by decide]
  go_wp2_with fail
  refine (entry_calls w2 M 1 10 1 0 M1.out (by unfold IsInt; omega) (by unfold Fine; omega)).mono ?_
  rintro e w3 ⟨rfl, hm, ho⟩
  have M2 := Lib.hid hm
  have O2 := Lib.hid (O1.out.trans ho)
  clear hm ho
  rw [show entryErr 1 1 = 200 from by decide]
  go_wp2_with fail
  refine (bytes_calls w3 M 1 10 1 0 10 M2.out (by unfold IsInt; omega) (by unfold Fine; omega) (by unfold IsInt; omega)).mono ?_
  rintro e w4 ⟨rfl, hm, ho⟩
  have M3 := Lib.hid hm
  have O3 := Lib.hid (O2.out.trans ho)
  clear hm ho
  rw [show bytesErr 10 0 10 = 0 from by decide]
  go_wp2_with fail
  refine (bytes_calls w4 M 1 10 1 10 1 M3.out (by unfold IsInt; omega) (by unfold Fine; omega) (by unfold IsInt; omega)).mono ?_
  rintro e w5 ⟨rfl, hm, ho⟩
  have O4 := Lib.hid (O3.out.trans ho)
  clear hm ho
  rw [show bytesErr 10 10 1 = 201 from by decide]
  go_wp2
  go_ret
  exact ⟨rfl, HB.out.trans (O4.out.below hM HB.out.size)⟩
end Go.Proofs.Ytejeepmcoafdcaa
