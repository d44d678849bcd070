/-
  The walk of the document's Check, and its answer beside the program's.
-/
import Derived.Test.YtejeepmcoafdcaaRefRead
namespace Go.Proofs.Ytejeepmcoafdcaa
open Go.ChangeShapes Go.WideShapes Go.ChangeAt Go.RowKit
set_option linter.unusedVariables false

theorem refCheck_calls (w : World) (s : ByteArray) (hs : s.size ≤ 140737488351232) :
    Calls Try.prog 26 #[.string s] w fun e w' => e = .returned (.int .i64 (checkErr s.data.toList)) ∧ Below w.heap.size w w' := by
  have hl := len_list s
  by_cases h : 4096 < s.size
  · have CE := Lib.hid (show checkErr s.data.toList = 21 from by unfold checkErr; rw [hl, if_pos h])
    have h' : (4096 : Int) < (s.size : Int) := by omega
    go_enter Try.func26, Try.ntmps26
    go_wp2
    go_ret
    exact ⟨by rw [CE.out]; rfl, Below.refl _ _⟩
  · have h' : ¬ (4096 : Int) < (s.size : Int) := by omega
    have RC := Lib.hid (read_calls w s hs (by omega))
    cases hp : parse s.data.toList with
    | none =>
      have CE := Lib.hid (show checkErr s.data.toList = 110 from by unfold checkErr; rw [hl, if_neg h, hp]; rfl)
      clear h
      go_enter Try.func26, Try.ntmps26
      go_wp2_with fail
      refine RC.out.mono ?_
      rintro e w1 ⟨hb, hm⟩
      rw [hp] at hm
      simp only at hm
      subst hm
      have HB := Lib.hid hb
      clear hb hp
      go_wp2_with fail
      go_ret
      exact ⟨by rw [CE.out]; rfl, HB.out⟩
    | some ts =>
      have CE := Lib.hid (show checkErr s.data.toList = 0 from by unfold checkErr; rw [hl, if_neg h, hp]; rfl)
      clear h
      go_enter Try.func26, Try.ntmps26
      go_wp2_with fail
      refine RC.out.mono ?_
      rintro e w1 ⟨hb, hm⟩
      rw [hp] at hm
      obtain ⟨v, rfl, _⟩ := hm
      have HB := Lib.hid hb
      clear hb hp
      go_wp2_with fail
      go_ret
      exact ⟨by rw [CE.out]; rfl, HB.out⟩
end Go.Proofs.Ytejeepmcoafdcaa
