/-
  The walk of Meter.must: it returns, or it gives up by a panic with the answer.
-/
import Derived.Test.YtejeepmcoafdcaaStep
import Derived.Defers
import Derived.Recover
import Derived.Laws.Pointers
namespace Go.Proofs.Ytejeepmcoafdcaa
open Go.RowKit
set_option linter.unusedVariables false

def noChain (er : Int) : List PanicEntry := [{ v := .iface 31 (.int .i64 er), recovered := false }]
/-- how must ends -/
def mustEnd (er : Int) : Ending := if er = 0 then .returned (.tuple #[]) else .panicked (noChain er)

set_option maxHeartbeats 1000000 in
theorem must_calls (w : World) (M : Nat) (mE mB e b k n : Int) (h : Mt w M mE mB e b) (hx : IsInt mE) (hy : IsInt mB) (hf : Fine e) (hg : Fine b) (hn : IsInt n) :
    Calls Try.prog 21 #[.pointer (some ⟨M, 0, none⟩), .agg #[.int .i64 k, .int .i64 n]] w fun x w' =>
      x = mustEnd (chargeErr mE mB e b k n) ∧ Mt w' M mE mB (chargeE mE e k) (chargeB mB b k n) ∧ Only M w w' := by
  have hA : Mt (w.alloc (Obj.cells #[.int .i64 k, .int .i64 n] 33)) M mE mB e b := Blk.alloc h _
  have ho : Only M w (w.alloc (Obj.cells #[.int .i64 k, .int .i64 n] 33)) := (Only.refl _ _).alloc _
  have H := Lib.hid h
  have A := Lib.hid hA
  have O := Lib.hid ho
  have P := Lib.hid (show IsInt mE ∧ IsInt mB ∧ Fine e ∧ Fine b ∧ IsInt n from ⟨hx, hy, hf, hg, hn⟩)
  clear h hA ho hx hy hf hg hn
  by_cases h1 : k = 1
  · subst h1
    have E : chargeErr mE mB e b 1 n = entryErr mE e := if_pos rfl
    have E2 : chargeE mE e 1 = entryNext mE e := if_pos rfl
    have E3 : chargeB mB b 1 n = b := if_pos rfl
    rw [E, E2, E3]
    clear E E2 E3
    have T := (entry_calls _ M mE mB e b A.out P.out.1 P.out.2.2.1)
    unfold mustEnd
    generalize entryErr mE e = er at *
    generalize entryNext mE e = en at *
    have T' := Lib.hid T
    clear T
    by_cases hz : er = 0
    · subst hz
      go_enter Try.func21, Try.ntmps21
      go_wp2_with fail
      refine T'.out.mono ?_
      rintro x w1 ⟨rfl, hm, ho⟩
      go_wp2
      first | go_end0 | refine bodyPost_ret (results_none rfl _ _ _) rfl ?_
      exact ⟨rfl, hm, O.out.trans ho⟩
    · have hzb : (er == 0) = false := by simp [hz]
      have hq := Lib.hid (show (if er = 0 then Ending.returned (.tuple #[]) else .panicked (noChain er)) = .panicked (noChain er) from if_neg hz)
      go_enter Try.func21, Try.ntmps21
      go_wp2_with fail
      refine T'.out.mono ?_
      rintro x w1 ⟨rfl, hm, ho⟩
      go_wp2
      exact ⟨rfl, rfl, hm, O.out.trans ho⟩
  by_cases h2 : k = 2
  · subst h2
    have E : chargeErr mE mB e b 2 n = bytesErr mB b n := (if_neg (by decide)).trans (if_pos rfl)
    have E2 : chargeE mE e 2 = e := if_neg (by decide)
    have E3 : chargeB mB b 2 n = bytesNext mB b n := (if_neg (by decide)).trans (if_pos rfl)
    rw [E, E2, E3]
    clear E E2 E3
    have T := (bytes_calls _ M mE mB e b n A.out P.out.2.1 P.out.2.2.2.1 P.out.2.2.2.2)
    unfold mustEnd
    generalize bytesErr mB b n = er at *
    generalize bytesNext mB b n = en at *
    have T' := Lib.hid T
    clear T
    by_cases hz : er = 0
    · subst hz
      go_enter Try.func21, Try.ntmps21
      go_wp2_with fail
      refine T'.out.mono ?_
      rintro x w1 ⟨rfl, hm, ho⟩
      go_wp2
      first | go_end0 | refine bodyPost_ret (results_none rfl _ _ _) rfl ?_
      exact ⟨rfl, hm, O.out.trans ho⟩
    · have hzb : (er == 0) = false := by simp [hz]
      have hq := Lib.hid (show (if er = 0 then Ending.returned (.tuple #[]) else .panicked (noChain er)) = .panicked (noChain er) from if_neg hz)
      go_enter Try.func21, Try.ntmps21
      go_wp2_with fail
      refine T'.out.mono ?_
      rintro x w1 ⟨rfl, hm, ho⟩
      go_wp2
      exact ⟨rfl, rfl, hm, O.out.trans ho⟩
  have E : chargeErr mE mB e b k n = 230 := (if_neg h1).trans (if_neg h2)
  have E2 : chargeE mE e k = e := if_neg h1
  have E3 : chargeB mB b k n = b := (if_neg h1).trans (if_neg h2)
  rw [E, E2, E3]
  clear E E2 E3
  have t1 : (k == 1) = false := by simp [h1]
  have t2 : (k == 2) = false := by simp [h2]
  clear h1 h2
  go_enter Try.func21, Try.ntmps21
  go_wp2
  exact ⟨rfl, rfl, A.out, O.out⟩
end Go.Proofs.Ytejeepmcoafdcaa
