/-
  The walk of the document's Meter.Step.
-/
import Derived.Test.YtejeepmcoafdcaaMeter
namespace Go.Proofs.Ytejeepmcoafdcaa
open Go.RowKit
set_option linter.unusedVariables false

/-- a charge: what is answered, and both counts behind it -/
def chargeErr (mE mB e b k n : Int) : Int := if k = 1 then entryErr mE e else if k = 2 then bytesErr mB b n else 230
def chargeE (mE e k : Int) : Int := if k = 1 then entryNext mE e else e
def chargeB (mB b k n : Int) : Int := if k = 1 then b else if k = 2 then bytesNext mB b n else b
/-- the reference's meter, a value -/
def refM (mE mB e b : Int) : Value := .agg #[.int .i64 e, .int .i64 b, .int .i64 mE, .int .i64 mB]

theorem step_calls (w : World) (mE mB e b k n : Int) (hx : IsInt mE) (hy : IsInt mB) (hf : Fine e) (hg : Fine b) (hn : IsInt n) :
    Calls Try.prog 12 #[refM mE mB e b, .int .i64 k, .int .i64 n] w fun x w' =>
      x = .returned (.tuple #[refM mE mB (chargeE mE e k) (chargeB mB b k n), .int .i64 (chargeErr mE mB e b k n)]) ∧ Below w.heap.size w w' := by
  unfold IsInt at hx hy hn
  unfold Fine at hf hg
  unfold refM
  have two : ∀ o1 o2 : Obj, Below w.heap.size w ((w.alloc o1).alloc o2) := fun o1 o2 => ((Below.refl _ _).alloc (Nat.le_refl _) _).alloc (by simp) _
  by_cases h1 : k = 1
  · subst h1
    by_cases hc : mE ≤ e
    · have q1 := Lib.hid (show chargeErr mE mB e b 1 n = 200 from (if_pos rfl).trans (if_pos hc))
      have q2 := Lib.hid (show chargeE mE e 1 = e from (if_pos rfl).trans (if_pos hc))
      have q3 := Lib.hid (show chargeB mB b 1 n = b from if_pos rfl)
      have T := Lib.hid two
      clear hx hy hn hf hg two
      go_enter Try.func12, Try.ntmps12
      go_wp2
      refine bodyPost_ret (v := .tuple #[.agg #[.int .i64 (e), .int .i64 (b), .int .i64 mE, .int .i64 mB], .int .i64 200]) (by simp [results, Try.results12, go_sem]) rfl ⟨by rw [q1.out, q2.out, q3.out], ?_⟩
      first | exact T.out _ _ | exact T.out _ _
    · have q1 := Lib.hid (show chargeErr mE mB e b 1 n = 0 from (if_pos rfl).trans (if_neg hc))
      have q2 := Lib.hid (show chargeE mE e 1 = e + 1 from (if_pos rfl).trans (if_neg hc))
      have q3 := Lib.hid (show chargeB mB b 1 n = b from if_pos rfl)
      have k1 : e + 1 ≤ 9223372036854775807 := by omega
      have k2 : -9223372036854775808 ≤ e + 1 := by omega
      have T := Lib.hid two
      clear hx hy hn hf hg two
      go_enter Try.func12, Try.ntmps12
      go_wp2
      refine bodyPost_ret (v := .tuple #[.agg #[.int .i64 (e + 1), .int .i64 (b), .int .i64 mE, .int .i64 mB], .int .i64 0]) (by simp [results, Try.results12, go_sem]) rfl ⟨by rw [q1.out, q2.out, q3.out], ?_⟩
      first | exact T.out _ _ | exact T.out _ _
  by_cases h2 : k = 2
  · subst h2
    by_cases hc : n < 0
    · have q1 := Lib.hid (show chargeErr mE mB e b 2 n = 11 from (if_neg (by decide)).trans ((if_pos rfl).trans (if_pos hc)))
      have q2 := Lib.hid (show chargeE mE e 2 = e from if_neg (by decide))
      have q3 := Lib.hid (show chargeB mB b 2 n = b from (if_neg (by decide)).trans ((if_pos rfl).trans (if_pos hc)))
      have T := Lib.hid two
      clear hx hy hn hf hg two
      go_enter Try.func12, Try.ntmps12
      go_wp2
      refine bodyPost_ret (v := .tuple #[.agg #[.int .i64 (e), .int .i64 (b), .int .i64 mE, .int .i64 mB], .int .i64 11]) (by simp [results, Try.results12, go_sem]) rfl ⟨by rw [q1.out, q2.out, q3.out], ?_⟩
      first | exact T.out _ _ | exact T.out _ _
    by_cases hd : mB < b
    · have q1 := Lib.hid (show chargeErr mE mB e b 2 n = 201 from (if_neg (by decide)).trans ((if_pos rfl).trans ((if_neg hc).trans (if_pos hd))))
      have q2 := Lib.hid (show chargeE mE e 2 = e from if_neg (by decide))
      have q3 := Lib.hid (show chargeB mB b 2 n = b from (if_neg (by decide)).trans ((if_pos rfl).trans ((if_neg hc).trans (if_pos hd))))
      have T := Lib.hid two
      clear hx hy hn hf hg two
      go_enter Try.func12, Try.ntmps12
      go_wp2
      refine bodyPost_ret (v := .tuple #[.agg #[.int .i64 (e), .int .i64 (b), .int .i64 mE, .int .i64 mB], .int .i64 201]) (by simp [results, Try.results12, go_sem]) rfl ⟨by rw [q1.out, q2.out, q3.out], ?_⟩
      first | exact T.out _ _ | exact T.out _ _
    have k1 : mB - b ≤ 9223372036854775807 := by omega
    have k2 : -9223372036854775808 ≤ mB - b := by omega
    by_cases hh : mB - b < n
    · have q1 := Lib.hid (show chargeErr mE mB e b 2 n = 201 from (if_neg (by decide)).trans ((if_pos rfl).trans ((if_neg hc).trans ((if_neg hd).trans (if_pos hh)))))
      have q2 := Lib.hid (show chargeE mE e 2 = e from if_neg (by decide))
      have q3 := Lib.hid (show chargeB mB b 2 n = b from (if_neg (by decide)).trans ((if_pos rfl).trans ((if_neg hc).trans ((if_neg hd).trans (if_pos hh)))))
      have T := Lib.hid two
      clear hx hy hn hf hg two
      go_enter Try.func12, Try.ntmps12
      go_wp2
      refine bodyPost_ret (v := .tuple #[.agg #[.int .i64 (e), .int .i64 (b), .int .i64 mE, .int .i64 mB], .int .i64 201]) (by simp [results, Try.results12, go_sem]) rfl ⟨by rw [q1.out, q2.out, q3.out], ?_⟩
      first | exact T.out _ _ | exact T.out _ _
    · have q1 := Lib.hid (show chargeErr mE mB e b 2 n = 0 from (if_neg (by decide)).trans ((if_pos rfl).trans ((if_neg hc).trans ((if_neg hd).trans (if_neg hh)))))
      have q2 := Lib.hid (show chargeE mE e 2 = e from if_neg (by decide))
      have q3 := Lib.hid (show chargeB mB b 2 n = b + n from (if_neg (by decide)).trans ((if_pos rfl).trans ((if_neg hc).trans ((if_neg hd).trans (if_neg hh)))))
      have k3 : b + n ≤ 9223372036854775807 := by omega
      have k4 : -9223372036854775808 ≤ b + n := by omega
      have T := Lib.hid two
      clear hx hy hn hf hg two
      go_enter Try.func12, Try.ntmps12
      go_wp2
      refine bodyPost_ret (v := .tuple #[.agg #[.int .i64 (e), .int .i64 (b + n), .int .i64 mE, .int .i64 mB], .int .i64 0]) (by simp [results, Try.results12, go_sem]) rfl ⟨by rw [q1.out, q2.out, q3.out], ?_⟩
      first | exact T.out _ _ | exact T.out _ _
  · have q1 := Lib.hid (show chargeErr mE mB e b k n = 230 from (if_neg h1).trans (if_neg h2))
    have q2 := Lib.hid (show chargeE mE e k = e from if_neg h1)
    have q3 := Lib.hid (show chargeB mB b k n = b from (if_neg h1).trans (if_neg h2))
    have t1 : (k == 1) = false := by simp [h1]
    have t2 : (k == 2) = false := by simp [h2]
    have T := Lib.hid two
    clear hx hy hn hf hg two
    go_enter Try.func12, Try.ntmps12
    go_wp2
    refine bodyPost_ret (v := .tuple #[.agg #[.int .i64 (e), .int .i64 (b), .int .i64 mE, .int .i64 mB], .int .i64 230]) (by simp [results, Try.results12, go_sem]) rfl ⟨by rw [q1.out, q2.out, q3.out], ?_⟩
    first | exact T.out _ _ | exact T.out _ _
end Go.Proofs.Ytejeepmcoafdcaa
