/-
  The walks of perms.May, of the reference's Settle (a loop over twelve bits) and May. Conditions: the arguments are ints.
-/
import Derived.Test.YtbkclmpopofebaaSettleWalk
namespace Go.Proofs.Ytbkclmpopofebaa
open Go.RowKit

theorem ret_int {k : IntKind} {a b : Int} (h : a = b) : Ending.returned (.int k a) = .returned (.int k b) := by rw [h]

set_option maxHeartbeats 800000 in
theorem refSettle_calls (m u : Int) (k : Bool) (w : World) :
    Calls Try.prog 10 #[.int .i64 m, .int .i64 u, .bool k] w fun e w' => e = .returned (.int .i64 (settle m u k)) ∧ w = w' := by
  cases k
  all_goals
    go_enter Try.func10, Try.ntmps10
    go_wp2
  · go_loop [7, 8] (fun o i => ∃ n : Nat, n ≤ 12 ∧ i = .int .i64 n ∧ o = .int .i64 (refAt m u false n)) (fun _ i => 12 - (intOf i).toNat)
    case atStart => exact ⟨0, by omega, rfl, by rw [refAt_zero]⟩
    case round =>
      obtain ⟨n, hn, rfl, rfl⟩ := hrel
      by_cases hlt : n < 12
      · go_wp2
        all_goals
          refine ⟨⟨n + 1, by omega, by go_num, ?_⟩, by simp [intOf]; omega⟩
          refine congrArg _ ?_
          first
            | exact ref_a hlt (by assumption)
            | exact ref_b hlt (by assumption) (by assumption)
            | exact ref_c hlt (by first | exact Or.inl (by assumption) | exact Or.inr (by assumption))
            | exact ref_d hlt (by assumption) (by intro _; first | assumption | omega) (by intro _; first | rfl | omega)
      · have e : n = 12 := by omega
        subst e
        go_wp2
        go_ret
        exact ⟨ret_int (refAt_end m u false), rfl⟩
  · go_loop [7, 8] (fun o i => ∃ n : Nat, n ≤ 12 ∧ i = .int .i64 n ∧ o = .int .i64 (refAt m u true n)) (fun _ i => 12 - (intOf i).toNat)
    case atStart => exact ⟨0, by omega, rfl, by rw [refAt_zero]⟩
    case round =>
      obtain ⟨n, hn, rfl, rfl⟩ := hrel
      by_cases hlt : n < 12
      · go_wp2
        all_goals
          refine ⟨⟨n + 1, by omega, by go_num, ?_⟩, by simp [intOf]; omega⟩
          refine congrArg _ ?_
          first
            | exact ref_a hlt (by assumption)
            | exact ref_b hlt (by assumption) (by assumption)
            | exact ref_d hlt (by assumption) (by intro _; first | assumption | omega) (by intro _; rfl)
      · have e : n = 12 := by omega
        subst e
        go_wp2
        go_ret
        exact ⟨ret_int (refAt_end m u true), rfl⟩

theorem may_calls (m n : Int) (w : World) :
    Calls Try.prog 9 #[.int .i64 m, .int .i64 n] w fun e w' => e = .returned (.bool (mayB m n)) ∧ w = w' := by
  go_enter Try.func9, Try.ntmps9
  go_wp2
  go_ret
  exact ⟨rfl, rfl⟩
theorem refMay_calls (m n : Int) (hn : -9223372036854775808 ≤ n ∧ n ≤ 9223372036854775807) (w : World) :
    Calls Try.prog 11 #[.int .i64 m, .int .i64 n] w fun e w' => e = .returned (.bool (mayB m n)) ∧ w = w' := by
  go_enter Try.func11, Try.ntmps11
  go_wp2
  go_ret
  have e : mayB m n = (bits .andNot .i64 n m == 0) := (may_eq m n).resolve_right (fun h => h hn)
  exact ⟨by rw [e]; rfl, rfl⟩

end Go.Proofs.Ytbkclmpopofebaa
