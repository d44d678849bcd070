/-
  The walk of perms.Settle: it returns settle. For every world, which it leaves as it was.
-/
import Derived.Test.YtbkclmpopofebaaSettle
import Derived.Test.YtbkclmpopofebaaLaw
import Derived.WalkSpells
import Derived.WalkLawsBesides
namespace Go.Proofs.Ytbkclmpopofebaa
open Go.RowKit

theorem settle_calls (m u : Int) (k : Bool) (w : World) :
    Calls Try.prog 8 #[.int .i64 m, .int .i64 u, .bool k] w fun e w' => e = .returned (.int .i64 (settle m u k)) ∧ w = w' := by
  cases k
  · go_enter Try.func8, Try.ntmps8
    go_wp2
    go_ret
    exact ⟨by rw [← settle_drop]; rfl, rfl⟩
  · go_enter Try.func8, Try.ntmps8
    go_wp2
    go_ret
    exact ⟨by rw [← settle_keep]; rfl, rfl⟩

end Go.Proofs.Ytbkclmpopofebaa
