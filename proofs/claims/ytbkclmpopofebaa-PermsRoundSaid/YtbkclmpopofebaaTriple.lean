/-
  The walk of perms.triple, over a string of three bytes. Conditions: the third argument is a byte of at least 32.
-/
import Derived.Test.YtbkclmpopofebaaIndexByte
namespace Go.Proofs.Ytbkclmpopofebaa
open Go.RowKit

def triA (a : Int) : Option Int := bif a == 114 then some (bits .or .i64 0 4) else bif a != 45 then none else some 0
def triB (x b : Int) : Option Int := bif b == 119 then some (bits .or .i64 x 2) else bif b != 45 then none else some x
def triC (x c sm : Int) : Option (Int × Bool) :=
  bif c == 45 then some (x, false) else bif c == 120 then some (bits .or .i64 x 1, false) else bif c == sm then some (bits .or .i64 x 1, true) else bif c == sm - 32 then some (x, true) else none
def tri (a b c sm : Int) : Option (Int × Bool) := (triA a).bind fun x => (triB x b).bind fun y => triC y c sm
def triEnd : Option (Int × Bool) → Value
  | some (x, s) => .tuple #[.int .i64 x, .bool s, .bool true]
  | none => .tuple #[.int .i64 0, .bool false, .bool false]

set_option maxHeartbeats 1000000 in
theorem triple_calls (s : ByteArray) (h3 : 2 < s.size) (sm : Int) (hsm : 32 ≤ sm ∧ sm ≤ 255) (w : World) :
    Calls Try.prog 18 #[.string s, .int .u8 sm] w fun e w' => e = .returned (triEnd (tri ((s[0]).toNat : Int) ((s[1]).toNat : Int) ((s[2]).toNat : Int) sm)) ∧ w' = w := by
  go_enter Try.func18, Try.ntmps18
  go_wp2
  all_goals
    go_ret3
    refine ⟨?_, rfl⟩
    simp [tri, triA, triB, triC, triEnd, *]
end Go.Proofs.Ytbkclmpopofebaa
