/-
  The first line of each law of names: one call whose answer the document fixes; and Split as the laws meet it.
-/
import Derived.Test.YthhggganhegfhaaDoorRefSplit
import Derived.Test.YthhggganhegfhaaDoorTargetKit
namespace Go.Proofs.YthhggganhegfhaaDoor
open Go.ChangeShapes Go.WideShapes Go.ChangeAt Go.RowKit
set_option linter.unusedVariables false

theorem int_bounds {n : Int} (h : (Lit.int .i64 n).wf = true) : -9223372036854775808 ≤ n ∧ n ≤ 9223372036854775807 := by
  simpa [Lit.wf, IntKind.min, IntKind.max, IntKind.signed, IntKind.bits] using h
theorem splitP_ab : splitP ⟨#[46, 47, 97, 47, 47, 98, 47]⟩ 10 4 = ([⟨#[97]⟩, ⟨#[98]⟩], 0) := by
  have e : pieces ⟨#[46, 47, 97, 47, 47, 98, 47]⟩ = [⟨#[46]⟩, ⟨#[97]⟩, ⟨#[]⟩, ⟨#[98]⟩, ⟨#[]⟩] := by decide
  have e2 : ([⟨#[46]⟩, ⟨#[97]⟩, ⟨#[]⟩, ⟨#[98]⟩, ⟨#[]⟩] : List ByteArray).filter keepB = [⟨#[97]⟩, ⟨#[98]⟩] := by
    simp [List.filter, keepB_data']
  unfold splitP
  rw [if_neg (by decide), if_neg (by decide), if_neg (by decide), if_neg (by decide), e, e2]
  decide

theorem rAlive_calls (w : World) : Calls Tryd.prog 19 #[] w (Holds w) := by
  have hs := splitP_calls ⟨#[46, 47, 97, 47, 47, 98, 47]⟩ 10 4 w (by decide)
  rw [splitP_ab] at hs
  have HS := Lib.hid hs
  clear hs
  go_enter Tryd.func19, Tryd.ntmps19
  go_wp2_with fail
  refine HS.out.mono ?_
  rintro e w1 ⟨ao, cap, rfl, ho, hb⟩
  have O := Lib.hid ho.rd'
  have B := Lib.hid hb
  clear ho hb
  go_wp2_with fail
  refine (sameTexts_calls _ _ [⟨#[97]⟩, ⟨#[98]⟩] [⟨#[97]⟩, ⟨#[98]⟩] _ (O.out.alloc _) (rd_lit w1 strE [⟨#[97]⟩, ⟨#[98]⟩] 9 _ rfl (by decide))).mono ?_
  rintro e w2 ⟨rfl, hd⟩
  go_wp2
  go_ret
  exact ⟨by simp, (B.out.alloc B.out.size _).trans (hd.below _)⟩
end Go.Proofs.YthhggganhegfhaaDoor
