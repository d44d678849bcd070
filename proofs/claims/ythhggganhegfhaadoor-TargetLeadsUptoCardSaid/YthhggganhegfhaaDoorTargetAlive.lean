/-
  The first line of each law of links: one call whose answer the document fixes.
-/
import Derived.Test.YthhggganhegfhaaDoorTargetKit
namespace Go.Proofs.YthhggganhegfhaaDoor
open Go.ChangeShapes Go.WideShapes Go.ChangeAt Go.RowKit
set_option linter.unusedVariables false

theorem keepB_data (p : ByteArray) : keepB p = !(p.data.toList.isEmpty || (p.data.toList == [46])) := by
  unfold keepB; rw [Lib.toList_data]
theorem isUp_data (p : ByteArray) : isUp p = (p.data.toList == [46, 46]) := by
  unfold isUp; rw [Lib.toList_data]
theorem symP_dx : symP [⟨#[100]⟩] ⟨#[46, 46, 47, 120]⟩ 1 99 = ([⟨#[120]⟩], 0) := by
  have e : pieces ⟨#[46, 46, 47, 120]⟩ = [⟨#[46, 46]⟩, ⟨#[120]⟩] := by decide
  unfold symP
  rw [if_neg (by simp), if_neg (by decide), if_neg (by decide), if_neg (by decide), if_neg (by simp), if_neg (by decide), e]
  simp [climb, keepB_data, isUp_data]

theorem alive_calls (w : World) : Calls Tryd.prog 14 #[] w (Holds w) := by
  have h1 := rd_lit w strE [⟨#[100]⟩] 9 _ rfl (by decide)
  have hs := sym_calls _ [⟨#[100]⟩] ⟨#[46, 46, 47, 120]⟩ 1 99 _ h1 (by decide) (by decide)
  rw [symP_dx] at hs
  have HS := Lib.hid hs
  clear h1 hs
  go_enter Tryd.func14, Tryd.ntmps14
  go_wp2_with fail
  refine HS.out.mono ?_
  rintro e w1 ⟨ao, cap, rfl, ho, hb⟩
  have O := Lib.hid ho.rd'
  have hb0 : Below w.heap.size w w1 := ((Below.refl w.heap.size w).alloc (Nat.le_refl _) _).trans (hb.mono (by simp))
  have B := Lib.hid hb0
  clear ho hb hb0
  go_wp2_with fail
  refine (sameTexts_calls _ _ [⟨#[120]⟩] [⟨#[120]⟩] _ (O.out.alloc _) (rd_lit w1 strE [⟨#[120]⟩] 9 _ rfl (by decide))).mono ?_
  rintro e w2 ⟨rfl, hd⟩
  go_wp2
  go_ret
  exact ⟨by simp, (B.out.alloc B.out.size _).trans (hd.below _)⟩
end Go.Proofs.YthhggganhegfhaaDoor
