/-
  The walks of route.Good and of the document's Good: every text.
-/
import Derived.Test.YthhggganhegfhaaDoorShelf
import Derived.Test.YthhggganhegfhaaDoorCopySame
import Derived.Test.YthhggganhegfhaaDoorIndexByte
import Derived.Laws.RangeAny
import Derived.Laws.Cover4
import Derived.Laws.Runes
import Derived.Lib.OthersKept
import Derived.WalkMore
namespace Go.Proofs.YthhggganhegfhaaDoor
open Go.RowKit

def ch2 : ByteArray := ⟨#[47, 0]⟩
/-- a rune of several bytes -/
theorem enc_high (r : Int) (h : 128 ≤ r) : (∃ a b : UInt8, Utf8.encode r = ⟨#[a, b]⟩ ∧ 128 ≤ b.toNat) ∨ (∃ a b c : UInt8, Utf8.encode r = ⟨#[a, b, c]⟩) ∨ ∃ a b c d : UInt8, Utf8.encode r = ⟨#[a, b, c, d]⟩ := by
  have hc : ∃ c : Nat, (if Utf8.valid r then r.toNat else Utf8.runeError) = c ∧ 128 ≤ c := by
    refine ⟨_, rfl, ?_⟩
    split
    · omega
    · decide
  obtain ⟨c, e, hc⟩ := hc
  unfold Utf8.encode
  simp only [e]
  have h0 : ¬ c < 128 := by omega
  simp only [h0, if_false]
  split
  · refine .inl ⟨_, _, rfl, ?_⟩
    simp
    omega
  · split
    · exact .inr (.inl ⟨_, _, _, rfl⟩)
    · exact .inr (.inr ⟨_, _, _, _, rfl⟩)

theorem indexByte_none (s : ByteArray) (c : Int) (hs : s.data.toList = []) (w : World) :
    Calls Tryd.prog 29 #[.string s, .int .u8 c] w fun e w' => e = .returned (.int .i64 (-1)) ∧ w = w' := by
  have := indexByte_calls s c w
  rw [hs] at this
  exact this
theorem then_ret {K : Act → World → Prop} {Q : Exit → Act → World → Prop} {a : Act} {w : World} : Exit.then K Q .ret a w = Q .ret a w := rfl
theorem inBlock_ret {n : Nat} {Q : Exit → Act → World → Prop} {a : Act} {w : World} : Exit.inBlock n Q .ret a w = Q .ret a w := rfl
theorem validRune_calls (r : Int) (w : World) : Calls Tryd.prog 64 #[.int .i32 r] w fun e w' => (∃ b, e = .returned (.bool b)) ∧ w' = w := by
  go_enter Tryd.func64, Tryd.ntmps64
  go_wp2
  all_goals go_ret
  all_goals first | exact ⟨Or.inl rfl, rfl⟩ | exact ⟨Or.inr rfl, rfl⟩ | exact ⟨⟨_, rfl⟩, rfl⟩

set_option maxHeartbeats 8000000 in
set_option maxRecDepth 1000000 in
theorem indexRune_high2 (r : Nat) (h : 128 ≤ r) (hr : r ≤ 2147483647) (hre : ((r : Int) == 65533) = false) (a b : UInt8) (he : Utf8.encode r = ⟨#[a, b]⟩) (hb : 128 ≤ b.toNat) (w : World) :
    Calls Tryd.prog 52 #[.string ch2, .int .i32 r] w fun e w' => e = .returned (.int .i64 (-1)) ∧ Below w.heap.size w w' := by
  have h1 : (0 : Int) ≤ (r : Int) := by omega
  have h2 : ¬ ((r : Int) < 128) := by omega
  have hcv := fun w => run_convert_int_string (P := Tryd.prog) w 21 9 .i32 r (by rw [Tryd.underlying21]; rfl) Tryd.underlying9
  rw [he] at hcv
  have hV := Lib.hid (validRune_calls r w)
  unfold ch2
  go_enter Tryd.func52, Tryd.ntmps52
  go_wp2_with fail
  refine hV.out.mono ?_
  rintro e w' ⟨⟨bb, rfl⟩, rfl⟩
  cases bb
  · go_wp2
    go_ret
    exact ⟨rfl, Below.refl _ _⟩
  · go_wp2_with fail
    go_step3
    go_wp2_with fail
    go_loopg [9, 10, 11, 12] 0 (fun _ s9 s10 _ _ wr => s9 = .int .i64 1 ∧ s10 = .int .i64 0 ∧ wr = w')
    case atStart => exact ⟨rfl, rfl, rfl⟩
    case round =>
      obtain ⟨rfl, rfl, rfl⟩ := hrel
      have hbc : (((((⟨#[47, 0]⟩ : ByteArray)[1]'(by decide)).toNat : Nat) : Int) != ((((⟨#[a, b]⟩ : ByteArray)[1]'(by simp [ByteArray.size])).toNat : Nat) : Int)) = true := by
        show (((0 : UInt8).toNat : Int) != (b.toNat : Int)) = true
        have : ((0 : UInt8).toNat : Int) = 0 := rfl
        rw [this]
        exact bne_iff_ne.2 (by omega)
      go_wp2_with fail
      go_step3
      go_wp2_with fail
      go_region
      go_wp2_with fail
      go_region_with (go_at_call 29; refine (indexByte_none _ _ (by first | rfl | decide | simp) _).mono ?_; rintro e w2 ⟨rfl, rfl⟩)
      all_goals go_wp2
      all_goals simp only [Exit.noGoto_ret, then_ret, inBlock_ret]
      all_goals go_ret
      all_goals exact ⟨rfl, by first | exact (Below.refl _ _).drew.drew | exact (Below.refl _ _).drew | exact (Below.refl _ _).drew.drew.drew⟩


set_option maxHeartbeats 8000000 in
set_option maxRecDepth 1000000 in
theorem indexRune_high3 (r : Nat) (h : 128 ≤ r) (hr : r ≤ 2147483647) (hre : ((r : Int) == 65533) = false) (rs : ByteArray) (he : Utf8.encode r = rs) (hb : 3 ≤ rs.size) (hb2 : rs.size ≤ 4) (w : World) :
    Calls Tryd.prog 52 #[.string ch2, .int .i32 r] w fun e w' => e = .returned (.int .i64 (-1)) ∧ Below w.heap.size w w' := by
  have h1 : (0 : Int) ≤ (r : Int) := by omega
  have h2 : ¬ ((r : Int) < 128) := by omega
  have hcv := fun w => run_convert_int_string (P := Tryd.prog) w 21 9 .i32 r (by rw [Tryd.underlying21]; rfl) Tryd.underlying9
  rw [he] at hcv
  have hV := Lib.hid (validRune_calls r w)
  unfold ch2
  go_enter Tryd.func52, Tryd.ntmps52
  go_wp2_with fail
  refine hV.out.mono ?_
  rintro e w' ⟨⟨bb, rfl⟩, rfl⟩
  cases bb
  · go_wp2
    go_ret
    exact ⟨rfl, Below.refl _ _⟩
  · go_wp2_with fail
    go_step3
    go_wp2_with fail
    go_loopg [9, 10, 11, 12] 0 (fun _ s9 s10 _ _ wr => s9 = .int .i64 ((rs.size : Int) - 1) ∧ s10 = .int .i64 0 ∧ wr = w')
    case atStart => exact ⟨rfl, rfl, rfl⟩
    case round =>
      obtain ⟨rfl, rfl, rfl⟩ := hrel
      have hge : ¬ ((rs.size : Int) - 1 < 2) := by omega
      go_wp2
      show bodyPost Tryd.prog Tryd.f52 _ Exit.ret _ _
      go_ret
      exact ⟨rfl, Below.refl _ _⟩

set_option maxHeartbeats 8000000 in
set_option maxRecDepth 1000000 in
theorem indexRune_err (w : World) :
    Calls Tryd.prog 52 #[.string ch2, .int .i32 65533] w fun e w' => e = .returned (.int .i64 (-1)) ∧ Below w.heap.size w w' := by
  have hn1 := fun ty => run_next_ascii (P := Tryd.prog) w ⟨#[47, 0]⟩ 0 ty (by decide) (by decide)
  have hn2 := fun ty => run_next_ascii (P := Tryd.prog) w ⟨#[47, 0]⟩ 1 ty (by decide) (by decide)
  have hn3 := fun ty => run_next_end (P := Tryd.prog) w ⟨#[47, 0]⟩ 2 ty (by decide)
  unfold ch2
  go_enter Tryd.func52, Tryd.ntmps52
  go_wp2_with fail
  go_loopg [5, 6] 2 (fun g _ _ wx => ∃ i : Nat, i + g = 2 ∧ wx = w.iter ⟨#[47, 0]⟩ i)
  case atStart => exact ⟨0, rfl, rfl⟩
  case round =>
    obtain ⟨i, hi, rfl⟩ := hrel
    have hii : i = 0 ∨ i = 1 ∨ i = 2 := by omega
    rcases hii with rfl | rfl | rfl
    · go_wp2
      go_roundg 1
      case measure => omega
      case rel => exact ⟨1, rfl, rfl⟩
    · go_wp2
      go_roundg 0
      case measure => omega
      case rel => exact ⟨2, rfl, rfl⟩
    · go_wp2
      go_ret
      exact ⟨rfl, (Below.refl _ _).alloc (Nat.le_refl _) _⟩

theorem indexRune_high (r : Nat) (h : 128 ≤ r) (hr : r ≤ 2147483647) (w : World) :
    Calls Tryd.prog 52 #[.string ch2, .int .i32 r] w fun e w' => e = .returned (.int .i64 (-1)) ∧ Below w.heap.size w w' := by
  by_cases he : r = 65533
  · subst he; exact indexRune_err w
  · have hre : ((r : Int) == 65533) = false := beq_eq_false_iff_ne.2 (by omega)
    rcases enc_high r (by omega) with ⟨a, b, e, hb⟩ | ⟨a, b, c, e⟩ | ⟨a, b, c, d, e⟩
    · exact indexRune_high2 r h hr hre a b e hb w
    · exact indexRune_high3 r h hr hre _ e (by simp [ByteArray.size]) (by simp [ByteArray.size]) w
    · exact indexRune_high3 r h hr hre _ e (by simp [ByteArray.size]) (by simp [ByteArray.size]) w
end Go.Proofs.YthhggganhegfhaaDoor
