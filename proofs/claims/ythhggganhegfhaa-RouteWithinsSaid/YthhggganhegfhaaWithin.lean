/-
  The walks of slices.Equal at []string, and of Within on both sides: every two lists.
-/
import Derived.Test.YthhggganhegfhaaCopySame
namespace Go.Proofs.Ythhggganhegfhaa
open Go.RowKit

/-- do the parts begin with those of dir? -/
def within (xs ys : List ByteArray) : Bool := decide (xs.length ≤ ys.length) && decide (xs = ys.take xs.length)
theorem within_nil (ys : List ByteArray) : within [] ys = true := by simp [within]
theorem within_long {xs ys : List ByteArray} (h : ¬ xs.length ≤ ys.length) : within xs ys = false := by simp [within, h]
theorem within_of {xs ys : List ByteArray} (hl : xs.length ≤ ys.length) (h : ∀ j, j < xs.length → xs.getD j ByteArray.empty = ys.getD j ByteArray.empty) : within xs ys = true := by
  have : xs = ys.take xs.length := ext_getD (by simp; omega) fun j hj => by
    rw [h j hj]
    simp [List.getD, hj]
  unfold within
  rw [decide_eq_true hl, decide_eq_true this]; rfl
theorem within_not {xs ys : List ByteArray} (k : Nat) (hk : k < xs.length) (h : ¬ xs.getD k ByteArray.empty = ys.getD k ByteArray.empty) : within xs ys = false := by
  unfold within
  by_cases hl : xs.length ≤ ys.length
  · rw [decide_eq_true hl, decide_eq_false]
    · rfl
    · intro e
      apply h
      rw [e]
      simp [List.getD, hk]
  · simp [hl]

set_option maxHeartbeats 2000000 in
theorem slicesEqual_calls (v1 v2 : Value) (xs ys : List ByteArray) (w : World) (h1 : Rd w strE v1 xs) (h2 : Rd w strE v2 ys) :
    Calls Try.prog 17 #[v1, v2] w fun e w' => e = .returned (.bool (decide (xs = ys))) ∧ Drawn w w' := by
  have l1 : xs.length ≤ 9223372036854775807 := h1.len
  have l2 : ys.length ≤ 9223372036854775807 := h2.len
  by_cases hl : xs.length = ys.length
  · rcases h1.shape ByteArray.empty with ⟨rfl, ao, c, rfl⟩ | ⟨hp, b1, o1, c1, rfl, _, _, hc1⟩
    · obtain rfl : ys = [] := List.length_eq_zero_iff.1 hl.symm
      obtain ⟨ao2, c2, rfl⟩ := h2.any
      clear hl h1 h2
      go_enter Try.func17, Try.ntmps17
      go_wp2
      go_loopg [13] 0 (fun _ s wr => s = .int .i64 0 ∧ wr = w)
      case atStart => exact ⟨rfl, rfl⟩
      case round =>
        obtain ⟨rfl, rfl⟩ := hrel
        go_wp2
        go_ret
        exact ⟨rfl, Drawn.refl _⟩
    · rcases h2.shape ByteArray.empty with ⟨rfl, _⟩ | ⟨hp2, b2, o2, c2, rfl, _, _, hc2⟩
      · simp at hl; simp [hl] at hp
      · rw [← hl] at hc2 ⊢
        clear h1 h2
        have HX := Lib.hid (ext_getD hl)
        generalize hn : xs.length = n at *
        clear hn hl
        have HC1 := Lib.hid hc1; clear hc1
        have HC2 := Lib.hid hc2; clear hc2
        go_enter Try.func17, Try.ntmps17
        go_wp2
        go_loopg [13] n (fun g s wr => ∃ k : Nat, k ≤ n ∧ n - k ≤ g ∧ s = .int .i64 k ∧ Drawn w wr ∧ ∀ j, j < k → xs.getD j ByteArray.empty = ys.getD j ByteArray.empty)
        case atStart => exact ⟨0, Nat.zero_le _, by omega, rfl, Drawn.refl _, fun j hj => absurd hj (Nat.not_lt_zero _)⟩
        case round =>
          obtain ⟨k, hk, hg, rfl, hd, heq⟩ := hrel
          have HE := Lib.hid heq; clear heq
          by_cases hlt : k < n
          · have g1 : wr.cell? ⟨b1, o1 + k, none⟩ = some (.string (xs.getD k ByteArray.empty)) := by rw [hd.cell, HC1.out k hlt]
            have g2 : wr.cell? ⟨b2, o2 + k, none⟩ = some (.string (ys.getD k ByteArray.empty)) := by rw [hd.cell, HC2.out k hlt]
            generalize hxk : xs.getD k ByteArray.empty = x at g1
            generalize hyk : ys.getD k ByteArray.empty = y at g2
            have B := Lib.hid (And.intro hxk hyk)
            clear hxk hyk
            by_cases hxy : x = y
            · subst hxy
              go_wp2_with fail
              go_region
              go_wp2
              go_roundg (n - (k + 1))
              case measure => omega
              case rel =>
                refine ⟨k + 1, by omega, by omega, by go_num, hd.drew, fun j hj => ?_⟩
                by_cases e : j = k
                · subst e
                  rw [B.out.1, B.out.2]
                · exact HE.out j (by omega)
            · have hxy' : (x.toList == y.toList) = false := (Lib.bytes_beq_false_iff _ _).2 hxy
              have HY := Lib.hid hxy; clear hxy
              go_wp2_with fail
              go_region
              go_wp2
              go_ret
              refine ⟨?_, hd.drew⟩
              rw [decide_eq_false (fun e => HY.out (by rw [← B.out.1, ← B.out.2, e]))]
              rfl
          · have : k = n := by omega
            subst this
            go_wp2
            go_ret
            refine ⟨?_, hd⟩
            rw [decide_eq_true (HX.out HE.out)]
            rfl
  · obtain ⟨ao1, c1, rfl⟩ := h1.any
    obtain ⟨ao2, c2, rfl⟩ := h2.any
    have hne : ¬ xs = ys := fun e => hl (by rw [e])
    have HNE := Lib.hid hne
    clear h1 h2 hne
    generalize xs.length = n at *
    generalize ys.length = m at *
    have hnm : ¬ (n : Int) = (m : Int) := by omega
    clear hl
    go_enter Try.func17, Try.ntmps17
    go_wp2
    go_ret
    refine ⟨?_, Drawn.refl _⟩
    rw [decide_eq_false HNE.out]
    rfl

set_option maxHeartbeats 2000000 in
theorem refWithin_calls (v1 v2 : Value) (xs ys : List ByteArray) (w : World) (h1 : Rd w strE v1 xs) (h2 : Rd w strE v2 ys) :
    Calls Try.prog 9 #[v1, v2] w fun e w' => e = .returned (.bool (within xs ys)) ∧ Drawn w w' := by
  have l1 : xs.length ≤ 9223372036854775807 := h1.len
  have l2 : ys.length ≤ 9223372036854775807 := h2.len
  by_cases hl : xs.length ≤ ys.length
  · rcases h1.shape ByteArray.empty with ⟨rfl, ao, c, rfl⟩ | ⟨hp, b1, o1, c1, rfl, _, _, hc1⟩
    · obtain ⟨ao2, c2, rfl⟩ := h2.any
      have HW := Lib.hid (within_nil ys)
      clear hl h1 h2
      generalize ys.length = m at *
      go_enter Try.func9, Try.ntmps9
      go_wp2
      go_loopg [5] 0 (fun _ s wr => s = .int .i64 0 ∧ wr = w)
      case atStart => exact ⟨rfl, rfl⟩
      case round =>
        obtain ⟨rfl, rfl⟩ := hrel
        go_wp2
        go_ret
        exact ⟨by rw [HW.out]; rfl, Drawn.refl _⟩
    · rcases h2.shape ByteArray.empty with ⟨rfl, _⟩ | ⟨hp2, b2, o2, c2, rfl, _, _, hc2⟩
      · simp at hl; simp [hl] at hp
      · clear h1 h2
        have HX := Lib.hid (within_of hl)
        have HN := Lib.hid (within_not (xs := xs) (ys := ys))
        generalize hn : xs.length = n at *
        generalize hm : ys.length = m at *
        clear hn hm
        have HC1 := Lib.hid hc1; clear hc1
        have HC2 := Lib.hid hc2; clear hc2
        go_enter Try.func9, Try.ntmps9
        go_wp2
        go_loopg [5] n (fun g s wr => ∃ k : Nat, k ≤ n ∧ n - k ≤ g ∧ s = .int .i64 k ∧ Drawn w wr ∧ ∀ j, j < k → xs.getD j ByteArray.empty = ys.getD j ByteArray.empty)
        case atStart => exact ⟨0, Nat.zero_le _, by omega, rfl, Drawn.refl _, fun j hj => absurd hj (Nat.not_lt_zero _)⟩
        case round =>
          obtain ⟨k, hk, hg, rfl, hd, heq⟩ := hrel
          have HE := Lib.hid heq; clear heq
          by_cases hlt : k < n
          · have g1 : wr.cell? ⟨b1, o1 + k, none⟩ = some (.string (xs.getD k ByteArray.empty)) := by rw [hd.cell, HC1.out k hlt]
            have g2 : wr.cell? ⟨b2, o2 + k, none⟩ = some (.string (ys.getD k ByteArray.empty)) := by rw [hd.cell, HC2.out k (by omega)]
            generalize hxk : xs.getD k ByteArray.empty = x at g1
            generalize hyk : ys.getD k ByteArray.empty = y at g2
            have B := Lib.hid (And.intro hxk hyk)
            clear hxk hyk
            by_cases hxy : x = y
            · subst hxy
              go_wp2_with fail
              go_region
              go_wp2
              go_roundg (n - (k + 1))
              case measure => omega
              case rel =>
                refine ⟨k + 1, by omega, by omega, by go_num, hd.drew, fun j hj => ?_⟩
                by_cases e : j = k
                · subst e
                  rw [B.out.1, B.out.2]
                · exact HE.out j (by omega)
            · have hxy' : (x.toList == y.toList) = false := (Lib.bytes_beq_false_iff _ _).2 hxy
              have HY := Lib.hid hxy; clear hxy
              go_wp2_with fail
              go_region
              go_wp2
              go_ret
              refine ⟨?_, hd.drew⟩
              rw [HN.out k hlt (fun e => HY.out (by rw [← B.out.1, ← B.out.2, e]))]
              rfl
          · have : k = n := by omega
            subst this
            go_wp2
            go_ret
            refine ⟨?_, hd⟩
            rw [HX.out HE.out]
            rfl
  · obtain ⟨ao1, c1, rfl⟩ := h1.any
    obtain ⟨ao2, c2, rfl⟩ := h2.any
    have HNE := Lib.hid (within_long hl)
    clear h1 h2
    generalize xs.length = n at *
    generalize ys.length = m at *
    have hnm : (m : Int) < (n : Int) := by omega
    clear hl
    go_enter Try.func9, Try.ntmps9
    go_wp2
    go_ret
    refine ⟨?_, Drawn.refl _⟩
    rw [HNE.out]
    rfl

theorem within_calls (v1 v2 : Value) (xs ys : List ByteArray) (w : World) (h1 : Rd w strE v1 xs) (h2 : Rd w strE v2 ys) :
    Calls Try.prog 7 #[v1, v2] w fun e w' => e = .returned (.bool (within xs ys)) ∧ Drawn w w' := by
  have l1 : xs.length ≤ 9223372036854775807 := h1.len
  have l2 : ys.length ≤ 9223372036854775807 := h2.len
  by_cases hl : xs.length ≤ ys.length
  · have hw : within xs ys = decide (xs = ys.take xs.length) := by simp [within, hl]
    rcases h2.shape ByteArray.empty with ⟨rfl, ao2, c2, rfl⟩ | ⟨hp2, b2, o2, c2, rfl, hc, hm, hc2⟩
    · obtain rfl : xs = [] := by simpa using hl
      obtain ⟨ao1, c1, rfl⟩ := h1.any
      have hE := slicesEqual_calls _ _ [] [] w h1 h2
      have HW := Lib.hid hw
      have HE := Lib.hid hE
      clear h1 h2 hw hE hl
      go_enter Try.func7, Try.ntmps7
      go_wp2_with fail
      refine HE.out.mono ?_
      rintro e w1 ⟨rfl, hd⟩
      go_wp2
      go_ret
      exact ⟨by rw [HW.out]; rfl, hd⟩
    · obtain ⟨ao1, c1, rfl⟩ := h1.any
      have hr : Rd w strE (.slice (some ⟨b2, o2, none⟩) xs.length c2) (ys.take xs.length) := by
        refine ⟨_, c2, by rw [List.length_take, Nat.min_eq_left hl], by rw [List.length_take]; omega, hm, (fun h => by cases h), fun _ => ⟨b2, o2, rfl, fun i hi => ?_⟩⟩
        rw [List.length_take] at hi
        rw [hc2 i (by omega)]
        simp [List.getD, List.getElem?_eq_getElem (show i < ys.length by omega)]
      have hE := slicesEqual_calls _ _ xs (ys.take xs.length) w h1 hr
      have HW := Lib.hid hw
      have HE := Lib.hid hE
      clear h1 h2 hw hE hr hc2
      generalize xs.length = n at *
      generalize ys.length = m at *
      go_enter Try.func7, Try.ntmps7
      go_wp2_with fail
      refine HE.out.mono ?_
      rintro e w1 ⟨rfl, hd⟩
      go_wp2
      go_ret
      exact ⟨by rw [HW.out]; rfl, hd⟩
  · obtain ⟨ao1, c1, rfl⟩ := h1.any
    obtain ⟨ao2, c2, rfl⟩ := h2.any
    have HNE := Lib.hid (within_long hl)
    clear h1 h2
    generalize xs.length = n at *
    generalize ys.length = m at *
    have hnm : (m : Int) < (n : Int) := by omega
    clear hl
    go_enter Try.func7, Try.ntmps7
    go_wp2
    go_ret
    refine ⟨?_, Drawn.refl _⟩
    rw [HNE.out]
    rfl
end Go.Proofs.Ythhggganhegfhaa
