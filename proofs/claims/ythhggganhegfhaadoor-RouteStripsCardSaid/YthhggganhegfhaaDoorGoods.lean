/-
  The walks of strings.IndexAny at a stroke and a NUL, and of Good on both sides: every text.
-/
import Derived.Test.YthhggganhegfhaaDoorGood
import Derived.Lib.IndexAny
import Derived.Lib.IndexBytes
namespace Go.Proofs.YthhggganhegfhaaDoor
open Go.RowKit
set_option linter.unusedVariables false

theorem decode_wide (s : ByteArray) (pos : Nat) (h : pos < s.size) (ha : 128 ≤ (s[pos]'h).toNat) :
    pos + (Utf8.decode s pos).2 ≤ s.size ∧ ∀ k, k < (Utf8.decode s pos).2 → 128 ≤ (s.get! (pos + k)).toNat := by
  have hn : ¬ (s[pos]'h).toNat < 128 := by omega
  have h0 : 128 ≤ (s.get! (pos + 0)).toNat := by rw [get_at s pos h]; exact ha
  have hk : ∀ k, k = 0 ∨ k = 1 ∨ k = 2 ∨ k = 3 ∨ 4 ≤ k := fun k => by omega
  simp only [Utf8.decode, get_at s pos h, hn, if_false]
  repeat' split
  all_goals (refine ⟨?_, fun k hlt => ?_⟩)
  all_goals simp only [Bool.and_eq_true, beq_iff_eq, decide_eq_true_eq] at *
  all_goals first
    | omega
    | (rcases hk k with rfl | rfl | rfl | rfl | hk <;> omega)

def sepB (b : UInt8) : Bool := b == 47 || b == 0
/-- what Good answers -/
def goodB (s : ByteArray) : Bool := !(s.data.toList.isEmpty || (s.data.toList == [46]) || (s.data.toList == [46, 46])) && decide (s.size ≤ 255) && !(s.data.toList.any sepB)
theorem ch2_contains (b : UInt8) : ([47, 0] : List UInt8).contains b = sepB b := by
  unfold sepB
  simp only [List.contains_cons, List.contains_nil, Bool.or_false]
theorem any_of_index {l : List UInt8} : decide (0 ≤ Lib.indexAny l [47, 0]) = l.any sepB := by
  induction l with
  | nil => rfl
  | cons b l ih =>
    rw [Lib.indexAny, ch2_contains, List.any_cons]
    cases h : sepB b
    · have hge := Lib.indexAny_ge [47, 0] l
      rw [← ih, Bool.false_or, if_neg (by simp)]
      by_cases e : Lib.indexAny l [47, 0] = -1
      · rw [if_pos (by simpa using e), e]
      · rw [if_neg (by simpa using e)]
        have h1 : 0 ≤ Lib.indexAny l [47, 0] := by omega
        rw [decide_eq_true h1, decide_eq_true (by omega)]
    · simp

theorem index_ch2 (b : UInt8) (h : sepB b = false) : Lib.indexByte [47, 0] b = -1 := by
  have := Lib.contains_iff_indexByte [47, 0] b
  rw [ch2_contains, h] at this
  have h2 := of_decide_eq_false this.symm
  have := Lib.indexByte_ge [47, 0] b
  omega
theorem index_ch2_hit (b : UInt8) (h : sepB b = true) : 0 ≤ Lib.indexByte [47, 0] b := by
  have := Lib.contains_iff_indexByte [47, 0] b
  rw [ch2_contains, h] at this
  exact of_decide_eq_true this.symm

theorem shouldUse_calls (n : Int) (w : World) : Calls Tryd.prog 53 #[.int .i64 n] w fun e w' => e = .returned (.bool (decide (8 < n))) ∧ w' = w := by
  go_enter Tryd.func53, Tryd.ntmps53
  go_wp2
  go_ret
  exact ⟨rfl, rfl⟩

set_option maxHeartbeats 8000000 in
set_option maxRecDepth 1000000 in
/-- of at most eight bytes: rune by rune -/
theorem indexAny_short (s : ByteArray) (w : World) (h8 : s.size ≤ 8) :
    Calls Tryd.prog 43 #[.string s, .string ch2] w fun e w' => ∃ r : Int, e = .returned (.int .i64 r) ∧ decide (0 ≤ r) = s.data.toList.any sepB ∧ Below w.heap.size w w' := by
  have hl : s.data.toList.length = s.size := Array.length_toList
  have hget : ∀ i (hi : i < s.size), s.get! i = s[i]'hi := fun i hi => by have := get_at s i hi; simpa using this
  have NONE := Lib.hid (show (∀ j, j < s.size → sepB (s.get! j) = false) → s.data.toList.any sepB = false from fun h => by
    refine List.any_eq_false.2 fun x hx => ?_
    obtain ⟨i, hi, rfl⟩ := List.getElem_of_mem hx
    have := h i (by omega)
    rw [hget i (by omega)] at this
    have e : s.data.toList[i] = s[i]'(by omega) := rfl
    rw [e, this]; simp)
  have HIT := Lib.hid (show ∀ i (hi : i < s.size), sepB (s[i]'hi) = true → s.data.toList.any sepB = true from fun i hi h => by
    refine List.any_eq_true.2 ⟨s[i]'hi, ?_, h⟩
    have : s[i]'hi = s.data.toList[i]'(by omega) := rfl
    rw [this]
    exact List.getElem_mem _)
  have hget' := Lib.hid hget
  clear hl hget
  have IA := Lib.hid (fun (b : UInt8) wz (hb : (b.toNat : Int) < 128) => Tryd.strings_IndexRune_ascii ch2 (b.toNat : Int) wz (by omega) hb)
  have IH := Lib.hid (fun (r : Nat) wz (h1 : 128 ≤ r) (h2 : r ≤ 2147483647) => indexRune_high r h1 h2 wz)
  have h8z : decide ((8 : Int) < (s.size : Int)) = false := decide_eq_false (by omega)
  have hc1 : ((ch2.size : Int) == 1) = false := rfl
  have hc0 : ch2.toList.isEmpty = false := by rw [Lib.toList_data]; rfl
  have DW := Lib.hid (fun i (hi : i < s.size) (ha : 128 ≤ (s[i]'hi).toNat) => decode_wide s i hi ha)
  have DH := Lib.hid (fun i (hi : i < s.size) (ha : 128 ≤ (s[i]'hi).toNat) => decode_high s i hi ha)
  have DL := Lib.hid (fun i => decode_le s i)
  go_enter Tryd.func43, Tryd.ntmps43
  go_wp2_with fail
  refine (shouldUse_calls _ _).mono ?_
  rintro e w' ⟨rfl, rfl⟩
  rw [h8z]
  go_wp2_with fail
  go_loopg [9, 10] s.size (fun g _ _ wx => ∃ i : Nat, i ≤ s.size ∧ s.size - i ≤ g ∧ wx.heap[w'.heap.size]? = some (.stringIter s i) ∧ Hid (Below w'.heap.size w' wx) ∧ Hid (∀ j, j < i → sepB (s.get! j) = false))
  case atStart => exact ⟨0, Nat.zero_le _, by omega, World.iter_heap _ _ _, Lib.hid ((Below.refl _ _).alloc (Nat.le_refl _) _), Lib.hid fun j hj => absurd hj (Nat.not_lt_zero _)⟩
  case round =>
    obtain ⟨i, hi, hg, hkx, B, HN⟩ := hrel
    rename World => wx
    by_cases hlt : i < s.size
    · have HK := Lib.hid hkx
      by_cases ha : (s[i]'hlt).toNat < 128
      · have hnx := fun ty => Lib.run_next_ascii_at (P := Tryd.prog) wx w'.heap.size s i ty hkx hlt ha
        have K1 := Lib.hid (Lib.iterAt_heap wx w'.heap.size s i (i + 1) hkx)
        have B1 := Lib.hid (Lib.below_iterAt B.out (Nat.le_refl _) s (i + 1))
        have hx := hget'.out i hlt
        have HS := Lib.hid (HIT.out i hlt)
        obtain ⟨x, hxe⟩ : ∃ x, s[i]'hlt = x := ⟨_, rfl⟩
        rw [hxe] at hnx ha hx HS
        have HX := Lib.hid hx
        clear hkx hx hxe
        have ha' : (x.toNat : Int) < 128 := by omega
        cases hb : sepB x
        · have hin := index_ch2 x hb
          have IX := Lib.hid (IA.out x (wx.iterAt w'.heap.size s (i + 1)) ha')
          have HBB := Lib.hid hb
          have HI1 := Lib.hid (show Lib.indexByte ch2.data.toList (x.toNat : Int).toNat.toUInt8 = -1 by simpa [ch2] using hin)
          clear hb hin
          go_wp2_with fail
          refine IX.out.mono ?_
          rintro e w2 ⟨rfl, rfl⟩
          rw [HI1.out]
          go_wp2
          go_roundg (s.size - (i + 1))
          case measure => omega
          case rel =>
            refine ⟨i + 1, by omega, Nat.le_refl _, K1.out, B1, Lib.hid fun j hj => ?_⟩
            by_cases e : j = i
            · subst e; rw [HX.out]; exact HBB.out
            · exact HN.out j (by omega)
        · have hin := index_ch2_hit x hb
          have IX := Lib.hid (IA.out x (wx.iterAt w'.heap.size s (i + 1)) ha')
          have HA := Lib.hid (HS.out hb)
          have hin' : 0 ≤ Lib.indexByte ch2.data.toList (x.toNat : Int).toNat.toUInt8 := by simpa [ch2] using hin
          generalize Lib.indexByte ch2.data.toList (x.toNat : Int).toNat.toUInt8 = q at hin' IX
          clear hb hin
          go_wp2_with fail
          refine IX.out.mono ?_
          rintro e w2 ⟨rfl, rfl⟩
          go_wp2
          go_ret
          exact ⟨_, rfl, by rw [HA.out]; exact decide_eq_true (by omega), B1.out⟩
      · have ha2 : 128 ≤ (s[i]'hlt).toNat := by omega
        have hnx := fun ty => Lib.run_next_any_at (P := Tryd.prog) wx w'.heap.size s i ty hkx hlt
        have K1 := Lib.hid (fun p => Lib.iterAt_heap wx w'.heap.size s i p hkx)
        have B1 := Lib.hid (fun p => Lib.below_iterAt B.out (Nat.le_refl _) s p)
        obtain ⟨dw1, dw2⟩ := DW.out i hlt ha2
        obtain ⟨dh1, dh2⟩ := DH.out i hlt ha2
        have dl := DL.out i
        generalize (Utf8.decode s i).1 = r at *
        generalize (Utf8.decode s i).2 = wd at *
        have DW2 := Lib.hid dw2
        have IX := Lib.hid (IH.out r (wx.iterAt w'.heap.size s (i + wd)) dh1 dl)
        clear hkx dw2 ha
        go_wp2_with fail
        refine IX.out.mono ?_
        rintro e w2 ⟨rfl, hb2⟩
        have B2 := Lib.hid ((B1.out (i + wd)).trans (hb2.mono (B1.out (i + wd)).size))
        have K2 := Lib.hid (show w2.heap[w'.heap.size]? = some (.stringIter s (i + wd)) by
          have h1 := K1.out (i + wd)
          rw [hb2.block _ (Array.getElem?_eq_some_iff.1 h1).1]; exact h1)
        clear hb2
        go_wp2
        go_roundg (s.size - (i + wd))
        case measure => omega
        case rel =>
          refine ⟨i + wd, by omega, Nat.le_refl _, K2.out, B2, Lib.hid fun j hj => ?_⟩
          by_cases e : j < i
          · exact HN.out j e
          · have := DW2.out (j - i) (by omega)
            rw [show i + (j - i) = j by omega] at this
            generalize s.get! j = y at this
            unfold sepB
            have h1 : y ≠ 47 := by rintro rfl; simp at this
            have h2 : y ≠ 0 := by rintro rfl; simp at this
            simp [h1, h2]
    · obtain rfl : i = s.size := by omega
      have hnx := fun ty => Lib.run_next_end_at (P := Tryd.prog) wx w'.heap.size s s.size ty hkx (by omega)
      have HA := Lib.hid (NONE.out HN.out)
      clear hkx
      go_wp2
      go_ret
      exact ⟨-1, rfl, by rw [HA.out]; rfl, B.out⟩

theorem indexAny_calls (s : ByteArray) (w : World) (hs : s.size < 4294967281) :
    Calls Tryd.prog 43 #[.string s, .string ch2] w fun e w' => ∃ r : Int, e = .returned (.int .i64 r) ∧ decide (0 ≤ r) = s.data.toList.any sepB ∧ Below w.heap.size w w' := by
  by_cases h8 : s.size ≤ 8
  · exact indexAny_short s w h8
  · refine (Tryd.strings_IndexAny_long (fun w => by kernel_rfl) s ch2 w (by decide) (by omega) hs (by decide) (fun j b hb => ?_)).mono ?_
    · have hb' : ([47, 0] : List UInt8)[j]? = some b := hb
      match j, hb' with
      | 0, h => simp at h; subst h; decide
      | 1, h => simp at h; subst h; decide
    · rintro e w' ⟨rfl, rfl⟩
      exact ⟨_, rfl, any_of_index, ((Below.refl _ _).alloc (Nat.le_refl _) _).alloc (by simp) _⟩

theorem containsAny_calls (s : ByteArray) (w : World) (hs : s.size < 4294967281) :
    Calls Tryd.prog 36 #[.string s, .string ⟨#[47, 0]⟩] w fun e w' => e = .returned (.bool (s.data.toList.any sepB)) ∧ Below w.heap.size w w' := by
  have HI := Lib.hid (indexAny_calls s w hs)
  unfold ch2 at HI
  generalize s.data.toList.any sepB = q at *
  go_enter Tryd.func36, Tryd.ntmps36
  go_wp2_with fail
  refine HI.out.mono ?_
  rintro e w1 ⟨r, rfl, hr, hb⟩
  go_wp2
  go_ret
  exact ⟨by rw [← hr]; rfl, hb⟩

set_option maxHeartbeats 2000000 in
theorem good_calls (s : ByteArray) (w : World) : Calls Tryd.prog 26 #[.string s] w fun e w' => e = .returned (.bool (goodB s)) ∧ Below w.heap.size w w' := by
  have hg : goodB s = (!(s.toList.isEmpty || (s.toList == [46]) || (s.toList == [46, 46])) && decide (s.size ≤ 255) && !(s.data.toList.any sepB)) := by
    unfold goodB; rw [Lib.toList_data]
  rw [hg]
  clear hg
  cases h1 : s.toList.isEmpty
  · cases h2 : (s.toList == [46])
    · cases h3 : (s.toList == [46, 46])
      · by_cases hs : s.size ≤ 255
        · have hs' : decide (s.size ≤ 255) = true := decide_eq_true hs
          have hz : decide ((s.size : Int) ≤ 255) = true := decide_eq_true (by omega)
          have HI := Lib.hid (containsAny_calls s w (by omega))
          rw [hs']
          generalize s.data.toList.any sepB = q at *
          go_enter Tryd.func26, Tryd.ntmps26
          go_wp2_with fail
          refine HI.out.mono ?_
          rintro e w1 ⟨rfl, hb⟩
          cases q
          all_goals go_wp2
          all_goals go_ret
          all_goals exact ⟨rfl, hb⟩
        · have hs' : decide (s.size ≤ 255) = false := decide_eq_false hs
          have hz : ¬ ((s.size : Int) ≤ 255) := by omega
          rw [hs']
          go_enter Tryd.func26, Tryd.ntmps26
          go_wp2
          go_ret
          exact ⟨rfl, Below.refl _ _⟩
      all_goals go_enter Tryd.func26, Tryd.ntmps26
      all_goals go_wp2
      all_goals go_ret
      all_goals exact ⟨rfl, Below.refl _ _⟩
    all_goals go_enter Tryd.func26, Tryd.ntmps26
    all_goals go_wp2
    all_goals go_ret
    all_goals exact ⟨rfl, Below.refl _ _⟩
  all_goals go_enter Tryd.func26, Tryd.ntmps26
  all_goals go_wp2
  all_goals go_ret
  all_goals exact ⟨rfl, Below.refl _ _⟩
end Go.Proofs.YthhggganhegfhaaDoor
