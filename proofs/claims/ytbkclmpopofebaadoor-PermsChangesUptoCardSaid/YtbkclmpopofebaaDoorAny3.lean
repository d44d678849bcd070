/-
  The walk of strings.IndexAny at '+', '-' and '=': every text that is not too long.
-/
import Derived.Test.YtbkclmpopofebaaDoorShelf
import Derived.Test.YtbkclmpopofebaaDoorRd
import Derived.Test.YtbkclmpopofebaaDoorLaw
import Derived.Test.YtbkclmpopofebaaDoorIndexByte
import Derived.Laws.RangeAny
import Derived.Laws.Cover4
import Derived.Laws.Runes
import Derived.Lib.OthersKept
import Derived.Lib.IndexAny
import Derived.Lib.IndexBytes
import Derived.Deep.LoopGhost
import Derived.WalkMore
namespace Go.Proofs.YtbkclmpopofebaaDoor
open Go.RowKit
set_option linter.unusedVariables false

def ch3 : ByteArray := ⟨#[43, 45, 61]⟩
def opB (b : UInt8) : Bool := b == 43 || b == 45 || b == 61
theorem ch3_contains (b : UInt8) : ([43, 45, 61] : List UInt8).contains b = opB b := by
  unfold opB
  simp only [List.contains_cons, List.contains_nil, Bool.or_false, Bool.or_assoc]
theorem index_ch3 (b : UInt8) (h : opB b = false) : Lib.indexByte [43, 45, 61] b = -1 := by
  have := Lib.contains_iff_indexByte [43, 45, 61] b
  rw [ch3_contains, h] at this
  have h2 := of_decide_eq_false this.symm
  have := Lib.indexByte_ge [43, 45, 61] b
  omega
theorem index_ch3_hit (b : UInt8) (h : opB b = true) : 0 ≤ Lib.indexByte [43, 45, 61] b := by
  have := Lib.contains_iff_indexByte [43, 45, 61] b
  rw [ch3_contains, h] at this
  exact of_decide_eq_true this.symm
theorem high_index {l : List UInt8} {b : UInt8} (hl : ∀ x ∈ l, x.toNat < 128) (hb : 128 ≤ b.toNat) : Lib.indexByte l b = -1 := by
  have := Lib.contains_iff_indexByte l b
  have hc : l.contains b = false := by
    rw [Bool.eq_false_iff]
    intro h
    have := hl b (by simpa using h)
    omega
  rw [hc] at this
  have h2 := of_decide_eq_false this.symm
  have := Lib.indexByte_ge l b
  omega
/-- where the first sign stands -/
theorem indexAny_at : ∀ (l : List UInt8) (i : Nat), i < l.length → opB (l.getD i 0) = true → (∀ j, j < i → opB (l.getD j 0) = false) → Lib.indexAny l [43, 45, 61] = (i : Int)
  | [], i, h, _, _ => by simp at h
  | b :: l, 0, _, h, _ => by
    have h' : opB b = true := h
    rw [Lib.indexAny, ch3_contains, h']; simp
  | b :: l, i + 1, hi, h, hj => by
    have h0 : opB b = false := hj 0 (by omega)
    rw [Lib.indexAny, ch3_contains, h0]
    have := indexAny_at l i (by simp at hi; omega) h (fun j hj' => hj (j + 1) (by omega))
    rw [this, if_neg (by simp), if_neg (by simp only [beq_iff_eq]; omega)]
    omega
theorem indexAny_no : ∀ (l : List UInt8), (∀ j, j < l.length → opB (l.getD j 0) = false) → Lib.indexAny l [43, 45, 61] = -1
  | [], _ => rfl
  | b :: l, h => by
    have h0 : opB b = false := h 0 (by simp)
    rw [Lib.indexAny, ch3_contains, h0, indexAny_no l (fun j hj => h (j + 1) (by simp; omega))]
    simp

/-- a rune of several bytes -/
theorem enc_high (r : Int) (h : 128 ≤ r) : (∃ a b : UInt8, Utf8.encode r = ⟨#[a, b]⟩ ∧ 128 ≤ b.toNat) ∨ (∃ a b c : UInt8, Utf8.encode r = ⟨#[a, b, c]⟩ ∧ 128 ≤ c.toNat) ∨ ∃ a b c d : UInt8, Utf8.encode r = ⟨#[a, b, c, d]⟩ := by
  have hc : ∃ c : Nat, (if Utf8.valid r then r.toNat else Utf8.runeError) = c ∧ 128 ≤ c := by
    refine ⟨_, rfl, ?_⟩
    split
    · omega
    · decide
  obtain ⟨c, e, hc⟩ := hc
  unfold Utf8.encode
  simp only [e]
  have h0 : ¬ c < 128 := by omega
  simp only [h0, if_false]
  split
  · refine .inl ⟨_, _, rfl, ?_⟩
    simp
    omega
  · split
    · refine .inr (.inl ⟨_, _, _, rfl, ?_⟩)
      simp
      omega
    · exact .inr (.inr ⟨_, _, _, _, rfl⟩)


theorem indexByte_high (s : ByteArray) (b : UInt8) (hs : ∀ x ∈ s.data.toList, x.toNat < 128) (hb : 128 ≤ b.toNat) (w : World) :
    Calls Tryd.prog 18 #[.string s, .int .u8 b.toNat] w fun e w' => e = .returned (.int .i64 (-1)) ∧ w = w' := by
  have := indexByte_calls s (b.toNat : Int) w
  have e : ((b.toNat : Int).toNat).toUInt8 = b := by simp
  rw [e, high_index hs hb] at this
  exact this
theorem then_ret {K : Act → World → Prop} {Q : Exit → Act → World → Prop} {a : Act} {w : World} : Exit.then K Q .ret a w = Q .ret a w := rfl
theorem inBlock_ret {n : Nat} {Q : Exit → Act → World → Prop} {a : Act} {w : World} : Exit.inBlock n Q .ret a w = Q .ret a w := rfl
theorem validRune_calls (r : Int) (w : World) : Calls Tryd.prog 37 #[.int .i32 r] w fun e w' => (∃ b, e = .returned (.bool b)) ∧ w' = w := by
  go_enter Tryd.func37, Tryd.ntmps37
  go_wp2
  all_goals go_ret
  all_goals first | exact ⟨Or.inl rfl, rfl⟩ | exact ⟨Or.inr rfl, rfl⟩ | exact ⟨⟨_, rfl⟩, rfl⟩

set_option maxHeartbeats 8000000 in
set_option maxRecDepth 1000000 in
theorem indexRune_high2 (r : Nat) (h : 128 ≤ r) (hr : r ≤ 2147483647) (hre : ((r : Int) == 65533) = false) (a b : UInt8) (he : Utf8.encode r = ⟨#[a, b]⟩) (hb : 128 ≤ b.toNat) (w : World) :
    Calls Tryd.prog 22 #[.string ch3, .int .i32 r] w fun e w' => e = .returned (.int .i64 (-1)) ∧ Below w.heap.size w w' := by
  have h1 : (0 : Int) ≤ (r : Int) := by omega
  have h2 : ¬ ((r : Int) < 128) := by omega
  have hcv := fun w => run_convert_int_string (P := Tryd.prog) w 21 9 .i32 r (by rw [Tryd.underlying21]; rfl) Tryd.underlying9
  rw [he] at hcv
  have hV := Lib.hid (validRune_calls r w)
  unfold ch3
  go_enter Tryd.func22, Tryd.ntmps22
  go_wp2_with fail
  refine hV.out.mono ?_
  rintro e w' ⟨⟨bb, rfl⟩, rfl⟩
  cases bb
  · go_wp2
    go_ret
    exact ⟨rfl, Below.refl _ _⟩
  · go_wp2_with fail
    go_step3
    go_wp2_with fail
    go_loopg [9, 10, 11, 12] 0 (fun _ s9 s10 _ _ wr => s9 = .int .i64 1 ∧ s10 = .int .i64 0 ∧ wr = w')
    case atStart => exact ⟨rfl, rfl, rfl⟩
    case round =>
      obtain ⟨rfl, rfl, rfl⟩ := hrel
      have hbc : (((((⟨#[43, 45, 61]⟩ : ByteArray)[1]'(by decide)).toNat : Nat) : Int) != ((((⟨#[a, b]⟩ : ByteArray)[1]'(by simp [ByteArray.size])).toNat : Nat) : Int)) = true := by
        show (((45 : UInt8).toNat : Int) != (b.toNat : Int)) = true
        have : ((45 : UInt8).toNat : Int) = 45 := rfl
        rw [this]
        exact bne_iff_ne.2 (by omega)
      go_wp2_with fail
      go_step3
      go_wp2_with fail
      go_region
      go_wp2_with fail
      go_region_with (go_at_call 18; refine (indexByte_high _ _ (by decide) hb _).mono ?_; rintro e w2 ⟨rfl, rfl⟩)
      all_goals go_wp2
      all_goals simp only [Exit.noGoto_ret, then_ret, inBlock_ret]
      all_goals go_ret
      all_goals exact ⟨rfl, by first | exact (Below.refl _ _).drew.drew | exact (Below.refl _ _).drew | exact (Below.refl _ _).drew.drew.drew⟩

set_option maxHeartbeats 8000000 in
set_option maxRecDepth 1000000 in
theorem indexRune_high3 (r : Nat) (h : 128 ≤ r) (hr : r ≤ 2147483647) (hre : ((r : Int) == 65533) = false) (a b c : UInt8) (he : Utf8.encode r = ⟨#[a, b, c]⟩) (hb : 128 ≤ c.toNat) (w : World) :
    Calls Tryd.prog 22 #[.string ch3, .int .i32 r] w fun e w' => e = .returned (.int .i64 (-1)) ∧ Below w.heap.size w w' := by
  have h1 : (0 : Int) ≤ (r : Int) := by omega
  have h2 : ¬ ((r : Int) < 128) := by omega
  have hcv := fun w => run_convert_int_string (P := Tryd.prog) w 21 9 .i32 r (by rw [Tryd.underlying21]; rfl) Tryd.underlying9
  rw [he] at hcv
  have hV := Lib.hid (validRune_calls r w)
  unfold ch3
  go_enter Tryd.func22, Tryd.ntmps22
  go_wp2_with fail
  refine hV.out.mono ?_
  rintro e w' ⟨⟨bb, rfl⟩, rfl⟩
  cases bb
  · go_wp2
    go_ret
    exact ⟨rfl, Below.refl _ _⟩
  · go_wp2_with fail
    go_step3
    go_wp2_with fail
    go_loopg [9, 10, 11, 12] 0 (fun _ s9 s10 _ _ wr => s9 = .int .i64 2 ∧ s10 = .int .i64 0 ∧ wr = w')
    case atStart => exact ⟨rfl, rfl, rfl⟩
    case round =>
      obtain ⟨rfl, rfl, rfl⟩ := hrel
      have hbc : (((((⟨#[43, 45, 61]⟩ : ByteArray)[2]'(by decide)).toNat : Nat) : Int) != ((((⟨#[a, b, c]⟩ : ByteArray)[2]'(by simp [ByteArray.size])).toNat : Nat) : Int)) = true := by
        show (((61 : UInt8).toNat : Int) != (c.toNat : Int)) = true
        have : ((61 : UInt8).toNat : Int) = 61 := rfl
        rw [this]
        exact bne_iff_ne.2 (by omega)
      go_wp2_with fail
      go_step3
      go_wp2_with fail
      go_region
      go_wp2_with fail
      go_region_with (go_at_call 18; refine (indexByte_high _ _ (by decide) hb _).mono ?_; rintro e w2 ⟨rfl, rfl⟩)
      all_goals go_wp2
      all_goals simp only [Exit.noGoto_ret, then_ret, inBlock_ret]
      all_goals go_ret
      all_goals exact ⟨rfl, by first | exact (Below.refl _ _).drew.drew | exact (Below.refl _ _).drew | exact (Below.refl _ _).drew.drew.drew⟩

set_option maxHeartbeats 8000000 in
set_option maxRecDepth 1000000 in
theorem indexRune_high4 (r : Nat) (h : 128 ≤ r) (hr : r ≤ 2147483647) (hre : ((r : Int) == 65533) = false) (rs : ByteArray) (he : Utf8.encode r = rs) (hb : 4 ≤ rs.size) (hb2 : rs.size ≤ 4) (w : World) :
    Calls Tryd.prog 22 #[.string ch3, .int .i32 r] w fun e w' => e = .returned (.int .i64 (-1)) ∧ Below w.heap.size w w' := by
  have h1 : (0 : Int) ≤ (r : Int) := by omega
  have h2 : ¬ ((r : Int) < 128) := by omega
  have hcv := fun w => run_convert_int_string (P := Tryd.prog) w 21 9 .i32 r (by rw [Tryd.underlying21]; rfl) Tryd.underlying9
  rw [he] at hcv
  have hV := Lib.hid (validRune_calls r w)
  unfold ch3
  go_enter Tryd.func22, Tryd.ntmps22
  go_wp2_with fail
  refine hV.out.mono ?_
  rintro e w' ⟨⟨bb, rfl⟩, rfl⟩
  cases bb
  · go_wp2
    go_ret
    exact ⟨rfl, Below.refl _ _⟩
  · go_wp2_with fail
    go_step3
    go_wp2_with fail
    go_loopg [9, 10, 11, 12] 0 (fun _ s9 s10 _ _ wr => s9 = .int .i64 ((rs.size : Int) - 1) ∧ s10 = .int .i64 0 ∧ wr = w')
    case atStart => exact ⟨rfl, rfl, rfl⟩
    case round =>
      obtain ⟨rfl, rfl, rfl⟩ := hrel
      have hge : ¬ ((rs.size : Int) - 1 < 3) := by omega
      go_wp2
      show bodyPost Tryd.prog Tryd.f22 _ Exit.ret _ _
      go_ret
      exact ⟨rfl, Below.refl _ _⟩

set_option maxHeartbeats 8000000 in
set_option maxRecDepth 1000000 in
theorem indexRune_err (w : World) :
    Calls Tryd.prog 22 #[.string ch3, .int .i32 65533] w fun e w' => e = .returned (.int .i64 (-1)) ∧ Below w.heap.size w w' := by
  have hn1 := fun ty => run_next_ascii (P := Tryd.prog) w ⟨#[43, 45, 61]⟩ 0 ty (by decide) (by decide)
  have hn2 := fun ty => run_next_ascii (P := Tryd.prog) w ⟨#[43, 45, 61]⟩ 1 ty (by decide) (by decide)
  have hn4 := fun ty => run_next_ascii (P := Tryd.prog) w ⟨#[43, 45, 61]⟩ 2 ty (by decide) (by decide)
  have hn3 := fun ty => run_next_end (P := Tryd.prog) w ⟨#[43, 45, 61]⟩ 3 ty (by decide)
  unfold ch3
  go_enter Tryd.func22, Tryd.ntmps22
  go_wp2_with fail
  go_loopg [5, 6] 3 (fun g _ _ wx => ∃ i : Nat, i + g = 3 ∧ wx = w.iter ⟨#[43, 45, 61]⟩ i)
  case atStart => exact ⟨0, rfl, rfl⟩
  case round =>
    obtain ⟨i, hi, rfl⟩ := hrel
    have hii : i = 0 ∨ i = 1 ∨ i = 2 ∨ i = 3 := by omega
    rcases hii with rfl | rfl | rfl | rfl
    · go_wp2
      go_roundg 2
      case measure => omega
      case rel => exact ⟨1, rfl, rfl⟩
    · go_wp2
      go_roundg 1
      case measure => omega
      case rel => exact ⟨2, rfl, rfl⟩
    · go_wp2
      go_roundg 0
      case measure => omega
      case rel => exact ⟨3, rfl, rfl⟩
    · go_wp2
      go_ret
      exact ⟨rfl, (Below.refl _ _).alloc (Nat.le_refl _) _⟩

theorem indexRune_high (r : Nat) (h : 128 ≤ r) (hr : r ≤ 2147483647) (w : World) :
    Calls Tryd.prog 22 #[.string ch3, .int .i32 r] w fun e w' => e = .returned (.int .i64 (-1)) ∧ Below w.heap.size w w' := by
  by_cases he : r = 65533
  · subst he; exact indexRune_err w
  · have hre : ((r : Int) == 65533) = false := beq_eq_false_iff_ne.2 (by omega)
    rcases enc_high r (by omega) with ⟨a, b, e, hb⟩ | ⟨a, b, c, e, hb⟩ | ⟨a, b, c, d, e⟩
    · exact indexRune_high2 r h hr hre a b e hb w
    · exact indexRune_high3 r h hr hre a b c e hb w
    · exact indexRune_high4 r h hr hre _ e (by simp [ByteArray.size]) (by simp [ByteArray.size]) w

theorem decode_wide (s : ByteArray) (pos : Nat) (h : pos < s.size) (ha : 128 ≤ (s[pos]'h).toNat) :
    pos + (Utf8.decode s pos).2 ≤ s.size ∧ ∀ k, k < (Utf8.decode s pos).2 → 128 ≤ (s.get! (pos + k)).toNat := by
  have hn : ¬ (s[pos]'h).toNat < 128 := by omega
  have h0 : 128 ≤ (s.get! (pos + 0)).toNat := by rw [get_at s pos h]; exact ha
  have hk : ∀ k, k = 0 ∨ k = 1 ∨ k = 2 ∨ k = 3 ∨ 4 ≤ k := fun k => by omega
  simp only [Utf8.decode, get_at s pos h, hn, if_false]
  repeat' split
  all_goals (refine ⟨?_, fun k hlt => ?_⟩)
  all_goals simp only [Bool.and_eq_true, beq_iff_eq, decide_eq_true_eq] at *
  all_goals first
    | omega
    | (rcases hk k with rfl | rfl | rfl | rfl | hk <;> omega)

theorem shouldUse_calls (n : Int) (w : World) : Calls Tryd.prog 23 #[.int .i64 n] w fun e w' => e = .returned (.bool (decide (8 < n))) ∧ w' = w := by
  go_enter Tryd.func23, Tryd.ntmps23
  go_wp2
  go_ret
  exact ⟨rfl, rfl⟩

set_option maxHeartbeats 8000000 in
set_option maxRecDepth 1000000 in
/-- of at most eight bytes: rune by rune -/
theorem indexAny_short (s : ByteArray) (w : World) (h8 : s.size ≤ 8) :
    Calls Tryd.prog 14 #[.string s, .string ch3] w fun e w' => e = .returned (.int .i64 (Lib.indexAny s.data.toList [43, 45, 61])) ∧ Below w.heap.size w w' := by
  have hl : s.data.toList.length = s.size := Array.length_toList
  have hget : ∀ i (hi : i < s.size), s.get! i = s[i]'hi := fun i hi => by have := get_at s i hi; simpa using this
  have hgd : ∀ i (hi : i < s.size), s.data.toList.getD i 0 = s.get! i := fun i hi => by
    rw [hget i hi]
    simp [List.getD, List.getElem?_eq_getElem (show i < s.data.toList.length by omega)]
    rfl
  have NONE := Lib.hid (show (∀ j, j < s.size → opB (s.get! j) = false) → Lib.indexAny s.data.toList [43, 45, 61] = -1 from fun h =>
    indexAny_no _ fun j hj => by rw [hgd j (by omega)]; exact h j (by omega))
  have HIT := Lib.hid (show ∀ i (hi : i < s.size), (∀ j, j < i → opB (s.get! j) = false) → opB (s[i]'hi) = true → Lib.indexAny s.data.toList [43, 45, 61] = (i : Int) from fun i hi hj h =>
    indexAny_at _ i (by omega) (by rw [hgd i hi, hget i hi]; exact h) fun j hj' => by rw [hgd j (by omega)]; exact hj j hj')
  obtain ⟨ANS, hANS⟩ : ∃ a, a = Lib.indexAny s.data.toList [43, 45, 61] := ⟨_, rfl⟩
  rw [← hANS] at NONE HIT ⊢
  clear hANS hgd
  have hget' := Lib.hid hget
  clear hl hget
  have IA := Lib.hid (fun (b : UInt8) wz (hb : (b.toNat : Int) < 128) => Tryd.strings_IndexRune_ascii ch3 (b.toNat : Int) wz (by omega) hb)
  have IH := Lib.hid (fun (r : Nat) wz (h1 : 128 ≤ r) (h2 : r ≤ 2147483647) => indexRune_high r h1 h2 wz)
  have h8z : decide ((8 : Int) < (s.size : Int)) = false := decide_eq_false (by omega)
  have hc1 : ((ch3.size : Int) == 1) = false := rfl
  have hc0 : ch3.toList.isEmpty = false := by rw [Lib.toList_data]; rfl
  have DW := Lib.hid (fun i (hi : i < s.size) (ha : 128 ≤ (s[i]'hi).toNat) => decode_wide s i hi ha)
  have DH := Lib.hid (fun i (hi : i < s.size) (ha : 128 ≤ (s[i]'hi).toNat) => decode_high s i hi ha)
  have DL := Lib.hid (fun i => decode_le s i)
  go_enter Tryd.func14, Tryd.ntmps14
  go_wp2_with fail
  refine (shouldUse_calls _ _).mono ?_
  rintro e w' ⟨rfl, rfl⟩
  rw [h8z]
  go_wp2_with fail
  go_loopg [9, 10] s.size (fun g _ _ wx => ∃ i : Nat, i ≤ s.size ∧ s.size - i ≤ g ∧ wx.heap[w'.heap.size]? = some (.stringIter s i) ∧ Hid (Below w'.heap.size w' wx) ∧ Hid (∀ j, j < i → opB (s.get! j) = false))
  case atStart => exact ⟨0, Nat.zero_le _, by omega, World.iter_heap _ _ _, Lib.hid ((Below.refl _ _).alloc (Nat.le_refl _) _), Lib.hid fun j hj => absurd hj (Nat.not_lt_zero _)⟩
  case round =>
    obtain ⟨i, hi, hg, hkx, B, HN⟩ := hrel
    rename World => wx
    by_cases hlt : i < s.size
    · have HK := Lib.hid hkx
      by_cases ha : (s[i]'hlt).toNat < 128
      · have hnx := fun ty => Lib.run_next_ascii_at (P := Tryd.prog) wx w'.heap.size s i ty hkx hlt ha
        have K1 := Lib.hid (Lib.iterAt_heap wx w'.heap.size s i (i + 1) hkx)
        have B1 := Lib.hid (Lib.below_iterAt B.out (Nat.le_refl _) s (i + 1))
        have hx := hget'.out i hlt
        have HS := Lib.hid (HIT.out i hlt HN.out)
        obtain ⟨x, hxe⟩ : ∃ x, s[i]'hlt = x := ⟨_, rfl⟩
        rw [hxe] at hnx ha hx HS
        have HX := Lib.hid hx
        clear hkx hx hxe
        have ha' : (x.toNat : Int) < 128 := by omega
        cases hb : opB x
        · have hin := index_ch3 x hb
          have IX := Lib.hid (IA.out x (wx.iterAt w'.heap.size s (i + 1)) ha')
          have HBB := Lib.hid hb
          have HI1 := Lib.hid (show Lib.indexByte ch3.data.toList (x.toNat : Int).toNat.toUInt8 = -1 by simpa [ch3] using hin)
          clear hb hin
          go_wp2_with fail
          refine IX.out.mono ?_
          rintro e w2 ⟨rfl, rfl⟩
          rw [HI1.out]
          go_wp2
          go_roundg (s.size - (i + 1))
          case measure => omega
          case rel =>
            refine ⟨i + 1, by omega, Nat.le_refl _, K1.out, B1, Lib.hid fun j hj => ?_⟩
            by_cases e : j = i
            · subst e; rw [HX.out]; exact HBB.out
            · exact HN.out j (by omega)
        · have hin := index_ch3_hit x hb
          have IX := Lib.hid (IA.out x (wx.iterAt w'.heap.size s (i + 1)) ha')
          have HA := Lib.hid (HS.out hb)
          have hin' : 0 ≤ Lib.indexByte ch3.data.toList (x.toNat : Int).toNat.toUInt8 := by simpa [ch3] using hin
          generalize Lib.indexByte ch3.data.toList (x.toNat : Int).toNat.toUInt8 = q at hin' IX
          clear hb hin
          go_wp2_with fail
          refine IX.out.mono ?_
          rintro e w2 ⟨rfl, rfl⟩
          go_wp2
          go_ret
          exact ⟨by rw [HA.out]; rfl, B1.out⟩
      · have ha2 : 128 ≤ (s[i]'hlt).toNat := by omega
        have hnx := fun ty => Lib.run_next_any_at (P := Tryd.prog) wx w'.heap.size s i ty hkx hlt
        have K1 := Lib.hid (fun p => Lib.iterAt_heap wx w'.heap.size s i p hkx)
        have B1 := Lib.hid (fun p => Lib.below_iterAt B.out (Nat.le_refl _) s p)
        obtain ⟨dw1, dw2⟩ := DW.out i hlt ha2
        obtain ⟨dh1, dh2⟩ := DH.out i hlt ha2
        have dl := DL.out i
        generalize (Utf8.decode s i).1 = r at *
        generalize (Utf8.decode s i).2 = wd at *
        have DW2 := Lib.hid dw2
        have IX := Lib.hid (IH.out r (wx.iterAt w'.heap.size s (i + wd)) dh1 dl)
        clear hkx dw2 ha
        go_wp2_with fail
        refine IX.out.mono ?_
        rintro e w2 ⟨rfl, hb2⟩
        have B2 := Lib.hid ((B1.out (i + wd)).trans (hb2.mono (B1.out (i + wd)).size))
        have K2 := Lib.hid (show w2.heap[w'.heap.size]? = some (.stringIter s (i + wd)) by
          have h1 := K1.out (i + wd)
          rw [hb2.block _ (Array.getElem?_eq_some_iff.1 h1).1]; exact h1)
        clear hb2
        go_wp2
        go_roundg (s.size - (i + wd))
        case measure => omega
        case rel =>
          refine ⟨i + wd, by omega, Nat.le_refl _, K2.out, B2, Lib.hid fun j hj => ?_⟩
          by_cases e : j < i
          · exact HN.out j e
          · have := DW2.out (j - i) (by omega)
            rw [show i + (j - i) = j by omega] at this
            generalize s.get! j = y at this
            unfold opB
            have h1 : y ≠ 43 := by rintro rfl; simp at this
            have h2 : y ≠ 45 := by rintro rfl; simp at this
            have h3 : y ≠ 61 := by rintro rfl; simp at this
            simp [h1, h2, h3]
    · obtain rfl : i = s.size := by omega
      have hnx := fun ty => Lib.run_next_end_at (P := Tryd.prog) wx w'.heap.size s s.size ty hkx (by omega)
      have HA := Lib.hid (NONE.out HN.out)
      clear hkx
      go_wp2
      go_ret
      exact ⟨by rw [HA.out]; rfl, B.out⟩

theorem indexAny_calls (s : ByteArray) (w : World) (hs : s.size < 4294967281) :
    Calls Tryd.prog 14 #[.string s, .string ch3] w fun e w' => e = .returned (.int .i64 (Lib.indexAny s.data.toList [43, 45, 61])) ∧ Below w.heap.size w w' := by
  by_cases h8 : s.size ≤ 8
  · exact indexAny_short s w h8
  · refine (Tryd.strings_IndexAny_long (fun w => by kernel_rfl) s ch3 w (by decide) (by omega) hs (by decide) (fun j b hb => ?_)).mono ?_
    · have hb' : ([43, 45, 61] : List UInt8)[j]? = some b := hb
      match j, hb' with
      | 0, h => simp at h; subst h; decide
      | 1, h => simp at h; subst h; decide
      | 2, h => simp at h; subst h; decide
    · rintro e w' ⟨rfl, rfl⟩
      exact ⟨rfl, ((Below.refl _ _).alloc (Nat.le_refl _) _).alloc (by simp) _⟩
end Go.Proofs.YtbkclmpopofebaaDoor
