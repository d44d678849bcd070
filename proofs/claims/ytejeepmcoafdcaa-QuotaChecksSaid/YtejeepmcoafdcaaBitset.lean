/-
  A set of bytes in four words of 64 bits, plain; and the walks of add and has.
-/
import Derived.Test.YtejeepmcoafdcaaReader
import Derived.Deep.LoopGhost
namespace Go.Proofs.Ytejeepmcoafdcaa
open Go.RowKit
set_option linter.unusedVariables false

/-- the j-th word of a set -/
def wordTo (f : Nat → Bool) (j : Nat) : Nat → Nat
  | 0 => 0
  | k + 1 => wordTo f j k + (if f (64 * j + k) then 2 ^ k else 0)
def word (f : Nat → Bool) (j : Nat) : Nat := wordTo f j 64
theorem wordTo_lt (f : Nat → Bool) (j : Nat) : ∀ k, wordTo f j k < 2 ^ k
  | 0 => by simp [wordTo]
  | k + 1 => by
    have := wordTo_lt f j k
    unfold wordTo
    rw [Nat.pow_succ]
    split <;> omega
theorem wordTo_bit (f : Nat → Bool) (j : Nat) : ∀ k i, (wordTo f j k).testBit i = (decide (i < k) && f (64 * j + i))
  | 0, i => by simp [wordTo]
  | k + 1, i => by
    have ih := wordTo_bit f j k
    have hlt := wordTo_lt f j k
    unfold wordTo
    by_cases hf : f (64 * j + k)
    · rw [if_pos hf, show wordTo f j k + 2 ^ k = 2 ^ k * 1 + wordTo f j k from by omega, Nat.testBit_two_pow_mul_add 1 hlt i, ih i]
      by_cases hi : i < k
      · have h2 : i < k + 1 := by omega
        simp [hi, h2]
      · by_cases he : i = k
        · subst he; simp [hf]
        · have h2 : ¬ i < k + 1 := by omega
          have h3 : i - k ≠ 0 := by omega
          simp [hi, h2]
          rw [show (1 : Nat) = 2 ^ 0 from rfl, Nat.testBit_two_pow_of_ne (by omega)]
    · rw [if_neg hf, Nat.add_zero, ih i]
      by_cases hi : i = k
      · subst hi; simp [hf]
      · have : decide (i < k + 1) = decide (i < k) := by simp; omega
        rw [this]
theorem word_lt (f : Nat → Bool) (j : Nat) : word f j < 2 ^ 64 := wordTo_lt f j 64
theorem word_bit (f : Nat → Bool) (j i : Nat) : (word f j).testBit i = (decide (i < 64) && f (64 * j + i)) := wordTo_bit f j 64 i
theorem word_eq (f : Nat → Bool) (j x : Nat) (hx : x < 2 ^ 64) (h : ∀ i, i < 64 → x.testBit i = f (64 * j + i)) : x = word f j := by
  apply Nat.eq_of_testBit_eq
  intro i
  rw [word_bit]
  by_cases hi : i < 64
  · rw [h i hi]; simp [hi]
  · rw [Nat.testBit_lt_two_pow (Nat.lt_of_lt_of_le hx (Nat.pow_le_pow_right (by omega) (by omega)))]; simp [hi]

theorem band63 : ∀ b, b < 256 → bits .and .i64 ((b : Nat) : Int) 63 = ((b % 64 : Nat) : Int) := by decide +kernel
theorem u64_wrap (n : Nat) (h : n < 2 ^ 64) : IntKind.u64.wrap ((n : Nat) : Int) = (n : Int) := by
  simp [IntKind.wrap, IntKind.bits, IntKind.signed]; omega
theorem bor_nat (x y : Nat) (hx : x < 2 ^ 64) (hy : y < 2 ^ 64) : bits .or .u64 (x : Int) (y : Int) = ((x ||| y : Nat) : Int) := by
  have h : x ||| y < 2 ^ 64 := Nat.or_lt_two_pow hx hy
  simp only [bits]
  rw [show ((BitVec.ofInt (IntKind.bits .u64) (x:Int) ||| BitVec.ofInt (IntKind.bits .u64) (y:Int)).toNat) = x ||| y from ?_]
  · exact u64_wrap _ h
  · show (BitVec.ofInt 64 (x:Int) ||| BitVec.ofInt 64 (y:Int)).toNat = _
    rw [BitVec.ofInt_natCast, BitVec.ofInt_natCast, BitVec.toNat_or, BitVec.toNat_ofNat, BitVec.toNat_ofNat, Nat.mod_eq_of_lt hx, Nat.mod_eq_of_lt hy]
theorem band_nat (x y : Nat) (hx : x < 2 ^ 64) (hy : y < 2 ^ 64) : bits .and .u64 (x : Int) (y : Int) = ((x &&& y : Nat) : Int) := by
  have h : x &&& y < 2 ^ 64 := Nat.and_lt_two_pow _ hy
  simp only [bits]
  rw [show ((BitVec.ofInt (IntKind.bits .u64) (x:Int) &&& BitVec.ofInt (IntKind.bits .u64) (y:Int)).toNat) = x &&& y from ?_]
  · exact u64_wrap _ h
  · show (BitVec.ofInt 64 (x:Int) &&& BitVec.ofInt 64 (y:Int)).toNat = _
    rw [BitVec.ofInt_natCast, BitVec.ofInt_natCast, BitVec.toNat_and, BitVec.toNat_ofNat, BitVec.toNat_ofNat, Nat.mod_eq_of_lt hx, Nat.mod_eq_of_lt hy]
theorem bandNot_nat (x y : Nat) (hx : x < 2 ^ 64) (hy : y < 2 ^ 64) : bits .andNot .u64 (x : Int) (y : Int) = ((x &&& (2 ^ 64 - 1 - y) : Nat) : Int) := by
  have h : x &&& (2 ^ 64 - 1 - y) < 2 ^ 64 := Nat.and_lt_two_pow _ (by omega)
  simp only [bits]
  rw [show ((BitVec.ofInt (IntKind.bits .u64) (x:Int) &&& ~~~ BitVec.ofInt (IntKind.bits .u64) (y:Int)).toNat) = x &&& (2 ^ 64 - 1 - y) from ?_]
  · exact u64_wrap _ h
  · show (BitVec.ofInt 64 (x:Int) &&& ~~~ BitVec.ofInt 64 (y:Int)).toNat = _
    rw [BitVec.ofInt_natCast, BitVec.ofInt_natCast, BitVec.toNat_and, BitVec.toNat_not, BitVec.toNat_ofNat, BitVec.toNat_ofNat, Nat.mod_eq_of_lt hx, Nat.mod_eq_of_lt hy]
theorem bit_test (x m : Nat) (hx : x < 2 ^ 64) : (bits .and .u64 ((x : Int) / 2 ^ m) 1 == 1) = x.testBit m := by
  have e : ((x : Int) / 2 ^ m) = ((x / 2 ^ m : Nat) : Int) := by simp
  rw [e, show (1 : Int) = ((1 : Nat) : Int) from rfl, band_nat _ 1 (Nat.lt_of_le_of_lt (Nat.div_le_self _ _) hx) (by decide)]
  rw [Nat.testBit, Nat.shiftRight_eq_div_pow, Nat.and_comm]
  have hz : 1 &&& x / 2 ^ m ≤ 1 := Nat.and_le_left
  generalize 1 &&& x / 2 ^ m = z at *
  rw [Bool.eq_iff_iff]
  simp
  omega
theorem shl_one (m : Nat) (h : m < 64) : IntKind.u64.wrap (2 ^ m) = ((2 ^ m : Nat) : Int) := by
  have := u64_wrap (2 ^ m) (Nat.pow_lt_pow_right (by omega) h)
  simpa using this
theorem word_congr {f g : Nat → Bool} {j : Nat} (h : ∀ i, i < 64 → f (64 * j + i) = g (64 * j + i)) : word f j = word g j :=
  word_eq g j (word f j) (word_lt f j) fun i hi => by rw [word_bit, h i hi]; simp [hi]
theorem word_add (f : Nat → Bool) (b : Nat) : word f (b / 64) ||| 2 ^ (b % 64) = word (fun x => f x || decide (x = b)) (b / 64) := by
  refine word_eq _ _ _ (Nat.or_lt_two_pow (word_lt _ _) (Nat.pow_lt_pow_right (by omega) (Nat.mod_lt _ (by omega)))) fun i hi => ?_
  rw [Nat.testBit_or, word_bit, Nat.testBit_two_pow]
  have : decide (b % 64 = i) = decide (64 * (b / 64) + i = b) := by
    rw [Bool.eq_iff_iff]; simp; omega
  rw [this]; simp [hi]
theorem word_other (f : Nat → Bool) (b j : Nat) (h : j ≠ b / 64) : word (fun x => f x || decide (x = b)) j = word f j :=
  word_congr fun i hi => by
    have : decide (64 * j + i = b) = false := by simp; omega
    rw [this, Bool.or_false]

/-- a token at T (offset o): its kind and its set's four words -/
def tokCells (k : Int) (f : Nat → Bool) : Array Value := #[.int .i64 k, .int .u64 (word f 0 : Nat), .int .u64 (word f 1 : Nat), .int .u64 (word f 2 : Nat), .int .u64 (word f 3 : Nat)]

theorem tok_add (k : Int) (f : Nat → Bool) (b : Nat) (hb : b < 256) : (tokCells k f).setIfInBounds (1 + b / 64) (.int .u64 ((word f (b / 64) ||| 2 ^ (b % 64) : Nat) : Int)) = tokCells k (fun x => f x || decide (x = b)) := by
  rw [word_add]
  have ho := fun j h => word_other f b j h
  have hw := word_add f b
  rcases (by omega : b / 64 = 0 ∨ b / 64 = 1 ∨ b / 64 = 2 ∨ b / 64 = 3) with e | e | e | e <;> rw [e] at ho ⊢ <;> simp only [tokCells]
  · rw [ho 1 (by omega), ho 2 (by omega), ho 3 (by omega)]; rfl
  · rw [ho 0 (by omega), ho 2 (by omega), ho 3 (by omega)]; rfl
  · rw [ho 0 (by omega), ho 1 (by omega), ho 3 (by omega)]; rfl
  · rw [ho 0 (by omega), ho 1 (by omega), ho 2 (by omega)]; rfl

/-- the set with the bytes from lo on, below b -/
def below (f : Nat → Bool) (lo b : Nat) : Nat → Bool := fun x => f x || (decide (lo ≤ x) && decide (x < b))
theorem below_start (f : Nat → Bool) (lo : Nat) : below f lo lo = f := by
  funext x; unfold below
  have : (decide (lo ≤ x) && decide (x < lo)) = false := by simp
  rw [this, Bool.or_false]
theorem below_next (f : Nat → Bool) (lo b : Nat) (h : lo ≤ b) : (fun x => below f lo b x || decide (x = b)) = below f lo (b + 1) := by
  funext x; unfold below
  rw [Bool.or_assoc]
  congr 1
  rw [Bool.eq_iff_iff]; simp; omega
theorem below_end (f : Nat → Bool) (lo hi b : Nat) (h : hi < b) (h2 : b ≤ hi + 1 ∨ b = lo) : below f lo b = mark f lo hi := by
  funext x; unfold below mark
  congr 1
  rw [Bool.eq_iff_iff]; simp; omega

theorem add_calls (w : World) (T : Nat) (k x y : Int) (f : Nat → Bool) (lo hi : Nat) (hx : x = lo) (hy : y = hi) (h : Blk w T (tokCells k f) 72) (h1 : lo < 256) (h2 : hi < 256) :
    Calls Try.prog 34 #[.pointer (some ⟨T, 0, none⟩), .int .u8 x, .int .u8 y] w fun e w' => e = .returned (.tuple #[]) ∧ Blk w' T (tokCells k (mark f lo hi)) 72 ∧ Only T w w' := by
  subst hx
  subst hy
  have H := Lib.hid h
  clear h
  go_enter Try.func34, Try.ntmps34
  go_wp2_with fail
  go_loopg [6] 256 (fun g s wr => ∃ b : Nat, lo ≤ b ∧ b ≤ 256 ∧ 256 - b ≤ g ∧ (b ≤ hi + 1 ∨ b = lo) ∧ s = .int .i64 b ∧ Blk wr T (tokCells k (below f lo b)) 72 ∧ Only T w wr)
  case atStart => exact ⟨lo, Nat.le_refl _, by omega, by omega, Or.inr rfl, rfl, by rw [below_start]; exact H.out, Only.refl _ _⟩
  case round =>
    obtain ⟨b, hlo, hb, hg, hor, rfl, hB, hO⟩ := hrel
    have c1 := Blk.cell hB 1
    have c2 := Blk.cell hB 2
    have c3 := Blk.cell hB 3
    have c4 := Blk.cell hB 4
    simp [tokCells] at c1 c2 c3 c4
    have fr := Blk.free hB (1 + b / 64)
    have I := Lib.hid (And.intro hB hO)
    have OR := Lib.hid hor
    clear hB hO hor
    by_cases hlt : b ≤ hi
    · have cb : wr.cell? ⟨T, 1 + b / 64, none⟩ = some (.int .u64 (word (below f lo b) (b / 64) : Nat)) := by
        rcases (by omega : b / 64 = 0 ∨ b / 64 = 1 ∨ b / 64 = 2 ∨ b / 64 = 3) with e | e | e | e <;> rw [e] <;> assumption
      have NX := Lib.hid (show Blk (wr.setCell ⟨T, 1 + b / 64, none⟩ (.int .u64 ((word (below f lo b) (b / 64) ||| 2 ^ (b % 64) : Nat) : Int))) T (tokCells k (below f lo (b + 1))) 72 from by
        rw [← below_next f lo b hlo, ← tok_add k _ b (by omega)]; exact Blk.set I.out.1 _ _)
      have b63 := band63 b (by omega)
      have shl := shl_one (b % 64) (Nat.mod_lt _ (by omega))
      have bor := bor_nat (word (below f lo b) (b / 64)) (2 ^ (b % 64)) (word_lt _ _) (Nat.pow_lt_pow_right (by omega) (Nat.mod_lt _ (by omega)))
      generalize word (below f lo b) (b / 64) = W at *
      generalize 2 ^ (b % 64) = M at *
      have SH := Lib.hid shl
      have BO := Lib.hid bor
      clear c1 c2 c3 c4 shl bor
      go_wp2_with fail
      go_region
      all_goals go_wp2_with fail
      all_goals rw [SH.out, BO.out]
      all_goals go_roundg (256 - (b + 1))
      case measure => omega
      case rel => exact ⟨b + 1, by omega, by omega, by omega, by omega, by go_num, Blk.drew NX.out, (I.out.2.set _ _).drew⟩
    · have E := Lib.hid (below_end f lo hi b (by omega) OR.out)
      go_wp2_with fail
      go_end0
      exact ⟨rfl, by rw [← E.out]; exact I.out.1, I.out.2⟩

/-- the set with its first k words turned over -/
def mix (f : Nat → Bool) (k : Nat) : Nat → Bool := fun b => f b != decide (b < 64 * k)
theorem mix_zero (f : Nat → Bool) : mix f 0 = f := by funext b; simp [mix]
theorem mix_word (f : Nat → Bool) (k j : Nat) (h : j ≠ k) : word (mix f (k + 1)) j = word (mix f k) j :=
  word_congr fun i hi => by
    unfold mix
    have : decide (64 * j + i < 64 * (k + 1)) = decide (64 * j + i < 64 * k) := by rw [Bool.eq_iff_iff]; simp; omega
    rw [this]
theorem mix_turn (f : Nat → Bool) (k : Nat) : word (mix f (k + 1)) k = 2 ^ 64 - 1 - word (mix f k) k := by
  symm
  refine word_eq _ _ _ (by omega) fun i hi => ?_
  have := Nat.testBit_two_pow_sub_succ (word_lt (mix f k) k) i
  rw [show 2 ^ 64 - 1 - word (mix f k) k = 2 ^ 64 - (word (mix f k) k + 1) from by omega, this, word_bit]
  unfold mix
  have e1 : decide (64 * k + i < 64 * (k + 1)) = true := by simp; omega
  have e2 : decide (64 * k + i < 64 * k) = false := by simp
  rw [e1, e2]; simp [hi]
theorem tok_turn (t : Int) (f : Nat → Bool) (k : Nat) (hk : k < 4) : (tokCells t (mix f k)).setIfInBounds (1 + k) (.int .u64 ((2 ^ 64 - 1 - word (mix f k) k : Nat) : Int)) = tokCells t (mix f (k + 1)) := by
  rw [← mix_turn]
  have ho := fun j h => mix_word f k j h
  rcases (by omega : k = 0 ∨ k = 1 ∨ k = 2 ∨ k = 3) with rfl | rfl | rfl | rfl <;> simp only [tokCells]
  · rw [ho 1 (by omega), ho 2 (by omega), ho 3 (by omega)]; rfl
  · rw [ho 0 (by omega), ho 2 (by omega), ho 3 (by omega)]; rfl
  · rw [ho 0 (by omega), ho 1 (by omega), ho 3 (by omega)]; rfl
  · rw [ho 0 (by omega), ho 1 (by omega), ho 2 (by omega)]; rfl
theorem tok_congr (t : Int) {f g : Nat → Bool} (h : ∀ b, b < 256 → f b = g b) : tokCells t f = tokCells t g := by
  have hw : ∀ j, j < 4 → word f j = word g j := fun j hj => word_congr fun i hi => h _ (by omega)
  simp only [tokCells, hw 0 (by omega), hw 1 (by omega), hw 2 (by omega), hw 3 (by omega)]
/-- the stroke is no byte of a set -/
theorem tok_stroke (t : Int) (f : Nat → Bool) : (tokCells t f).setIfInBounds 1 (.int .u64 ((word f 0 &&& (2 ^ 64 - 1 - 2 ^ 47) : Nat) : Int)) = tokCells t (fun b => f b && decide (b ≠ 47)) := by
  have h0 : word f 0 &&& (2 ^ 64 - 1 - 2 ^ 47) = word (fun b => f b && decide (b ≠ 47)) 0 := by
    refine word_eq _ _ _ (Nat.and_lt_two_pow _ (by decide)) fun i hi => ?_
    rw [Nat.testBit_and, word_bit]
    have : (2 ^ 64 - 1 - 2 ^ 47 : Nat).testBit i = decide (i ≠ 47) := by
      have hh : ∀ i, i < 64 → (2 ^ 64 - 1 - 2 ^ 47 : Nat).testBit i = decide (i ≠ 47) := by decide +kernel
      exact hh i hi
    rw [this]; simp [hi]
  have hw : ∀ j, j ≠ 0 → word (fun b => f b && decide (b ≠ 47)) j = word f j := fun j hj => word_congr fun i hi => by
    have : decide (64 * j + i ≠ 47) = true := by simp; omega
    rw [this, Bool.and_true]
  rw [h0]
  simp only [tokCells]
  rw [hw 1 (by omega), hw 2 (by omega), hw 3 (by omega)]; rfl
theorem stroke_word (x : Nat) (h : x < 2 ^ 64) : bits .andNot .u64 (x : Int) 140737488355328 = ((x &&& (2 ^ 64 - 1 - 2 ^ 47) : Nat) : Int) := by
  have := bandNot_nat x (2 ^ 47) h (by decide)
  simpa using this
theorem bxor_max (x : Nat) (h : x < 2 ^ 64) : bits .xor .u64 IntKind.u64.max (x : Int) = ((2 ^ 64 - 1 - x : Nat) : Int) := by
  simp only [bits]
  rw [show ((BitVec.ofInt (IntKind.bits .u64) IntKind.u64.max ^^^ BitVec.ofInt (IntKind.bits .u64) (x:Int)).toNat) = 2 ^ 64 - 1 - x from ?_]
  · exact u64_wrap _ (by omega)
  · show (BitVec.ofInt 64 IntKind.u64.max ^^^ BitVec.ofInt 64 (x:Int)).toNat = _
    rw [show BitVec.ofInt 64 IntKind.u64.max = BitVec.allOnes 64 from by decide, BitVec.ofInt_natCast, BitVec.allOnes_xor, BitVec.toNat_not, BitVec.toNat_ofNat, Nat.mod_eq_of_lt h]
end Go.Proofs.Ytejeepmcoafdcaa
