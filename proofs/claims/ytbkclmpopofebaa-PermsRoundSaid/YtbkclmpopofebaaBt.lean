/-
  Plain: the bits of an int under Go's operators; no program in sight.
-/
import Derived.Test.YtbkclmpopofebaaSettle
namespace Go.Proofs.Ytbkclmpopofebaa
open Go.RowKit

theorem bt_toInt (x : BitVec 64) (j : Nat) : bt x.toInt j = x.getLsbD j := by unfold bt; rw [BitVec.ofInt_toInt]
theorem bt_and (a b : Int) (j : Nat) : bt (bits .and .i64 a b) j = (bt a j && bt b j) := by
  rw [bits_and, bt_toInt, BitVec.getLsbD_and]; rfl
theorem bt_or (a b : Int) (j : Nat) : bt (bits .or .i64 a b) j = (bt a j || bt b j) := by
  rw [bits_or, bt_toInt, BitVec.getLsbD_or]; rfl
theorem bt_andNot (a b : Int) (j : Nat) : bt (bits .andNot .i64 a b) j = (bt a j && !bt b j) := by
  rw [bits_andNot, bt_toInt, BitVec.getLsbD_and, BitVec.getLsbD_not]
  by_cases h : j < 64
  · simp [bt, h]
  · have : (BitVec.ofInt 64 a).getLsbD j = false := BitVec.getLsbD_of_ge _ _ (by omega)
    simp [bt, this]
theorem bt_zero (j : Nat) : bt 0 j = false := by simp [bt]
theorem bt_ge (a : Int) (j : Nat) (h : 64 ≤ j) : bt a j = false := BitVec.getLsbD_of_ge _ _ h
/-- a number of the kind is its bits -/
theorem bt_ext {a b : Int} (ha : -9223372036854775808 ≤ a ∧ a ≤ 9223372036854775807) (hb : -9223372036854775808 ≤ b ∧ b ≤ 9223372036854775807) (h : ∀ j, j < 64 → bt a j = bt b j) : a = b := by
  rw [← toInt_ofInt ha, ← toInt_ofInt hb]
  congr 1
  exact BitVec.eq_of_getLsbD_eq fun j hj => h j hj
theorem bt_nat (n j : Nat) (hn : n < 9223372036854775808) : bt (n : Int) j = n.testBit j := by
  unfold bt
  rw [ofInt_nat]
  show (BitVec.ofNat 64 n).toNat.testBit j = _
  rw [BitVec.toNat_ofNat, Nat.mod_eq_of_lt (by omega)]
theorem bt_high {a : Int} {k : Nat} (h0 : 0 ≤ a) (h1 : a < 2 ^ k) (hk : k ≤ 62) (j : Nat) (hj : k ≤ j) : bt a j = false := by
  obtain ⟨n, rfl⟩ := Int.eq_ofNat_of_zero_le h0
  have h2 : n < 2 ^ k := by exact_mod_cast h1
  have h3 : (2 : Nat) ^ k ≤ 2 ^ 62 := Nat.pow_le_pow_right (by decide) hk
  rw [bt_nat n j (by omega)]
  exact Nat.testBit_lt_two_pow (Nat.lt_of_lt_of_le h2 (Nat.pow_le_pow_right (by decide) hj))
/-- where no bit from k on is set the number is below 2 ^ k -/
theorem bt_low {a : Int} {k : Nat} (ha : -9223372036854775808 ≤ a ∧ a ≤ 9223372036854775807) (hk : k ≤ 62) (h : ∀ j, k ≤ j → j < 64 → bt a j = false) : 0 ≤ a ∧ a < 2 ^ k := by
  have e := toInt_ofInt ha
  unfold bt at h
  generalize BitVec.ofInt 64 a = X at *
  have h1 : X.toNat < 2 ^ k := by
    apply Nat.lt_pow_two_of_testBit
    intro j hj
    by_cases h64 : j < 64
    · exact h j hj h64
    · exact Nat.testBit_lt_two_pow (Nat.lt_of_lt_of_le X.isLt (Nat.pow_le_pow_right (by decide) (by omega)))
  have h3 : (2 : Nat) ^ k ≤ 2 ^ 62 := Nat.pow_le_pow_right (by decide) hk
  rw [← e, toInt_small (by omega)]
  exact ⟨by omega, by exact_mod_cast h1⟩
theorem bits_range (op : BinOp) (a b : Int) (hop : op = .and ∨ op = .or ∨ op = .andNot) : -9223372036854775808 ≤ bits op .i64 a b ∧ bits op .i64 a b ≤ 9223372036854775807 := by
  have h : ∀ x : BitVec 64, -9223372036854775808 ≤ x.toInt ∧ x.toInt ≤ 9223372036854775807 := fun x => by
    rw [BitVec.toInt_eq_toNat_cond]; have := x.isLt; split <;> omega
  rcases hop with rfl | rfl | rfl
  · rw [bits_and]; exact h _
  · rw [bits_or]; exact h _
  · rw [bits_andNot]; exact h _
end Go.Proofs.Ytbkclmpopofebaa
