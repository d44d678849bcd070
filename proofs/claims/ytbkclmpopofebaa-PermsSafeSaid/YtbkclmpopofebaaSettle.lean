/-
  Plain: perms.Settle as a function on BitVec 64, its laws, and the reference's bit by bit sum; no program in sight.
-/
import Derived.Test.YtbkclmpopofebaaBits
namespace Go.Proofs.Ytbkclmpopofebaa
open Go.RowKit

def settleV (m u : BitVec 64) (k : Bool) : BitVec 64 := (if k then m &&& 4095#64 else (m &&& 4095#64) &&& ~~~ 3072#64) &&& ~~~ (u &&& 511#64)
def settle (m u : Int) (k : Bool) : Int := (settleV (BitVec.ofInt 64 m) (BitVec.ofInt 64 u) k).toInt

theorem settle_keep (m u : Int) : bits .andNot .i64 (bits .and .i64 m 4095) (bits .and .i64 u 511) = settle m u true := by
  simp only [bits_and, bits_andNot, BitVec.ofInt_toInt, settle, settleV, if_true]; rfl
theorem settle_drop (m u : Int) : bits .andNot .i64 (bits .andNot .i64 (bits .and .i64 m 4095) 3072) (bits .and .i64 u 511) = settle m u false := by
  simp only [bits_and, bits_andNot, BitVec.ofInt_toInt, settle, settleV]; rfl

theorem settleV_le (m u : BitVec 64) (k : Bool) : (settleV m u k).toNat ≤ 4095 := by
  unfold settleV
  have h1 := @Nat.and_le_right m.toNat 4095
  have e : ((4095#64 : BitVec 64)).toNat = 4095 := rfl
  split
  · rw [BitVec.toNat_and, BitVec.toNat_and, e]
    exact Nat.le_trans Nat.and_le_left h1
  · rw [BitVec.toNat_and, BitVec.toNat_and, BitVec.toNat_and, e]
    exact Nat.le_trans Nat.and_le_left (Nat.le_trans Nat.and_le_left h1)
theorem settle_nat (m u : Int) (k : Bool) : settle m u k = (settleV (BitVec.ofInt 64 m) (BitVec.ofInt 64 u) k).toNat := toInt_small (by have := settleV_le (BitVec.ofInt 64 m) (BitVec.ofInt 64 u) k; omega)
theorem settle_le (m u : Int) (k : Bool) : 0 ≤ settle m u k ∧ settle m u k ≤ 4095 := by
  have := settleV_le (BitVec.ofInt 64 m) (BitVec.ofInt 64 u) k
  rw [settle_nat]; omega
theorem settle_one : settle 416 0 true = 416 := by decide
theorem settle_two : settle 3583 18 false = 493 := by decide
theorem settle_mode (m u : Int) (k : Bool) : bits .andNot .i64 (settle m u k) m = 0 := by
  rw [bits_andNot, settle, BitVec.ofInt_toInt]
  have e : settleV (BitVec.ofInt 64 m) (BitVec.ofInt 64 u) k &&& ~~~ BitVec.ofInt 64 m = 0#64 := by
    apply BitVec.eq_of_getLsbD_eq
    intro i hi
    cases k <;> simp [settleV] <;> intros <;> simp_all
  rw [e]; rfl
theorem settle_umask (m u : Int) (k : Bool) : bits .and .i64 (bits .and .i64 (settle m u k) u) 511 = 0 := by
  rw [bits_and, bits_and, settle, BitVec.ofInt_toInt, BitVec.ofInt_toInt]
  have e : settleV (BitVec.ofInt 64 m) (BitVec.ofInt 64 u) k &&& BitVec.ofInt 64 u &&& BitVec.ofInt 64 511 = 0#64 := by
    apply BitVec.eq_of_getLsbD_eq
    intro i hi
    have e5 : BitVec.ofInt 64 511 = 511#64 := rfl
    rw [e5]
    cases k <;> simp [settleV] <;> intros <;> simp_all
  rw [e]; rfl
theorem settle_setid (m u : Int) : bits .and .i64 (settle m u false) 3072 = 0 := by
  rw [bits_and, settle, BitVec.ofInt_toInt]
  have e : settleV (BitVec.ofInt 64 m) (BitVec.ofInt 64 u) false &&& BitVec.ofInt 64 3072 = 0#64 := by
    apply BitVec.eq_of_getLsbD_eq
    intro i hi
    have e5 : BitVec.ofInt 64 3072 = 3072#64 := rfl
    rw [e5]
    simp [-BitVec.reduceNot, settleV] <;> intros <;> simp_all
  rw [e]; rfl
theorem settle_again (m u : Int) (k : Bool) : settle (settle m u k) u k = settle m u k := by
  simp only [settle, BitVec.ofInt_toInt]
  congr 1
  apply BitVec.eq_of_getLsbD_eq
  intro i hi
  cases k <;> simp [settleV] <;> grind
theorem settle_plain (m : Int) : settle m 0 true = bits .and .i64 m 4095 := by
  rw [bits_and, settle]
  have e5 : BitVec.ofInt 64 4095 = 4095#64 := rfl
  have e0 : BitVec.ofInt 64 0 = 0#64 := rfl
  rw [e5, e0]
  simp only [settleV, BitVec.zero_and, BitVec.not_zero, BitVec.and_allOnes, if_true]
end Go.Proofs.Ytbkclmpopofebaa
