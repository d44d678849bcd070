/-
  Plain: the ten letters of a kind and a mode, as Text writes them, stage by stage; no program in sight.
-/
import Derived.Test.YtbkclmpopofebaaDoorSettle
import Derived.Test.YtbkclmpopofebaaDoorBytes
namespace Go.Proofs.YtbkclmpopofebaaDoor
open Go.RowKit

def kb (kd : Int) : UInt8 := if kd = 1 then 45 else if kd = 2 then 100 else if kd = 3 then 108 else if kd = 4 then 104 else 63
def rwx (j : Nat) : UInt8 := if j % 3 = 0 then 120 else if j % 3 = 1 then 119 else 114
/-- the letter of bit j -/
def lb (m : Int) (j : Nat) : UInt8 := if bt m j then rwx j else 45
/-- the letter of bit j, where the special bit is 11 - s -/
def sp (m : Int) (j s : Nat) : UInt8 := if bt m (11 - s) then (if bt m j then (if s = 2 then 116 else 115) else (if s = 2 then 84 else 83)) else lb m j
def lk (m : Int) (k j : Nat) : UInt8 := if j < k then lb m j else 0
def tL (c : UInt8) (m : Int) (k : Nat) : List UInt8 := [c, lk m k 8, lk m k 7, lk m k 6, lk m k 5, lk m k 4, lk m k 3, lk m k 2, lk m k 1, lk m k 0]
def sx (m : Int) (i j s : Nat) : UInt8 := if s < i then sp m j s else lb m j
def sL (c : UInt8) (m : Int) (i : Nat) : List UInt8 := [c, lb m 8, lb m 7, sx m i 6 0, lb m 5, lb m 4, sx m i 3 1, lb m 2, lb m 1, sx m i 0 2]
def textL (kd m : Int) : List UInt8 := sL (kb kd) m 3

theorem tL_len (c : UInt8) (m : Int) (k : Nat) : (tL c m k).length = 10 := rfl
theorem sL_len (c : UInt8) (m : Int) (k : Nat) : (sL c m k).length = 10 := rfl
theorem textL_len (kd m : Int) : (textL kd m).length = 10 := rfl
theorem tL_zero (c : UInt8) (m : Int) : tL c m 0 = [c, 0, 0, 0, 0, 0, 0, 0, 0, 0] := rfl
theorem tL_end (c : UInt8) (m : Int) : tL c m 9 = sL c m 0 := rfl
theorem tL_succ (c : UInt8) (m : Int) (k : Nat) (h : k < 9) : (tL c m k).set (9 - k) (lb m k) = tL c m (k + 1) := by
  match k, h with
  | 0, _ | 1, _ | 2, _ | 3, _ | 4, _ | 5, _ | 6, _ | 7, _ | 8, _ => rfl
theorem list_set_set {l : List UInt8} {i : Nat} {a b : UInt8} : (l.set i a).set i b = l.set i b := by simp
theorem tL_set (c : UInt8) (m : Int) (k : Nat) (h : k < 9) (b : UInt8) (hb : b = lb m k) : (bytesArr (tL c m k)).setIfInBounds (9 - k) (.int .u8 (b.toNat : Int)) = bytesArr (tL c m (k + 1)) := by
  rw [← tL_succ c m k h, bytesArr_set, hb]
theorem lb_no {m : Int} {k : Nat} (hb : bt m k = false) : 45 = lb m k := by simp [lb, hb]
theorem lb_yes {m : Int} {k : Nat} (hb : bt m k = true) : rwx k = lb m k := by simp [lb, hb]
theorem rwx_get (k : Nat) (h : k % 3 < 3) : ((⟨#[120, 119, 114]⟩ : ByteArray)[k % 3]'h) = rwx k := by
  unfold rwx
  generalize k % 3 = r at h
  match r, h with
  | 0, _ | 1, _ | 2, _ => rfl

theorem sL_no (c : UInt8) (m : Int) (k : Nat) (h : k < 3) (hb : bt m (11 - k) = false) : sL c m k = sL c m (k + 1) := by
  match k, h with
  | 0, _ | 1, _ | 2, _ => simp only [Nat.reduceSub] at hb; simp [sL, sx, sp, hb]
theorem sL_set (c : UInt8) (m : Int) (k : Nat) (h : k < 3) (b : UInt8) (hb : b = sp m (6 - 3 * k) k) : (bytesArr (sL c m k)).setIfInBounds (3 * (k + 1)) (.int .u8 (b.toNat : Int)) = bytesArr (sL c m (k + 1)) := by
  rw [bytesArr_set, hb]
  congr 1
  match k, h with
  | 0, _ | 1, _ | 2, _ => rfl
theorem sL_len0 (c : UInt8) (m : Int) (k : Nat) : (sL c m k).length = 10 := rfl
theorem sL_set2 (c : UInt8) (m : Int) (k : Nat) (h : k < 3) (b : UInt8) (hb : b = sp m (6 - 3 * k) k) : (sL c m k).set (3 * (k + 1)) b = sL c m (k + 1) := by
  rw [hb]
  match k, h with
  | 0, _ | 1, _ | 2, _ => rfl
theorem sL_at2 (c : UInt8) (m : Int) (k : Nat) (h : k < 3) (b : UInt8) (hb : lb m (6 - 3 * k) = b) : (sL c m k)[3 * (k + 1)]'(by rw [sL_len]; omega) = b := by
  rw [← hb]
  match k, h with
  | 0, _ | 1, _ | 2, _ => rfl
theorem sL_at (c : UInt8) (m : Int) (k : Nat) (h : k < 3) (b : UInt8) (hb : lb m (6 - 3 * k) = b) : (bytesArr (sL c m k))[3 * (k + 1)]? = some (.int .u8 (b.toNat : Int)) := by
  rw [bytesArr_getD _ _ (by rw [sL_len]; omega), ← hb]
  match k, h with
  | 0, _ | 1, _ | 2, _ => rfl

/-! the reference's way -/
abbrev encB : UInt8 → Value := fun b => Value.int .u8 (b.toNat : Int)
def uL (c : UInt8) (m : Int) (k : Nat) : List UInt8 := (sL c m 0).take (k + 1)
theorem uL_len (c : UInt8) (m : Int) (k : Nat) (h : k ≤ 9) : (uL c m k).length = k + 1 := by
  unfold uL; rw [List.length_take, sL_len]; omega
theorem uL_succ (c : UInt8) (m : Int) (k : Nat) (h : k < 9) (b : UInt8) (hb : b = lb m (8 - k)) : uL c m k ++ [b] = uL c m (k + 1) := by
  subst hb
  match k, h with
  | 0, _ | 1, _ | 2, _ | 3, _ | 4, _ | 5, _ | 6, _ | 7, _ | 8, _ => rfl
theorem uL_end (c : UInt8) (m : Int) : uL c m 9 = sL c m 0 := rfl
theorem half (k : Nat) (h : k < 9) : 256 / 2 ^ k = 2 ^ (8 - k) := by
  match k, h with
  | 0, _ | 1, _ | 2, _ | 3, _ | 4, _ | 5, _ | 6, _ | 7, _ | 8, _ => rfl
/-- the reference's bit behind k rounds -/
def bitv (k : Nat) : Int := ((256 / 2 ^ k : Nat) : Int)
theorem bitv_le (k : Nat) : 0 ≤ bitv k ∧ bitv k ≤ 256 := by
  have := Nat.div_le_self 256 (2 ^ k)
  unfold bitv
  generalize 256 / 2 ^ k = x at this
  omega
theorem bitv_succ (k : Nat) : bitv k / 2 = bitv (k + 1) := by
  have e : 256 / 2 ^ k / 2 = 256 / 2 ^ (k + 1) := by rw [Nat.div_div_eq_div_mul, Nat.pow_succ]
  unfold bitv; rw [← e]; simp
theorem rwx_get9 (k : Nat) (h : k < 9) : ((⟨#[114, 119, 120, 114, 119, 120, 114, 119, 120]⟩ : ByteArray)[k]'h) = rwx (8 - k) := by
  match k, h with
  | 0, _ | 1, _ | 2, _ | 3, _ | 4, _ | 5, _ | 6, _ | 7, _ | 8, _ => rfl

/-! the tests -/
theorem shr_test {m : Int} (k : Nat) (h0 : 0 ≤ m) (h1 : m ≤ 4095) : (bits .and .i64 (m / 2 ^ k) 1 == 1) = bt m k := by
  obtain ⟨n, rfl⟩ := Int.eq_ofNat_of_zero_le h0
  have e : ((n : Int) / 2 ^ k) = ((n / 2 ^ k : Nat) : Int) := by simp
  rw [e, bits_and, ofInt_nat]
  have e1 : BitVec.ofInt 64 1 = 1#64 := rfl
  rw [e1]
  unfold bt
  rw [ofInt_nat]
  have hle : n / 2 ^ k ≤ n := Nat.div_le_self _ _
  have h2 : (BitVec.ofNat 64 (n / 2 ^ k) &&& 1#64).toNat = n / 2 ^ k % 2 := by
    rw [BitVec.toNat_and, BitVec.toNat_ofNat, Nat.mod_eq_of_lt (by omega)]
    exact Nat.and_one_is_mod _
  have h3 : (BitVec.ofNat 64 n).getLsbD k = n.testBit k := by
    show (BitVec.ofNat 64 n).toNat.testBit k = _
    rw [BitVec.toNat_ofNat, Nat.mod_eq_of_lt (by omega)]
  rw [toInt_small (by rw [h2]; omega), h2, h3, Nat.testBit_eq_decide_div_mod_eq, Bool.eq_iff_iff]
  simp
  omega
theorem and_test {x : Int} (n : Nat) (hn : n ≤ 12) : bits .and .i64 x ((2 ^ n : Nat) : Int) = 0 ↔ bt x n = false := by
  have h := bit_test (x := x) hn
  rw [two_wrap hn] at h
  exact h
theorem bitv_test {m : Int} (k : Nat) (h : k < 9) : (bits .and .i64 m (bitv k) != 0) = bt m (8 - k) := by
  have h1 := and_test (x := m) (8 - k) (by omega)
  unfold bitv
  rw [half k h]
  cases hb : bt m (8 - k)
  · rw [hb] at h1; simpa using h1.2 rfl
  · rw [hb] at h1; simpa using mt h1.1 (by simp)
theorem valid_iff {m : Int} (hm : -9223372036854775808 ≤ m ∧ m ≤ 9223372036854775807) : bits .andNot .i64 m 4095 = 0 ↔ 0 ≤ m ∧ m ≤ 4095 := by
  have e := toInt_ofInt hm
  rw [bits_andNot]
  have e5 : BitVec.ofInt 64 4095 = 4095#64 := rfl
  rw [e5]
  generalize BitVec.ofInt 64 m = M at *
  subst e
  constructor
  · intro h
    have h1 : M &&& ~~~ 4095#64 = 0#64 := toInt_inj h
    have h2 : M = M &&& 4095#64 := by
      apply BitVec.eq_of_getLsbD_eq
      intro i hi
      have h3 := congrArg (fun x => x.getLsbD i) h1
      simp only [BitVec.getLsbD_and, BitVec.getLsbD_not, hi, decide_true, Bool.true_and, BitVec.getLsbD_zero] at h3
      rw [BitVec.getLsbD_and]
      revert h3
      cases M.getLsbD i <;> cases (4095#64).getLsbD i <;> simp
    have h4 : M.toNat ≤ 4095 := by
      rw [h2, BitVec.toNat_and]; exact Nat.and_le_right
    rw [toInt_small (by omega)]; omega
  · rintro ⟨h0, h1⟩
    have h2 : M.toNat ≤ 4095 := by
      rw [BitVec.toInt_eq_toNat_cond] at h0 h1
      split at h0 <;> omega
    have h3 : M &&& ~~~ 4095#64 = 0#64 := by
      apply BitVec.eq_of_getLsbD_eq
      intro i hi
      simp only [BitVec.getLsbD_and, BitVec.getLsbD_not, hi, decide_true, Bool.true_and, BitVec.getLsbD_zero]
      by_cases hi2 : i < 12
      · have c : ∀ a : Nat, a < 12 → (4095#64).getLsbD a = true := by decide
        rw [c i hi2]; simp
      · have : M.getLsbD i = false := by
          show M.toNat.testBit i = false
          apply Nat.testBit_lt_two_pow
          exact Nat.lt_of_lt_of_le (show M.toNat < 2 ^ 12 by omega) (Nat.pow_le_pow_right (by decide) (by omega))
        rw [this]; simp
    rw [h3]; rfl
end Go.Proofs.YtbkclmpopofebaaDoor
