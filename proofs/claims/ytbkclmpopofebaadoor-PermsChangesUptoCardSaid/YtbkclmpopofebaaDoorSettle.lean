/-
  Plain: perms.Settle as a function on BitVec 64, its laws, and the reference's bit by bit sum; no program in sight.
-/
import Derived.Test.YtbkclmpopofebaaDoorBits
namespace Go.Proofs.YtbkclmpopofebaaDoor
open Go.RowKit

def settleV (m u : BitVec 64) (k : Bool) : BitVec 64 := (if k then m &&& 4095#64 else (m &&& 4095#64) &&& ~~~ 3072#64) &&& ~~~ (u &&& 511#64)
def settle (m u : Int) (k : Bool) : Int := (settleV (BitVec.ofInt 64 m) (BitVec.ofInt 64 u) k).toInt

theorem settle_keep (m u : Int) : bits .andNot .i64 (bits .and .i64 m 4095) (bits .and .i64 u 511) = settle m u true := by
  simp only [bits_and, bits_andNot, BitVec.ofInt_toInt, settle, settleV, if_true]; rfl
theorem settle_drop (m u : Int) : bits .andNot .i64 (bits .andNot .i64 (bits .and .i64 m 4095) 3072) (bits .and .i64 u 511) = settle m u false := by
  simp only [bits_and, bits_andNot, BitVec.ofInt_toInt, settle, settleV]; rfl

theorem settleV_le (m u : BitVec 64) (k : Bool) : (settleV m u k).toNat ≤ 4095 := by
  unfold settleV
  have h1 := @Nat.and_le_right m.toNat 4095
  have e : ((4095#64 : BitVec 64)).toNat = 4095 := rfl
  split
  · rw [BitVec.toNat_and, BitVec.toNat_and, e]
    exact Nat.le_trans Nat.and_le_left h1
  · rw [BitVec.toNat_and, BitVec.toNat_and, BitVec.toNat_and, e]
    exact Nat.le_trans Nat.and_le_left (Nat.le_trans Nat.and_le_left h1)
theorem settle_nat (m u : Int) (k : Bool) : settle m u k = (settleV (BitVec.ofInt 64 m) (BitVec.ofInt 64 u) k).toNat := toInt_small (by have := settleV_le (BitVec.ofInt 64 m) (BitVec.ofInt 64 u) k; omega)
theorem settle_le (m u : Int) (k : Bool) : 0 ≤ settle m u k ∧ settle m u k ≤ 4095 := by
  have := settleV_le (BitVec.ofInt 64 m) (BitVec.ofInt 64 u) k
  rw [settle_nat]; omega
theorem settle_one : settle 416 0 true = 416 := by decide
theorem settle_two : settle 3583 18 false = 493 := by decide
theorem settle_mode (m u : Int) (k : Bool) : bits .andNot .i64 (settle m u k) m = 0 := by
  rw [bits_andNot, settle, BitVec.ofInt_toInt]
  have e : settleV (BitVec.ofInt 64 m) (BitVec.ofInt 64 u) k &&& ~~~ BitVec.ofInt 64 m = 0#64 := by
    apply BitVec.eq_of_getLsbD_eq
    intro i hi
    cases k <;> simp [settleV] <;> intros <;> simp_all
  rw [e]; rfl
theorem settle_umask (m u : Int) (k : Bool) : bits .and .i64 (bits .and .i64 (settle m u k) u) 511 = 0 := by
  rw [bits_and, bits_and, settle, BitVec.ofInt_toInt, BitVec.ofInt_toInt]
  have e : settleV (BitVec.ofInt 64 m) (BitVec.ofInt 64 u) k &&& BitVec.ofInt 64 u &&& BitVec.ofInt 64 511 = 0#64 := by
    apply BitVec.eq_of_getLsbD_eq
    intro i hi
    have e5 : BitVec.ofInt 64 511 = 511#64 := rfl
    rw [e5]
    cases k <;> simp [settleV] <;> intros <;> simp_all
  rw [e]; rfl
theorem settle_setid (m u : Int) : bits .and .i64 (settle m u false) 3072 = 0 := by
  rw [bits_and, settle, BitVec.ofInt_toInt]
  have e : settleV (BitVec.ofInt 64 m) (BitVec.ofInt 64 u) false &&& BitVec.ofInt 64 3072 = 0#64 := by
    apply BitVec.eq_of_getLsbD_eq
    intro i hi
    have e5 : BitVec.ofInt 64 3072 = 3072#64 := rfl
    rw [e5]
    simp [-BitVec.reduceNot, settleV] <;> intros <;> simp_all
  rw [e]; rfl
theorem settle_again (m u : Int) (k : Bool) : settle (settle m u k) u k = settle m u k := by
  simp only [settle, BitVec.ofInt_toInt]
  congr 1
  apply BitVec.eq_of_getLsbD_eq
  intro i hi
  cases k <;> simp [settleV] <;> grind
theorem settle_plain (m : Int) : settle m 0 true = bits .and .i64 m 4095 := by
  rw [bits_and, settle]
  have e5 : BitVec.ofInt 64 4095 = 4095#64 := rfl
  have e0 : BitVec.ofInt 64 0 = 0#64 := rfl
  rw [e5, e0]
  simp only [settleV, BitVec.zero_and, BitVec.not_zero, BitVec.and_allOnes, if_true]

/-! the reference's sum, bit by bit -/
def bt (x : Int) (n : Nat) : Bool := (BitVec.ofInt 64 x).getLsbD n
theorem two_wrap {n : Nat} (hn : n ≤ 12) : wrap64 ((2 : Int) ^ n) = ((2 ^ n : Nat) : Int) := by
  have h : (2 : Nat) ^ n ≤ 2 ^ 12 := Nat.pow_le_pow_right (by decide) hn
  have e : ((2 : Int) ^ n) = ((2 ^ n : Nat) : Int) := by simp
  rw [e]
  generalize (2 : Nat) ^ n = p at h
  exact IntWalk.wrap64_in _ (by omega)
theorem bit_test {x : Int} {n : Nat} (hn : n ≤ 12) : bits .and .i64 x (wrap64 ((2 : Int) ^ n)) = 0 ↔ bt x n = false := by
  rw [two_wrap hn, bits_and, ofInt_nat]
  have e : BitVec.ofNat 64 (2 ^ n) = BitVec.twoPow 64 n := by
    apply BitVec.eq_of_toNat_eq; simp [BitVec.toNat_twoPow]
  rw [e, BitVec.and_twoPow]
  unfold bt
  cases h : (BitVec.ofInt 64 x).getLsbD n
  · simp
  · simp only [if_true]
    refine ⟨fun h0 => ?_, fun h0 => by cases h0⟩
    exfalso
    have h1 : BitVec.twoPow 64 n = 0#64 := toInt_inj h0
    have h2 := congrArg BitVec.toNat h1
    rw [BitVec.toNat_twoPow] at h2
    have h3 : (2 : Nat) ^ n ≤ 2 ^ 12 := Nat.pow_le_pow_right (by decide) hn
    have h4 := Nat.two_pow_pos n
    rw [Nat.mod_eq_of_lt (by omega)] at h2
    simp at h2
def refAt (m u : Int) (k : Bool) (n : Nat) : Int := (((settleV (BitVec.ofInt 64 m) (BitVec.ofInt 64 u) k).toNat % 2 ^ n : Nat) : Int)
theorem refAt_le (m u : Int) (k : Bool) (n : Nat) : 0 ≤ refAt m u k n ∧ refAt m u k n ≤ 4095 := by
  have h := settleV_le (BitVec.ofInt 64 m) (BitVec.ofInt 64 u) k
  have h2 := Nat.mod_le (settleV (BitVec.ofInt 64 m) (BitVec.ofInt 64 u) k).toNat (2 ^ n)
  unfold refAt; omega
theorem refAt_zero (m u : Int) (k : Bool) : refAt m u k 0 = 0 := by simp [refAt, Nat.mod_one]
theorem refAt_end (m u : Int) (k : Bool) : refAt m u k 12 = settle m u k := by
  have h := settleV_le (BitVec.ofInt 64 m) (BitVec.ofInt 64 u) k
  rw [settle_nat, refAt, Nat.mod_eq_of_lt (by omega)]
theorem settle_bit (m u : Int) (k : Bool) (n : Nat) (hn : n < 12) : (settleV (BitVec.ofInt 64 m) (BitVec.ofInt 64 u) k).getLsbD n = (bt m n && !(decide (n < 9) && bt u n) && !((decide (n = 10) || decide (n = 11)) && !k)) := by
  unfold bt
  generalize BitVec.ofInt 64 m = M
  generalize BitVec.ofInt 64 u = U
  have h64 : n < 64 := by omega
  have c : ∀ a : Nat, a < 12 → (4095#64).getLsbD a = true ∧ (3072#64).getLsbD a = (decide (a = 10) || decide (a = 11)) ∧ (511#64).getLsbD a = decide (a < 9) := by decide
  obtain ⟨c1, c2, c3⟩ := c n hn
  cases k
  · simp only [settleV, Bool.false_eq_true, if_false, BitVec.getLsbD_and, BitVec.getLsbD_not, c1, c2, c3, h64, decide_true, Bool.true_and, Bool.and_true]
    generalize M.getLsbD n = a
    generalize U.getLsbD n = b
    cases a <;> cases b <;> by_cases h1 : n < 9 <;> by_cases h2 : n = 10 <;> by_cases h3 : n = 11 <;> simp [h1, h2, h3]
  · simp only [settleV, if_true, BitVec.getLsbD_and, BitVec.getLsbD_not, c1, c3, h64, decide_true, Bool.true_and, Bool.and_true]
    generalize M.getLsbD n = a
    generalize U.getLsbD n = b
    cases a <;> cases b <;> by_cases h1 : n < 9 <;> simp [h1]
theorem refAt_succ (m u : Int) (k : Bool) (n : Nat) : refAt m u k (n + 1) = refAt m u k n + if (settleV (BitVec.ofInt 64 m) (BitVec.ofInt 64 u) k).getLsbD n then ((2 ^ n : Nat) : Int) else 0 := by
  have h := Nat.mod_pow_succ (x := (settleV (BitVec.ofInt 64 m) (BitVec.ofInt 64 u) k).toNat) (b := 2) (k := n)
  unfold refAt
  rw [h]
  have e : (settleV (BitVec.ofInt 64 m) (BitVec.ofInt 64 u) k).getLsbD n = (settleV (BitVec.ofInt 64 m) (BitVec.ofInt 64 u) k).toNat.testBit n := rfl
  rw [e, Nat.testBit_eq_decide_div_mod_eq]
  generalize (settleV (BitVec.ofInt 64 m) (BitVec.ofInt 64 u) k).toNat = x
  rcases Nat.mod_two_eq_zero_or_one (x / 2 ^ n) with h0 | h0 <;> simp [h0]
theorem ref_a {m u : Int} {k : Bool} {n : Nat} (hn : n < 12) (h : bits .and .i64 m (wrap64 ((2 : Int) ^ n)) = 0) : refAt m u k n = refAt m u k (n + 1) := by
  rw [bit_test (by omega)] at h
  rw [refAt_succ, settle_bit m u k n hn, h]; simp
theorem ref_b {m u : Int} {k : Bool} {n : Nat} (hn : n < 12) (h9 : (n : Int) < 9) (h : ¬ bits .and .i64 u (wrap64 ((2 : Int) ^ n)) = 0) : refAt m u k n = refAt m u k (n + 1) := by
  rw [bit_test (by omega)] at h
  rw [refAt_succ, settle_bit m u k n hn]
  have h9' : n < 9 := by omega
  simp [h9', h]
theorem ref_c {m u : Int} {n : Nat} (hn : n < 12) (h : (n : Int) = 10 ∨ (n : Int) = 11) : refAt m u false n = refAt m u false (n + 1) := by
  rw [refAt_succ, settle_bit m u false n hn]
  have h' : n = 10 ∨ n = 11 := by omega
  rcases h' with rfl | rfl <;> simp
theorem ref_d {m u : Int} {k : Bool} {n : Nat} (hn : n < 12) (hm : ¬ bits .and .i64 m (wrap64 ((2 : Int) ^ n)) = 0) (hu : (n : Int) < 9 → bits .and .i64 u (wrap64 ((2 : Int) ^ n)) = 0)
    (hk : (n : Int) = 10 ∨ (n : Int) = 11 → k = true) : wrap64 (refAt m u k n + wrap64 ((2 : Int) ^ n)) = refAt m u k (n + 1) := by
  have hb := refAt_le m u k n
  have hb2 := refAt_le m u k (n + 1)
  rw [bit_test (by omega)] at hm hu
  have e : refAt m u k (n + 1) = refAt m u k n + ((2 ^ n : Nat) : Int) := by
    rw [refAt_succ, settle_bit m u k n hn]
    have hm' : bt m n = true := by simpa using hm
    by_cases h9 : n < 9
    · have := hu (by omega)
      have h10 : ¬ n = 10 := by omega
      have h11 : ¬ n = 11 := by omega
      simp [hm', this, h10, h11]
    · by_cases h10 : n = 10 ∨ n = 11
      · have := hk (by omega)
        simp [hm', h9, this]
      · have a : ¬ n = 10 := by omega
        have b : ¬ n = 11 := by omega
        simp [hm', h9, a, b]
  rw [two_wrap (by omega), e]
  exact IntWalk.wrap64_in _ (by omega)
/-! May -/
def mayB (m n : Int) : Bool := bits .and .i64 m n == n
theorem may_two : mayB 448 192 = true := by decide
theorem may_eq (m n : Int) : (bits .and .i64 m n == n) = (bits .andNot .i64 n m == 0) ∨ ¬ (-9223372036854775808 ≤ n ∧ n ≤ 9223372036854775807) := by
  by_cases h : -9223372036854775808 ≤ n ∧ n ≤ 9223372036854775807
  · left
    rw [bits_and, bits_andNot, Bool.eq_iff_iff, beq_iff_eq, beq_iff_eq]
    have e := toInt_ofInt h
    rw [← e, BitVec.ofInt_toInt]
    generalize BitVec.ofInt 64 n = N
    generalize BitVec.ofInt 64 m = M
    constructor
    · intro h1
      have h2 := toInt_inj h1
      have : N &&& ~~~ M = 0#64 := by
        rw [← h2]
        apply BitVec.eq_of_getLsbD_eq
        intro i hi
        simp <;> intros <;> simp_all
      rw [this]; rfl
    · intro h1
      have h2 : N &&& ~~~ M = 0#64 := toInt_inj h1
      congr 1
      apply BitVec.eq_of_getLsbD_eq
      intro i hi
      have h3 := congrArg (fun x => x.getLsbD i) h2
      simp [hi] at h3
      simp [BitVec.getLsbD_and]
      intro h4
      have := h3
      grind
  · right; exact h

end Go.Proofs.YtbkclmpopofebaaDoor
