/-
  Plain: what perms.Parse and the reference's Parse compute is one; Text is the way back; no program in sight.
-/
import Derived.Test.YtbkclmpopofebaaParseRef
import Derived.Test.YtbkclmpopofebaaBt
namespace Go.Proofs.Ytbkclmpopofebaa
open Go.RowKit

/-! the letters of a triple -/
structure TriOk (a b c sm t : Int) (s : Bool) : Prop where
  ha : a = 114 ∨ a = 45
  hb : b = 119 ∨ b = 45
  hc : c = 45 ∨ c = 120 ∨ c = sm ∨ c = sm - 32
  t0 : 0 ≤ t
  t8 : t < 8
  b2 : bt t 2 = (a == 114)
  b1 : bt t 1 = (b == 119)
  b0 : bt t 0 = (c == 120 || c == sm)
  hs : s = (c == sm || c == sm - 32)

theorem bq {x y : Int} (h : ¬ x = y) : (x == y) = false := by simpa using h
theorem bq' {x y : Int} (h : ¬ x = y) : (x != y) = true := by simpa using h
theorem tri_ok {a b c sm t : Int} {s : Bool} (hsm : sm = 115 ∨ sm = 116) (h : tri a b c sm = some (t, s)) : TriOk a b c sm t s := by
  have hA : a = 114 ∨ a = 45 := by
    by_cases a1 : a = 114
    · exact Or.inl a1
    · by_cases a2 : a = 45
      · exact Or.inr a2
      · simp [tri, triA, bq a1, bq' a2] at h
  have hB : b = 119 ∨ b = 45 := by
    by_cases b1 : b = 119
    · exact Or.inl b1
    · by_cases b2 : b = 45
      · exact Or.inr b2
      · rcases hA with rfl | rfl <;> simp [tri, triA, triB, bq b1, bq' b2] at h
  have hC : c = 45 ∨ c = 120 ∨ c = sm ∨ c = sm - 32 := by
    by_cases c1 : c = 45
    · exact Or.inl c1
    · by_cases c2 : c = 120
      · exact Or.inr (Or.inl c2)
      · by_cases c3 : c = sm
        · exact Or.inr (Or.inr (Or.inl c3))
        · by_cases c4 : c = sm - 32
          · exact Or.inr (Or.inr (Or.inr c4))
          · rcases hA with rfl | rfl <;> rcases hB with rfl | rfl <;> simp [tri, triA, triB, triC, bq c1, bq c2, bq c3, bq c4] at h
  rcases hsm with rfl | rfl <;> rcases hA with rfl | rfl <;> rcases hB with rfl | rfl <;> rcases hC with rfl | rfl | rfl | rfl
  all_goals
    simp [tri, triA, triB, triC] at h
    obtain ⟨rfl, rfl⟩ := h
    exact ⟨by simp, by simp, by simp, by decide, by decide, by decide, by decide, by decide, by decide⟩
theorem tri_some {a b c sm : Int} (hsm : sm = 115 ∨ sm = 116) (hA : a = 114 ∨ a = 45) (hB : b = 119 ∨ b = 45) (hC : c = 45 ∨ c = 120 ∨ c = sm ∨ c = sm - 32) : ∃ t s, tri a b c sm = some (t, s) := by
  rcases hsm with rfl | rfl <;> rcases hA with rfl | rfl <;> rcases hB with rfl | rfl <;> rcases hC with rfl | rfl | rfl | rfl <;> exact ⟨_, _, rfl⟩

/-! the mode's bits, step by step -/
theorem mask_hi (j : Nat) (hj : j < 64) : bt 3584 j = (decide (9 ≤ j) && decide (j < 12)) := by
  by_cases h : j < 12
  · have : ∀ a : Nat, a < 12 → bt 3584 a = (decide (9 ≤ a) && decide (a < 12)) := by decide
    exact this j h
  · rw [bt_high (k := 12) (by decide) (by decide) (by decide) j (by omega)]; simp [h]
theorem mask_lo (j : Nat) (hj : j < 64) : bt 511 j = decide (j < 9) := by
  by_cases h : j < 9
  · have : ∀ a : Nat, a < 9 → bt 511 a = decide (a < 9) := by decide
    exact this j h
  · rw [bt_high (k := 9) (by decide) (by decide) (by decide) j (by omega)]; simp [h]
theorem low9 (m : Int) : 0 ≤ bits .and .i64 m 511 ∧ bits .and .i64 m 511 < 512 := by
  have := bt_low (a := bits .and .i64 m 511) (k := 9) (bits_range _ _ _ (Or.inl rfl)) (by decide) (fun j hj hj2 => by rw [bt_and, mask_lo j hj2]; simp; omega)
  exact ⟨this.1, by simpa using this.2⟩
theorem bt_times8 {a : Int} (h0 : 0 ≤ a) (h1 : a < 512) (j : Nat) : bt (a * 8) j = (decide (3 ≤ j) && bt a (j - 3)) := by
  obtain ⟨n, rfl⟩ := Int.eq_ofNat_of_zero_le h0
  have e : ((n : Int) * 8) = ((n * 8 : Nat) : Int) := by omega
  rw [e, bt_nat _ _ (by omega), bt_nat _ _ (by omega)]
  have e2 : n * 8 = n <<< 3 := by rw [Nat.shiftLeft_eq]
  rw [e2, Nat.testBit_shiftLeft]
theorem bt_pmA (m t : Int) (h0 : 0 ≤ t) (h8 : t < 8) (j : Nat) (hj : j < 64) : bt (pmA m t) j = ((decide (9 ≤ j) && decide (j < 12) && bt m j) || (decide (3 ≤ j) && decide (j < 12) && bt m (j - 3)) || (decide (j < 3) && bt t j)) := by
  have l9 := low9 m
  unfold pmA
  rw [bt_or, bt_or, bt_and, mask_hi j hj, IntWalk.wrap64_in _ (by omega), bt_times8 l9.1 l9.2, bt_and, mask_lo (j - 3) (by omega)]
  by_cases h3 : j < 3
  · have : ¬ 3 ≤ j := by omega
    have h9 : ¬ 9 ≤ j := by omega
    simp [h3, this, h9]
  · have ht : bt t j = false := bt_high (k := 3) h0 (by simpa using h8) (by decide) j (by omega)
    have e3 : 3 ≤ j := by omega
    rw [ht]
    by_cases h12 : j < 12
    · have : j - 3 < 9 := by omega
      by_cases h9 : 9 ≤ j <;> simp [h3, e3, h12, this, h9]
    · have : ¬ j - 3 < 9 := by omega
      simp [h3, h12, this]
theorem bt_two (n : Nat) (hn : n ≤ 12) (j : Nat) : bt ((2 ^ n : Nat) : Int) j = decide (n = j) := by
  have h : (2 : Nat) ^ n ≤ 2 ^ 12 := Nat.pow_le_pow_right (by decide) hn
  rw [bt_nat _ _ (by omega), Nat.testBit_two_pow]
theorem bt_sb (i : Nat) (hi : i < 3) (j : Nat) : bt (sbI i) j = decide (11 - i = j) := by
  match i, hi with
  | 0, _ => exact bt_two 11 (by omega) j
  | 1, _ => exact bt_two 10 (by omega) j
  | 2, _ => exact bt_two 9 (by omega) j
theorem bt_pmStep (m t : Int) (s : Bool) (i : Nat) (hi : i < 3) (h0 : 0 ≤ t) (h8 : t < 8) (j : Nat) (hj : j < 64) :
    bt (pmStep m t s (sbI i)) j = ((((decide (9 ≤ j) && decide (j < 12) && bt m j) || (decide (3 ≤ j) && decide (j < 12) && bt m (j - 3))) || (decide (j < 3) && bt t j)) || (s && decide (11 - i = j))) := by
  unfold pmStep
  cases s
  · simp only [Bool.false_eq_true, if_false, Bool.false_and, Bool.or_false]
    exact bt_pmA m t h0 h8 j hj
  · simp only [if_true, Bool.true_and]
    rw [bt_or, bt_pmA m t h0 h8 j hj, bt_sb i hi]
theorem pst3 {l : List UInt8} {M : Int} (h : pst l 3 = some M) : ∃ t0 s0 t1 s1 t2 s2, triAt l 0 = some (t0, s0) ∧ triAt l 1 = some (t1, s1) ∧ triAt l 2 = some (t2, s2) ∧
    M = pmStep (pmStep (pmStep 0 t0 s0 (sbI 0)) t1 s1 (sbI 1)) t2 s2 (sbI 2) := by
  simp only [pst] at h
  cases h0 : triAt l 0 with
  | none => simp [h0] at h
  | some x0 =>
    cases h1 : triAt l 1 with
    | none => simp [h0, h1] at h
    | some x1 =>
      cases h2 : triAt l 2 with
      | none => simp [h0, h1, h2] at h
      | some x2 =>
        simp [h0, h1, h2] at h
        exact ⟨x0.1, x0.2, x1.1, x1.2, x2.1, x2.2, rfl, rfl, rfl, h.symm⟩
/-- what the three triples make: bit by bit -/
def mb (t0 t1 t2 : Int) (s0 s1 s2 : Bool) (j : Nat) : Bool :=
  if j < 3 then bt t2 j else if j < 6 then bt t1 (j - 3) else if j < 9 then bt t0 (j - 6) else if j = 9 then s2 else if j = 10 then s1 else if j = 11 then s0 else false
theorem pm3_bits {t0 t1 t2 : Int} {s0 s1 s2 : Bool} (a0 : 0 ≤ t0 ∧ t0 < 8) (a1 : 0 ≤ t1 ∧ t1 < 8) (a2 : 0 ≤ t2 ∧ t2 < 8) (j : Nat) (hj : j < 64) :
    bt (pmStep (pmStep (pmStep 0 t0 s0 (sbI 0)) t1 s1 (sbI 1)) t2 s2 (sbI 2)) j = mb t0 t1 t2 s0 s1 s2 j := by
  by_cases h12 : j < 12
  · match j, h12 with
    | 0, _ | 1, _ | 2, _ | 3, _ | 4, _ | 5, _ | 6, _ | 7, _ | 8, _ | 9, _ | 10, _ | 11, _ =>
      simp [bt_pmStep _ _ _ 2 (by omega) a2.1 a2.2, bt_pmStep _ _ _ 1 (by omega) a1.1 a1.2, bt_pmStep _ _ _ 0 (by omega) a0.1 a0.2, bt_zero, mb]
  · rw [bt_pmStep _ _ _ 2 (by omega) a2.1 a2.2 j hj]
    have e1 : ¬ j < 3 := by omega
    have e2 : ¬ j < 6 := by omega
    have e3 : ¬ j < 9 := by omega
    have e4 : ¬ j = 9 := by omega
    have e5 : ¬ j = 10 := by omega
    have e6 : ¬ j = 11 := by omega
    have e7 : ¬ 9 = j := by omega
    simp [mb, h12, e1, e2, e3, e4, e5, e6, e7]
/-! the reference's mode -/
theorem bt_rstep (k : Nat) (hk : k < 9) (c m : Int) (j : Nat) : bt (rstep k c m) j =
    (bt m j || (c != 45 && (k % 3 != 2 || ((c == 120 || c == 115) || c == 116)) && decide (8 - k = j)) || (c != 45 && k % 3 == 2 && c != 120 && decide (11 - k / 3 = j))) := by
  have e1 : bt (bitv k) j = decide (8 - k = j) := by unfold bitv; rw [half k hk]; exact bt_two _ (by omega) j
  have e2 : k % 3 = 2 → bt (spI k) j = decide (11 - k / 3 = j) := by
    intro _
    unfold spI
    rcases (show k / 3 = 0 ∨ k / 3 = 1 ∨ k / 3 = 2 by omega) with h | h | h <;> rw [h]
    · exact bt_two 11 (by omega) j
    · exact bt_two 10 (by omega) j
    · exact bt_two 9 (by omega) j
  unfold rstep
  by_cases h2 : k % 3 = 2
  · have e2' := e2 h2
    have hb2 : (k % 3 == 2) = true := by simp [h2]
    have hb3 : (k % 3 != 2) = false := by simp [h2]
    rw [hb2, hb3]
    cases c1 : (c != 45)
    · simp
    · cases c2 : ((c == 120 || c == 115) || c == 116) <;> cases c3 : (c != 120) <;> simp [bt_or, e1, e2']
  · have hb2 : (k % 3 == 2) = false := by simp [h2]
    have hb3 : (k % 3 != 2) = true := by simp [h2]
    rw [hb2, hb3]
    cases c1 : (c != 45) <;> simp [bt_or, e1]
theorem rm_hi (l : List UInt8) (k : Nat) (hk : k ≤ 9) (j : Nat) (hj : 12 ≤ j) : bt (rm l k) j = false := by
  induction k with
  | zero => exact bt_zero j
  | succ k ih =>
    rw [rm_succ, bt_rstep k (by omega), ih (by omega)]
    have e1 : ¬ 8 - k = j := by omega
    have e2 : ¬ 11 - k / 3 = j := by omega
    simp [e1, e2]
theorem rm_range (l : List UInt8) (k : Nat) : -9223372036854775808 ≤ rm l k ∧ rm l k ≤ 9223372036854775807 := by
  induction k with
  | zero => simp [rm]
  | succ k ih =>
    have h := fun a b => bits_range .or a b (Or.inr (Or.inl rfl))
    rw [rm_succ]
    unfold rstep
    cases (by' l (k + 1) != 45)
    · exact ih
    · cases (k % 3 == 2)
      · exact h _ _
      · cases (by' l (k + 1) != 120)
        · simp only [cond_true, cond_false]
          cases ((by' l (k + 1) == 120 || by' l (k + 1) == 115) || by' l (k + 1) == 116)
          · exact ih
          · exact h _ _
        · exact h _ _
theorem rm_le (l : List UInt8) : 0 ≤ rm l 9 ∧ rm l 9 ≤ 4095 := by
  have := bt_low (rm_range l 9) (k := 12) (by decide) (fun j hj _ => rm_hi l 9 (by omega) j hj)
  have h2 := this.2
  simp at h2
  omega
theorem list10 {l : List UInt8} (h : l.length = 10) : ∃ c0 c1 c2 c3 c4 c5 c6 c7 c8 c9, l = [c0, c1, c2, c3, c4, c5, c6, c7, c8, c9] := by
  match l, h with
  | [c0, c1, c2, c3, c4, c5, c6, c7, c8, c9], _ => exact ⟨_, _, _, _, _, _, _, _, _, _, rfl⟩
theorem rk_kidx (l : List UInt8) : rk l 5 = kidx l + 1 := by
  unfold kidx
  simp only [rk, by', kinds5]
  generalize l.getD 0 0 = c
  by_cases h1 : c = 45
  · subst h1; decide
  by_cases h2 : c = 100
  · subst h2; decide
  by_cases h3 : c = 108
  · subst h3; decide
  by_cases h4 : c = 104
  · subst h4; decide
  by_cases h5 : c = 63
  · subst h5; decide
  have g : ∀ d : UInt8, ¬ c = d → ((c.toNat : Int) == (d.toNat : Int)) = false := fun d h => by
    refine bq fun e => h ?_
    exact UInt8.toNat_inj.1 (by omega)
  have g2 : ∀ d : UInt8, ¬ c = d → (d == c) = false := fun d h => by simpa using fun e => h e.symm
  have q1 : ((c.toNat : Int) == 45) = false := g 45 h1
  have q2 : ((c.toNat : Int) == 100) = false := g 100 h2
  have q3 : ((c.toNat : Int) == 108) = false := g 108 h3
  have q4 : ((c.toNat : Int) == 104) = false := g 104 h4
  have q5 : ((c.toNat : Int) == 63) = false := g 63 h5
  have p1 := g2 45 h1; have p2 := g2 100 h2; have p3 := g2 108 h3; have p4 := g2 104 h4; have p5 := g2 63 h5
  simp [Lib.indexByte, p1, p2, p3, p4, p5, List.getD, q1, q2, q3, q4, q5]
theorem kb_kidx {l : List UInt8} (h : 0 ≤ kidx l) : kb (kidx l + 1) = l.getD 0 0 := by
  revert h
  unfold kidx
  generalize l.getD 0 0 = c
  by_cases h1 : c = 45
  · subst h1; decide
  by_cases h2 : c = 100
  · subst h2; decide
  by_cases h3 : c = 108
  · subst h3; decide
  by_cases h4 : c = 104
  · subst h4; decide
  by_cases h5 : c = 63
  · subst h5; decide
  have g2 : ∀ d : UInt8, ¬ c = d → (d == c) = false := fun d h => by simpa using fun e => h e.symm
  have p1 := g2 45 h1; have p2 := g2 100 h2; have p3 := g2 108 h3; have p4 := g2 104 h4; have p5 := g2 63 h5
  simp [Lib.indexByte, p1, p2, p3, p4, p5]
theorem kidx_text {k m : Int} (h1 : 1 ≤ k) (h5 : k ≤ 5) : kidx (textL k m) = k - 1 := by
  rcases (show k = 1 ∨ k = 2 ∨ k = 3 ∨ k = 4 ∨ k = 5 by omega) with rfl | rfl | rfl | rfl | rfl
  all_goals
    unfold kidx
    have e : ∀ k : Int, (textL k m).getD 0 0 = kb k := fun _ => rfl
    rw [e]
    decide
/-- Text, then the reference's reading: the mode -/
theorem rm_text {k m : Int} (h0 : 0 ≤ m) (h1 : m ≤ 4095) : rm (textL k m) 9 = m := by
  refine bt_ext (rm_range _ _) (by omega) fun j hj => ?_
  by_cases h12 : j < 12
  · have e1 : by' (textL k m) 1 = ((lb m 8).toNat : Int) := rfl
    have e2 : by' (textL k m) 2 = ((lb m 7).toNat : Int) := rfl
    have e3 : by' (textL k m) 3 = ((sp m 6 0).toNat : Int) := rfl
    have e4 : by' (textL k m) 4 = ((lb m 5).toNat : Int) := rfl
    have e5 : by' (textL k m) 5 = ((lb m 4).toNat : Int) := rfl
    have e6 : by' (textL k m) 6 = ((sp m 3 1).toNat : Int) := rfl
    have e7 : by' (textL k m) 7 = ((lb m 2).toNat : Int) := rfl
    have e8 : by' (textL k m) 8 = ((lb m 1).toNat : Int) := rfl
    have e9 : by' (textL k m) 9 = ((sp m 0 2).toNat : Int) := rfl
    have z : ∀ j, bt (rm (textL k m) 0) j = false := fun j => bt_zero j
    simp only [rm_succ]
    rw [e1, e2, e3, e4, e5, e6, e7, e8, e9]
    match j, h12 with
    | 0, _ | 3, _ | 6, _ | 9, _ | 10, _ | 11, _ =>
      simp only [bt_rstep _ (show 8 < 9 by omega), bt_rstep _ (show 7 < 9 by omega), bt_rstep _ (show 6 < 9 by omega), bt_rstep _ (show 5 < 9 by omega), bt_rstep _ (show 4 < 9 by omega), bt_rstep _ (show 3 < 9 by omega), bt_rstep _ (show 2 < 9 by omega), bt_rstep _ (show 1 < 9 by omega), bt_rstep _ (show 0 < 9 by omega), z]
      simp [sp, lb, rwx]
      first
        | (cases bt m 11 <;> cases bt m 6 <;> decide)
        | (cases bt m 10 <;> cases bt m 3 <;> decide)
        | (cases bt m 9 <;> cases bt m 0 <;> decide)
    | 1, _ | 2, _ | 4, _ | 5, _ | 7, _ | 8, _ =>
      simp only [bt_rstep _ (show 8 < 9 by omega), bt_rstep _ (show 7 < 9 by omega), bt_rstep _ (show 6 < 9 by omega), bt_rstep _ (show 5 < 9 by omega), bt_rstep _ (show 4 < 9 by omega), bt_rstep _ (show 3 < 9 by omega), bt_rstep _ (show 2 < 9 by omega), bt_rstep _ (show 1 < 9 by omega), bt_rstep _ (show 0 < 9 by omega), z]
      simp [lb, rwx]
      try (split <;> simp [*])
  · rw [rm_hi _ _ (by omega) _ (by omega), bt_high (k := 12) h0 (by simp; omega) (by decide) j (by omega)]
theorem rm_bits (l : List UInt8) :
    (bt (rm l 9) 8 = (by' l 1 != 45) ∧ bt (rm l 9) 7 = (by' l 2 != 45) ∧ bt (rm l 9) 6 = (by' l 3 != 45 && ((by' l 3 == 120 || by' l 3 == 115) || by' l 3 == 116)) ∧ bt (rm l 9) 11 = (by' l 3 != 45 && by' l 3 != 120)) ∧
    (bt (rm l 9) 5 = (by' l 4 != 45) ∧ bt (rm l 9) 4 = (by' l 5 != 45) ∧ bt (rm l 9) 3 = (by' l 6 != 45 && ((by' l 6 == 120 || by' l 6 == 115) || by' l 6 == 116)) ∧ bt (rm l 9) 10 = (by' l 6 != 45 && by' l 6 != 120)) ∧
    (bt (rm l 9) 2 = (by' l 7 != 45) ∧ bt (rm l 9) 1 = (by' l 8 != 45) ∧ bt (rm l 9) 0 = (by' l 9 != 45 && ((by' l 9 == 120 || by' l 9 == 115) || by' l 9 == 116)) ∧ bt (rm l 9) 9 = (by' l 9 != 45 && by' l 9 != 120)) := by
  have z : ∀ j, bt (rm l 0) j = false := fun j => bt_zero j
  simp only [rm_succ]
  simp only [bt_rstep _ (show 8 < 9 by omega), bt_rstep _ (show 7 < 9 by omega), bt_rstep _ (show 6 < 9 by omega), bt_rstep _ (show 5 < 9 by omega), bt_rstep _ (show 4 < 9 by omega), bt_rstep _ (show 3 < 9 by omega), bt_rstep _ (show 2 < 9 by omega), bt_rstep _ (show 1 < 9 by omega), bt_rstep _ (show 0 < 9 by omega), z]
  simp
theorem nat_u8 {c : UInt8} {n : Nat} (h : (c.toNat : Int) = n) (hn : n < 256) : c = UInt8.ofNat n := by
  apply UInt8.toNat_inj.1
  have : c.toNat = n := by omega
  rw [this]
  simp; omega
/-- the letters of a triple that is well-formed are those of its bits -/
theorem tri_letters {R t : Int} {a b c : UInt8} {s : Bool} (x y z q i : Nat) (hx : rwx x = 114) (hy : rwx y = 119) (hz : rwx z = 120) (hi : i < 3) (hq : q = 11 - i) {sm : Int} (hsm : sm = if i = 2 then 116 else 115)
    (T : TriOk (a.toNat : Int) (b.toNat : Int) (c.toNat : Int) sm t s)
    (r1 : bt R x = ((a.toNat : Int) != 45)) (r2 : bt R y = ((b.toNat : Int) != 45)) (r3 : bt R z = ((c.toNat : Int) != 45 && (((c.toNat : Int) == 120 || (c.toNat : Int) == 115) || (c.toNat : Int) == 116))) (r4 : bt R q = ((c.toNat : Int) != 45 && (c.toNat : Int) != 120)) :
    (lb R x = a ∧ lb R y = b ∧ sp R z i = c) ∧ (bt R x = bt t 2 ∧ bt R y = bt t 1 ∧ bt R z = bt t 0 ∧ bt R q = s) := by
  have hA : a = 114 ∨ a = 45 := T.ha.imp (fun h => nat_u8 (n := 114) h (by omega)) (fun h => nat_u8 (n := 45) h (by omega))
  have hB : b = 119 ∨ b = 45 := T.hb.imp (fun h => nat_u8 (n := 119) h (by omega)) (fun h => nat_u8 (n := 45) h (by omega))
  subst hq
  by_cases h2 : i = 2
  · subst h2
    simp only [if_true] at hsm
    subst hsm
    have hC : c = 45 ∨ c = 120 ∨ c = 116 ∨ c = 84 := T.hc.imp (fun h => nat_u8 (n := 45) h (by omega)) (fun h => h.imp (fun h => nat_u8 (n := 120) h (by omega)) (fun h => h.imp (fun h => nat_u8 (n := 116) h (by omega)) (fun h => nat_u8 (n := 84) h (by omega))))
    have h4 := T.b2; have h5 := T.b1; have h6 := T.b0; have h7 := T.hs
    clear T
    rcases hA with rfl | rfl <;> rcases hB with rfl | rfl <;> rcases hC with rfl | rfl | rfl | rfl <;> simp at r1 r2 r3 r4 h4 h5 h6 h7 <;> simp [lb, sp, hx, hy, hz, r1, r2, r3, r4, h4, h5, h6, h7]
  · simp only [h2, if_false] at hsm
    subst hsm
    have hC : c = 45 ∨ c = 120 ∨ c = 115 ∨ c = 83 := T.hc.imp (fun h => nat_u8 (n := 45) h (by omega)) (fun h => h.imp (fun h => nat_u8 (n := 120) h (by omega)) (fun h => h.imp (fun h => nat_u8 (n := 115) h (by omega)) (fun h => nat_u8 (n := 83) h (by omega))))
    have h4 := T.b2; have h5 := T.b1; have h6 := T.b0; have h7 := T.hs
    clear T
    rcases hA with rfl | rfl <;> rcases hB with rfl | rfl <;> rcases hC with rfl | rfl | rfl | rfl <;> simp at r1 r2 r3 r4 h4 h5 h6 h7 <;> simp [lb, sp, hx, hy, hz, h2, r1, r2, r3, r4, h4, h5, h6, h7]
theorem pst_ref {l : List UInt8} {M : Int} (hl : l.length = 10) (h : pst l 3 = some M) : M = rm l 9 ∧ ∀ k, kb k = l.getD 0 0 → textL k (rm l 9) = l := by
  obtain ⟨t0, s0, t1, s1, t2, s2, h0, h1, h2, rfl⟩ := pst3 h
  obtain ⟨c0, c1, c2, c3, c4, c5, c6, c7, c8, c9, rfl⟩ := list10 hl
  have T0 := tri_ok (Or.inl rfl) h0
  have T1 := tri_ok (Or.inl rfl) h1
  have T2 := tri_ok (Or.inr rfl) h2
  obtain ⟨⟨a1, a2, a3, a4⟩, ⟨b1, b2, b3, b4⟩, ⟨d1, d2, d3, d4⟩⟩ := rm_bits [c0, c1, c2, c3, c4, c5, c6, c7, c8, c9]
  obtain ⟨⟨l1, l2, l3⟩, m1, m2, m3, m4⟩ := tri_letters (a := c1) (b := c2) (c := c3) 8 7 6 11 0 rfl rfl rfl (by omega) rfl rfl T0 a1 a2 a3 a4
  obtain ⟨⟨l4, l5, l6⟩, n1, n2, n3, n4⟩ := tri_letters (a := c4) (b := c5) (c := c6) 5 4 3 10 1 rfl rfl rfl (by omega) rfl rfl T1 b1 b2 b3 b4
  obtain ⟨⟨l7, l8, l9⟩, o1, o2, o3, o4⟩ := tri_letters (a := c7) (b := c8) (c := c9) 2 1 0 9 2 rfl rfl rfl (by omega) rfl rfl T2 d1 d2 d3 d4
  constructor
  · have hr : ∀ m t : Int, ∀ s : Bool, ∀ b : Int, -9223372036854775808 ≤ pmStep m t s b ∧ pmStep m t s b ≤ 9223372036854775807 := fun m t s b => by
      unfold pmStep pmA; split <;> exact bits_range _ _ _ (Or.inr (Or.inl rfl))
    refine bt_ext (hr _ _ _ _) (rm_range _ _) fun j hj => ?_
    rw [pm3_bits ⟨T0.t0, T0.t8⟩ ⟨T1.t0, T1.t8⟩ ⟨T2.t0, T2.t8⟩ j hj]
    by_cases h12 : j < 12
    · match j, h12 with
      | 0, _ => exact o3.symm
      | 1, _ => exact o2.symm
      | 2, _ => exact o1.symm
      | 3, _ => exact n3.symm
      | 4, _ => exact n2.symm
      | 5, _ => exact n1.symm
      | 6, _ => exact m3.symm
      | 7, _ => exact m2.symm
      | 8, _ => exact m1.symm
      | 9, _ => exact o4.symm
      | 10, _ => exact n4.symm
      | 11, _ => exact m4.symm
    · rw [rm_hi _ _ (by omega) j (by omega)]
      have e1 : ¬ j < 3 := by omega
      have e2 : ¬ j < 6 := by omega
      have e3 : ¬ j < 9 := by omega
      have e4 : ¬ j = 9 := by omega
      have e5 : ¬ j = 10 := by omega
      have e6 : ¬ j = 11 := by omega
      simp [mb, e1, e2, e3, e4, e5, e6]
  · intro k hk
    have hk' : kb k = c0 := hk
    show [kb k, lb _ 8, lb _ 7, sp _ 6 0, lb _ 5, lb _ 4, sp _ 3 1, lb _ 2, lb _ 1, sp _ 0 2] = _
    rw [hk', l1, l2, l3, l4, l5, l6, l7, l8, l9]
theorem tri_text (k m : Int) (i : Nat) (hi : i < 3) : ∃ t s, triAt (textL k m) i = some (t, s) := by
  have hl : ∀ j, lb m j = rwx j ∨ lb m j = 45 := fun j => by unfold lb; cases bt m j <;> simp
  have hs : ∀ j s, j % 3 = 0 → sp m j s = 45 ∨ sp m j s = 120 ∨ sp m j s = (if s = 2 then 116 else 115) ∨ sp m j s = (if s = 2 then 84 else 83) := fun j s h => by
    unfold sp lb rwx
    cases bt m (11 - s) <;> cases bt m j <;> simp [h]
  match i, hi with
  | 0, _ =>
    refine tri_some (a := ((lb m 8).toNat : Int)) (b := ((lb m 7).toNat : Int)) (c := ((sp m 6 0).toNat : Int)) (Or.inl rfl) ?_ ?_ ?_
    · rcases hl 8 with h | h <;> rw [h] <;> decide
    · rcases hl 7 with h | h <;> rw [h] <;> decide
    · rcases hs 6 0 rfl with h | h | h | h <;> rw [h] <;> decide
  | 1, _ =>
    refine tri_some (a := ((lb m 5).toNat : Int)) (b := ((lb m 4).toNat : Int)) (c := ((sp m 3 1).toNat : Int)) (Or.inl rfl) ?_ ?_ ?_
    · rcases hl 5 with h | h <;> rw [h] <;> decide
    · rcases hl 4 with h | h <;> rw [h] <;> decide
    · rcases hs 3 1 rfl with h | h | h | h <;> rw [h] <;> decide
  | 2, _ =>
    refine tri_some (a := ((lb m 2).toNat : Int)) (b := ((lb m 1).toNat : Int)) (c := ((sp m 0 2).toNat : Int)) (Or.inr rfl) ?_ ?_ ?_
    · rcases hl 2 with h | h <;> rw [h] <;> decide
    · rcases hl 1 with h | h <;> rw [h] <;> decide
    · rcases hs 0 2 rfl with h | h | h | h <;> rw [h] <;> decide
theorem pst_text (k m : Int) : pst (textL k m) 3 ≠ none := by
  obtain ⟨t0, s0, h0⟩ := tri_text k m 0 (by omega)
  obtain ⟨t1, s1, h1⟩ := tri_text k m 1 (by omega)
  obtain ⟨t2, s2, h2⟩ := tri_text k m 2 (by omega)
  simp [pst, h0, h1, h2]
/-- THE PLAIN LAW: the two readings are one -/
theorem parse_one (l : List UInt8) : parseP l = parseR l := by
  unfold parseP parseR
  by_cases hl : l.length = 10
  · by_cases hk : 0 ≤ kidx l
    · rw [if_pos ⟨hl, hk⟩]
      have hr := rk_kidx l
      cases hp : pst l 3 with
      | none =>
        rw [if_neg]
        rintro ⟨_, _, h3⟩
        exact pst_text (rk l 5) (rm l 9) (by rw [h3]; exact hp)
      | some M =>
        obtain ⟨rfl, h2⟩ := pst_ref hl hp
        rw [if_pos ⟨hl, by omega, h2 _ (by rw [hr]; exact kb_kidx hk)⟩, hr]
    · rw [if_neg (fun h => hk h.2), if_neg (fun h => hk (by have := rk_kidx l; have := h.2.1; omega))]
  · rw [if_neg (fun h => hl h.1), if_neg (fun h => hl h.1)]
/-- what is read is of the text, or refused -/
theorem parse_text {k m : Int} (h1 : 1 ≤ k) (h5 : k ≤ 5) (h0 : 0 ≤ m) (hm : m ≤ 4095) : parseP (textL k m) = (k, m, 0) := by
  rw [parse_one]
  unfold parseR
  have e1 : rk (textL k m) 5 = k := by rw [rk_kidx, kidx_text h1 h5]; omega
  rw [e1, rm_text h0 hm, if_pos ⟨rfl, h1, rfl⟩]
theorem parse_back (l : List UInt8) : parseP l = (0, 0, 120) ∨ ∃ k m, parseP l = (k, m, 0) ∧ 1 ≤ k ∧ k ≤ 5 ∧ 0 ≤ m ∧ m ≤ 4095 ∧ textL k m = l := by
  rw [parse_one]
  unfold parseR
  by_cases h : l.length = 10 ∧ 1 ≤ rk l 5 ∧ textL (rk l 5) (rm l 9) = l
  · rw [if_pos h]
    have := rk_le l 5
    have := rm_le l
    exact Or.inr ⟨_, _, rfl, h.2.1, by omega, by omega, by omega, h.2.2⟩
  · rw [if_neg h]; exact Or.inl rfl
end Go.Proofs.Ytbkclmpopofebaa
