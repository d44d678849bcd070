/-
  A batch of charges, plain: what it answers, what its counts obey, and that a refused charge turns nothing.
-/
import Derived.Test.YtejeepmcoafdcaaStep
namespace Go.Proofs.Ytejeepmcoafdcaa
set_option linter.unusedVariables false

/-- a batch: how many charges are done, the answer, both counts behind it -/
def batch (mE mB : Int) : List (Int × Int) → Int → Int → Nat × Int × Int × Int
  | [], e, b => (0, 0, e, b)
  | c :: xs, e, b =>
    if chargeErr mE mB e b c.1 c.2 = 0 then
      ((batch mE mB xs (chargeE mE e c.1) (chargeB mB b c.1 c.2)).1 + 1, (batch mE mB xs (chargeE mE e c.1) (chargeB mB b c.1 c.2)).2)
    else (0, chargeErr mE mB e b c.1 c.2, chargeE mE e c.1, chargeB mB b c.1 c.2)

/-- k charges more, ahead -/
def plus (k : Nat) (r : Nat × Int × Int × Int) : Nat × Int × Int × Int := (r.1 + k, r.2)
theorem plus_zero (r : Nat × Int × Int × Int) : plus 0 r = r := rfl

theorem drop_at (xs : List (Int × Int)) (k : Nat) (h : k < xs.length) : xs.drop k = xs.getD k (0, 0) :: xs.drop (k + 1) := by
  rw [List.drop_eq_getElem_cons h]
  simp [List.getD, List.getElem?_eq_getElem h]
theorem batch_go {mE mB : Int} {xs : List (Int × Int)} {e b : Int} {k : Nat} (h : k < xs.length) (hz : chargeErr mE mB e b (xs.getD k (0, 0)).1 (xs.getD k (0, 0)).2 = 0) :
    plus k (batch mE mB (xs.drop k) e b) = plus (k + 1) (batch mE mB (xs.drop (k + 1)) (chargeE mE e (xs.getD k (0, 0)).1) (chargeB mB b (xs.getD k (0, 0)).1 (xs.getD k (0, 0)).2)) := by
  rw [drop_at xs k h, batch, if_pos hz]
  simp only [plus]
  congr 1
  omega
theorem batch_stop {mE mB : Int} {xs : List (Int × Int)} {e b : Int} {k : Nat} (h : k < xs.length) (hz : ¬ chargeErr mE mB e b (xs.getD k (0, 0)).1 (xs.getD k (0, 0)).2 = 0) :
    plus k (batch mE mB (xs.drop k) e b) = (k, chargeErr mE mB e b (xs.getD k (0, 0)).1 (xs.getD k (0, 0)).2, chargeE mE e (xs.getD k (0, 0)).1, chargeB mB b (xs.getD k (0, 0)).1 (xs.getD k (0, 0)).2) := by
  rw [drop_at xs k h, batch, if_neg hz]
  simp [plus]
theorem batch_end {mE mB : Int} {xs : List (Int × Int)} {e b : Int} : plus xs.length (batch mE mB (xs.drop xs.length) e b) = (xs.length, 0, e, b) := by
  rw [List.drop_length]
  simp [batch, plus]

/-- a refused charge turns nothing -/
theorem entryErr_keeps {x e : Int} (h : ¬ entryErr x e = 0) : entryNext x e = e := by
  unfold entryErr entryNext at *; split at h <;> simp_all
theorem bytesErr_keeps {x b n : Int} (h : ¬ bytesErr x b n = 0) : bytesNext x b n = b := by
  unfold bytesErr bytesNext at *; repeat' split at h
  all_goals simp_all
theorem chargeErr_keeps {mE mB e b k n : Int} (h : ¬ chargeErr mE mB e b k n = 0) : chargeE mE e k = e ∧ chargeB mB b k n = b := by
  unfold chargeErr chargeE chargeB at *
  by_cases h1 : k = 1
  · simp only [h1, if_true] at *; exact ⟨entryErr_keeps h, trivial⟩
  · by_cases h2 : k = 2
    · subst h2; simp only [if_true] at *
      exact ⟨by simp, by simpa using bytesErr_keeps (by simpa using h)⟩
    · simp [h1, h2]
theorem chargeE_fine {mE e k : Int} (hx : IsInt mE) (h : Fine e) : Fine (chargeE mE e k) := by
  unfold chargeE; split
  · exact entryNext_fine hx h
  · exact h
theorem chargeB_fine {mB b k n : Int} (hx : IsInt mB) (h : Fine b) : Fine (chargeB mB b k n) := by
  unfold chargeB; repeat' split
  · exact h
  · exact bytesNext_fine hx h
  · exact h
theorem batch_fine {mE mB : Int} (hx : IsInt mE) (hy : IsInt mB) : ∀ (xs : List (Int × Int)) {e b : Int}, Fine e → Fine b → Fine (batch mE mB xs e b).2.2.1 ∧ Fine (batch mE mB xs e b).2.2.2
  | [], e, b, he, hb => ⟨he, hb⟩
  | c :: xs, e, b, he, hb => by
    unfold batch; split
    · exact batch_fine hx hy xs (chargeE_fine hx he) (chargeB_fine hy hb)
    · exact ⟨chargeE_fine hx he, chargeB_fine hy hb⟩

/-- done, at most all; all just where nothing is refused -/
theorem batch_done {mE mB : Int} : ∀ (xs : List (Int × Int)) (e b : Int), (batch mE mB xs e b).1 ≤ xs.length ∧ ((batch mE mB xs e b).2.1 = 0 ↔ (batch mE mB xs e b).1 = xs.length)
  | [], e, b => by simp [batch]
  | c :: xs, e, b => by
    unfold batch; split
    · have := batch_done (mE := mE) (mB := mB) xs (chargeE mE e c.1) (chargeB mB b c.1 c.2)
      simp only [List.length_cons]
      refine ⟨by omega, this.2.trans (by omega)⟩
    · rename_i h
      simp [h]

/-- the counts: they never fall, and are no more than may be -/
def Within1 (m x : Int) : Prop := 0 < x → x ≤ m
theorem chargeE_rises {mE e k : Int} (h : Within1 mE e) : e ≤ chargeE mE e k ∧ Within1 mE (chargeE mE e k) := by
  unfold chargeE entryNext Within1 at *; repeat' split
  all_goals (constructor <;> omega)
theorem chargeB_rises {mB b k n : Int} (h : Within1 mB b) : b ≤ chargeB mB b k n ∧ Within1 mB (chargeB mB b k n) := by
  unfold chargeB bytesNext Within1 at *; repeat' split
  all_goals (constructor <;> omega)
theorem batch_rises {mE mB : Int} : ∀ (xs : List (Int × Int)) {e b : Int}, Within1 mE e → Within1 mB b →
    e ≤ (batch mE mB xs e b).2.2.1 ∧ b ≤ (batch mE mB xs e b).2.2.2 ∧ Within1 mE (batch mE mB xs e b).2.2.1 ∧ Within1 mB (batch mE mB xs e b).2.2.2
  | [], e, b, he, hb => ⟨Int.le_refl _, Int.le_refl _, he, hb⟩
  | c :: xs, e, b, he, hb => by
    have h1 := chargeE_rises (k := c.1) he
    have h2 := chargeB_rises (k := c.1) (n := c.2) hb
    unfold batch; split
    · have := batch_rises (mE := mE) (mB := mB) xs h1.2 h2.2
      exact ⟨Int.le_trans h1.1 this.1, Int.le_trans h2.1 this.2.1, this.2.2⟩
    · exact ⟨h1.1, h2.1, h1.2, h2.2⟩

/-- what was done, by itself: nothing is refused, and the counts are the same -/
theorem batch_take {mE mB : Int} : ∀ (xs : List (Int × Int)) (e b : Int), batch mE mB (xs.take (batch mE mB xs e b).1) e b = ((batch mE mB xs e b).1, 0, (batch mE mB xs e b).2.2)
  | [], e, b => by simp [batch]
  | c :: xs, e, b => by
    by_cases h : chargeErr mE mB e b c.1 c.2 = 0
    · have ih := batch_take (mE := mE) (mB := mB) xs (chargeE mE e c.1) (chargeB mB b c.1 c.2)
      have hd : batch mE mB (c :: xs) e b = ((batch mE mB xs (chargeE mE e c.1) (chargeB mB b c.1 c.2)).1 + 1, (batch mE mB xs (chargeE mE e c.1) (chargeB mB b c.1 c.2)).2) := by rw [batch, if_pos h]
      rw [hd, List.take_succ_cons, batch, if_pos h, ih]
    · have hd : batch mE mB (c :: xs) e b = (0, chargeErr mE mB e b c.1 c.2, chargeE mE e c.1, chargeB mB b c.1 c.2) := by rw [batch, if_neg h]
      rw [hd, (chargeErr_keeps h).1, (chargeErr_keeps h).2]
      simp [batch]
end Go.Proofs.Ytejeepmcoafdcaa
