/-
  How a clause is read, said of plain lists of letters; no program in sight.
-/
import Derived.Test.YtbkclmpopofebaaDoorChangePlain
namespace Go.Proofs.YtbkclmpopofebaaDoor
open Go.RowKit
set_option linter.unusedVariables false

theorem dropWhile_nil {p : UInt8 → Bool} : ∀ {l : List UInt8}, l.dropWhile p = [] → ∀ c ∈ l, p c = true
  | [], _, c, h => by simp at h
  | x :: l, e, c, h => by
    rw [List.dropWhile_cons] at e
    split at e
    · rename_i hx
      rcases List.mem_cons.1 h with rfl | h
      · exact hx
      · exact dropWhile_nil e c h
    · cases e
theorem dropWhile_all {p : UInt8 → Bool} : ∀ {l : List UInt8}, (∀ c ∈ l, p c = true) → l.dropWhile p = []
  | [], _ => rfl
  | x :: l, h => by
    rw [List.dropWhile_cons, if_pos (h x (by simp)), dropWhile_all (fun c hc => h c (by simp [hc]))]
/-- what is trimmed away whole -/
theorem trimS_nil {l cs : List UInt8} {p : UInt8 → Bool} (hp : ∀ c, cs.contains c = p c) : Lib.trimS l cs = [] ↔ l.all p = true := by
  have hp' : (fun c => cs.contains c) = p := funext hp
  unfold Lib.trimS Lib.trimRightS Lib.trimLeftS
  rw [hp']
  constructor
  · intro h
    have h1 : ∀ c ∈ l.reverse.dropWhile p, p c = true := fun c hc => dropWhile_nil h c (by simpa using hc)
    have h3 : l.reverse.dropWhile p = [] := by
      cases e : l.reverse.dropWhile p with
      | nil => rfl
      | cons x r =>
        have h4 := h1 x (by rw [e]; simp)
        have h5 := List.head_dropWhile_not p (l := l.reverse) (by rw [e]; simp)
        simp only [e, List.head_cons] at h5
        rw [h4] at h5; cases h5
    exact List.all_eq_true.2 fun c hc => dropWhile_nil h3 c (by simpa using hc)
  · intro h
    have h1 := List.all_eq_true.1 h
    rw [dropWhile_all (l := l.reverse) (fun c hc => h1 c (by simpa using hc))]
    rfl
theorem who_set (c : UInt8) : ([117, 103, 111, 97] : List UInt8).contains c = isWho c := by
  unfold isWho
  simp only [List.contains_cons, List.contains_nil, Bool.or_false, Bool.or_assoc]
theorem let_set (c : UInt8) : ([114, 119, 120, 115, 116] : List UInt8).contains c = isLet c := by
  unfold isLet
  simp only [List.contains_cons, List.contains_nil, Bool.or_false, Bool.or_assoc]

/-- where the first sign stands, or that there is none -/
theorem indexAny_cases : ∀ (l : List UInt8), (Lib.indexAny l [43, 45, 61] = -1 ∧ ∀ x ∈ l, opB x = false) ∨
    ∃ a op b, l = a ++ op :: b ∧ Lib.indexAny l [43, 45, 61] = (a.length : Int) ∧ opB op = true ∧ ∀ x ∈ a, opB x = false
  | [] => Or.inl ⟨rfl, fun x h => by simp at h⟩
  | c :: l => by
    cases hc : opB c with
    | true => exact Or.inr ⟨[], c, l, rfl, by rw [Lib.indexAny, ch3_contains, hc]; rfl, hc, fun x h => by simp at h⟩
    | false =>
      rcases indexAny_cases l with ⟨e, h⟩ | ⟨a, op, b, rfl, e, ho, h⟩
      · refine Or.inl ⟨by rw [Lib.indexAny, ch3_contains, hc, e]; simp, fun x hx => ?_⟩
        rcases List.mem_cons.1 hx with rfl | hx
        · exact hc
        · exact h x hx
      · refine Or.inr ⟨c :: a, op, b, rfl, ?_, ho, fun x hx => ?_⟩
        · rw [Lib.indexAny, ch3_contains, hc, e, if_neg (by simp), if_neg (by simp only [beq_iff_eq]; omega)]
          simp
        · rcases List.mem_cons.1 hx with rfl | hx
          · exact hc
          · exact h x hx
theorem op_noWho {c : UInt8} (h : opB c = true) : isWho c = false := by
  unfold opB at h
  simp only [Bool.or_eq_true, beq_iff_eq] at h
  rcases h with (rfl | rfl) | rfl <;> decide
theorem dropWhile_op {a b : List UInt8} {op : UInt8} (ha : ∀ c ∈ a, isWho c = true) (ho : isWho op = false) : (a ++ op :: b).dropWhile isWho = op :: b ∧ (a ++ op :: b).takeWhile isWho = a := by
  induction a with
  | nil => simp [ho]
  | cons x a ih =>
    have hx := ha x (by simp)
    obtain ⟨h1, h2⟩ := ih (fun c hc => ha c (by simp [hc]))
    simp [hx, h1, h2]
/-- what the text behind the first letters is, where one of them is no who and no sign -/
theorem clause_bad {a b : List UInt8} (hn : ∀ x ∈ a, opB x = false) (ha : a.all isWho = false) : clauseP (a ++ b) = none := by
  have : ∃ c r, (a ++ b).dropWhile isWho = c :: r ∧ opB c = false := by
    induction a with
    | nil => simp at ha
    | cons x a ih =>
      cases hx : isWho x with
      | false => exact ⟨x, a ++ b, by simp [hx], hn x (by simp)⟩
      | true =>
        rw [List.all_cons, hx, Bool.true_and] at ha
        obtain ⟨c, r, e, h⟩ := ih (fun y hy => hn y (by simp [hy])) ha
        exact ⟨c, r, by simp [hx]; simpa using e, h⟩
  obtain ⟨c, r, e, h⟩ := this
  unfold clauseP
  rw [e]
  simp only
  rw [if_pos (Or.inr (Or.inl h))]
theorem clause_noop {l : List UInt8} (h : ∀ x ∈ l, opB x = false) : clauseP l = none := by
  cases ha : l.all isWho with
  | false =>
    have := clause_bad (b := []) h ha
    rwa [List.append_nil] at this
  | true =>
    unfold clauseP
    rw [dropWhile_all (List.all_eq_true.1 ha)]
theorem clause_op {a b : List UInt8} {op : UInt8} (ho : opB op = true) (ha : a.all isWho = true) : clauseP (a ++ op :: b) = if a = [] ∨ b.all isLet = false then none else some (a, op, b) := by
  obtain ⟨h1, h2⟩ := dropWhile_op (b := b) (List.all_eq_true.1 ha) (op_noWho ho)
  unfold clauseP
  rw [h1]
  simp only [h2, ho]
  simp
/-- where a 't' stands behind the sign -/
theorem index_t {op : UInt8} (ho : opB op = true) (b : List UInt8) : decide (0 < Lib.indexByte (op :: b) 116) = hasC 116 b := by
  have h1 : (op == 116) = false := by
    unfold opB at ho
    simp only [Bool.or_eq_true, beq_iff_eq] at ho
    rcases ho with (rfl | rfl) | rfl <;> decide
  have hc := Lib.contains_iff_indexByte b 116
  have hge := Lib.indexByte_ge b 116
  have e : hasC 116 b = b.contains 116 := by
    unfold hasC
    induction b with
    | nil => rfl
    | cons c b ih =>
      rw [List.any_cons, List.contains_cons, show ((116 : UInt8) == c) = (c == 116) from Bool.eq_iff_iff.2 ⟨fun h => by simpa using (beq_iff_eq.1 h).symm, fun h => by simpa using (beq_iff_eq.1 h).symm⟩]
      congr 1
      exact ih (Lib.contains_iff_indexByte b 116) (Lib.indexByte_ge b 116)
  rw [e, hc, Lib.indexByte, if_neg (by simpa using h1)]
  by_cases e1 : Lib.indexByte b 116 = -1
  · rw [if_pos (by simpa using e1), e1]; rfl
  · rw [if_neg (by simpa using e1)]
    rw [decide_eq_true (show 0 ≤ Lib.indexByte b 116 by omega), decide_eq_true (by omega)]
end Go.Proofs.YtbkclmpopofebaaDoor
