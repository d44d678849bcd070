/-
  Sieve, plain: what a row says, in words of places; what the laws without the document's answer need. No program in sight.
-/
import Derived.Test.YtejcpngmllciiaaMatch
namespace Go.Proofs.Ytejcpngmllciiaa
set_option linter.unusedVariables false

theorem nextRow_one {f : Nat → Bool} {l : List UInt8} {r : Nat → Bool} (k : Nat) : nextRow 1 f l r k = true ↔ ∃ j, k = j + 1 ∧ r j = true ∧ f (bt l j) = true := by
  cases k with
  | zero => simp [nextRow]
  | succ j => simp [nextRow]
theorem nextRow_many {c : Nat} (hc : c ≠ 1) {f : Nat → Bool} {l : List UInt8} {r : Nat → Bool} : ∀ k : Nat, nextRow c f l r k = true ↔ ∃ j, j ≤ k ∧ r j = true ∧ ∀ x, j ≤ x → x < k → okB c (bt l x) = true
  | 0 => by
    simp [nextRow, hc]
  | k + 1 => by
    unfold nextRow
    rw [if_neg hc, Bool.or_eq_true, Bool.and_eq_true, nextRow_many hc k]
    constructor
    · rintro (h | ⟨⟨j, h1, h2, h3⟩, h4⟩)
      · exact ⟨k + 1, Nat.le_refl _, h, fun x _ _ => by omega⟩
      · exact ⟨j, by omega, h2, fun x hx hx' => by
          by_cases e : x = k
          · subst e; exact h4
          · exact h3 x hx (by omega)⟩
    · rintro ⟨j, h1, h2, h3⟩
      by_cases e : j = k + 1
      · subst e; exact Or.inl h2
      · exact Or.inr ⟨⟨j, by omega, h2, fun x hx hx' => h3 x hx (by omega)⟩, h3 k (by omega) (by omega)⟩
theorem row_one {ts : List Tok} {l : List UInt8} {i k : Nat} (h : kd ts i = 1) : row ts l (i + 1) k = true ↔ ∃ j, k = j + 1 ∧ row ts l i j = true ∧ st ts i (bt l j) = true := by
  show nextRow _ _ _ _ _ = true ↔ _
  rw [h]; exact nextRow_one k
theorem row_many {ts : List Tok} {l : List UInt8} {i k : Nat} (h : kd ts i ≠ 1) : row ts l (i + 1) k = true ↔ ∃ j, j ≤ k ∧ row ts l i j = true ∧ ∀ x, j ≤ x → x < k → okB (kd ts i) (bt l x) = true :=
  nextRow_many h k

/-- the stars -/
theorem starsP : parse [42, 42] = some [(3, fun _ => false)] := by
  have : toks [42, 42] 3 0 = some [(3, fun _ => false)] := by simp [toks, tokAt, bt]
  exact this
theorem starP : parse [42] = some [(2, fun _ => false)] := by
  have : toks [42] 2 0 = some [(2, fun _ => false)] := by simp [toks, tokAt, bt]
  exact this
theorem questP : parse [63] = some [(1, fun b => decide (b ≠ 47))] := by
  have : toks [63] 2 0 = some [(1, fun b => decide (b ≠ 47))] := by simp [toks, tokAt, bt]
  exact this
theorem noneP : parse [] = some [] := by
  have : toks [] 1 0 = some [] := by simp [toks]
  exact this

theorem ans_stars (l : List UInt8) : matchAns [42, 42] l = true := by
  unfold matchAns
  rw [if_neg (by decide), starsP]
  show row _ l 1 l.length = true
  rw [row_many (by decide)]
  exact ⟨0, Nat.zero_le _, rfl, fun x _ _ => rfl⟩
theorem ans_star (l : List UInt8) : matchAns [42] l = true ↔ ∀ x, x < l.length → bt l x ≠ 47 := by
  unfold matchAns
  rw [if_neg (by decide), starP]
  show row _ l 1 l.length = true ↔ _
  rw [row_many (by decide)]
  constructor
  · rintro ⟨j, h1, h2, h3⟩ x hx
    have : j = 0 := by simpa [row] using h2
    have := h3 x (by omega) hx
    simpa [okB, kd] using this
  · intro h
    exact ⟨0, Nat.zero_le _, rfl, fun x _ hx => by simpa [okB, kd] using h x hx⟩
theorem ans_quest (l : List UInt8) : matchAns [63] l = true ↔ l.length = 1 ∧ bt l 0 ≠ 47 := by
  unfold matchAns
  rw [if_neg (by decide), questP]
  show row _ l 1 l.length = true ↔ _
  rw [row_one (by decide)]
  constructor
  · rintro ⟨j, h1, h2, h3⟩
    have e : j = 0 := by simpa [row] using h2
    subst e
    exact ⟨h1, by simpa [st] using h3⟩
  · rintro ⟨h1, h2⟩
    exact ⟨0, h1, rfl, by simpa [st] using h2⟩
theorem ans_none (l : List UInt8) : matchAns [] l = true ↔ l.length = 0 := by
  unfold matchAns
  rw [if_neg (by decide), noneP]
  show row _ l 0 l.length = true ↔ _
  simp [row]

/-- is there a stroke ahead of place n? -/
def strokeTo (l : List UInt8) : Nat → Bool
  | 0 => false
  | n + 1 => strokeTo l n || decide (bt l n = 47)
theorem strokeTo_iff (l : List UInt8) : ∀ n, strokeTo l n = true ↔ ∃ x, x < n ∧ bt l x = 47
  | 0 => by simp [strokeTo]
  | n + 1 => by
    unfold strokeTo
    rw [Bool.or_eq_true, strokeTo_iff l n]
    constructor
    · rintro (⟨x, h1, h2⟩ | h)
      · exact ⟨x, by omega, h2⟩
      · exact ⟨n, by omega, by simpa using h⟩
    · rintro ⟨x, h1, h2⟩
      by_cases e : x = n
      · subst e; exact Or.inr (by simpa using h2)
      · exact Or.inl ⟨x, by omega, h2⟩
theorem stars_star (l : List UInt8) : matchAns [42] l = !strokeTo l l.length := by
  cases hs : strokeTo l l.length with
  | true =>
    obtain ⟨x, h1, h2⟩ := (strokeTo_iff l _).1 hs
    cases h : matchAns [42] l with
    | false => rfl
    | true => exact absurd h2 ((ans_star l).1 h x h1)
  | false =>
    exact (ans_star l).2 fun x hx h => by
      have := (strokeTo_iff l l.length).2 ⟨x, hx, h⟩
      rw [hs] at this; cases this
theorem stars_quest (l : List UInt8) : matchAns [63] l = (decide (l.length = 1) && !strokeTo l l.length) := by
  apply Bool.eq_iff_iff.2
  rw [ans_quest, Bool.and_eq_true, decide_eq_true_iff]
  constructor
  · rintro ⟨h1, h2⟩
    refine ⟨h1, ?_⟩
    cases hs : strokeTo l l.length with
    | false => rfl
    | true =>
      obtain ⟨x, h3, h4⟩ := (strokeTo_iff l _).1 hs
      have : x = 0 := by omega
      subst this
      exact absurd h4 h2
  · rintro ⟨h1, h2⟩
    refine ⟨h1, fun h => ?_⟩
    rw [(strokeTo_iff l l.length).2 ⟨0, by omega, h⟩] at h2
    cases h2
theorem stars_none (l : List UInt8) : matchAns [] l = decide (l.length = 0) := by
  apply Bool.eq_iff_iff.2
  rw [ans_none, decide_eq_true_iff]
end Go.Proofs.Ytejcpngmllciiaa
