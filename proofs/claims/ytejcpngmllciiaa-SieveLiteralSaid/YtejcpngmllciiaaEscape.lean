/-
  Sieve, plain: the pattern with a stroke back ahead of each byte. No program in sight.
-/
import Derived.Test.YtejcpngmllciiaaPlaces
namespace Go.Proofs.Ytejcpngmllciiaa
set_option linter.unusedVariables false

/-- a stroke back ahead of each byte -/
def esc : List UInt8 → List UInt8
  | [] => []
  | b :: r => 92 :: b :: esc r
theorem esc_len : ∀ l : List UInt8, (esc l).length = 2 * l.length
  | [] => rfl
  | b :: r => by simp [esc, esc_len r]; omega
theorem esc_append : ∀ a b : List UInt8, esc (a ++ b) = esc a ++ esc b
  | [], b => rfl
  | x :: r, b => by simp [esc, esc_append r b]
theorem esc_get : ∀ (l : List UInt8) (k : Nat), k < l.length → bt (esc l) (2 * k) = 92 ∧ bt (esc l) (2 * k + 1) = bt l k
  | [], k, h => by simp at h
  | b :: r, 0, h => ⟨rfl, rfl⟩
  | b :: r, k + 1, h => by
    have := esc_get r k (by simpa using h)
    have e : 2 * (k + 1) = 2 * k + 1 + 1 := by omega
    rw [e]
    unfold bt at this ⊢
    simpa [esc, List.getD_cons_succ] using this

def lits (l : List UInt8) : List Tok := l.map fun b => (1, fun c => decide (c = b.toNat))
theorem esc_toks (l : List UInt8) : ∀ (g k : Nat), k ≤ l.length → l.length - k < g → toks (esc l) g (2 * k) = some (lits (l.drop k))
  | 0, k, _, h => by omega
  | g + 1, k, hk, hg => by
    unfold toks
    by_cases e : k < l.length
    · have hg1 := esc_get l k e
      rw [if_pos (by rw [esc_len]; omega)]
      have ht : tokAt (esc l) (2 * k) = some ((1, fun c => decide (c = bt l k)), 2 * (k + 1)) := by
        unfold tokAt
        rw [hg1.1]
        unfold item
        rw [hg1.1, hg1.2, esc_len]
        rw [if_neg (by decide), if_neg (by decide), if_neg (by decide), if_neg (by omega), if_pos rfl, if_neg (by omega)]
        rfl
      rw [ht]
      simp only
      rw [esc_toks l g (k + 1) e (by omega)]
      have hd : l.drop k = l[k] :: l.drop (k + 1) := List.drop_eq_getElem_cons e
      rw [hd]
      simp only [lits, List.map_cons, Option.map_some]
      congr 3
      unfold bt
      simp [List.getD, List.getElem?_eq_getElem e]
    · rw [if_neg (by rw [esc_len]; omega)]
      have : k = l.length := by omega
      subst this
      simp [lits]
theorem esc_parse (l : List UInt8) : parse (esc l) = some (lits l) := by
  unfold parse
  have := esc_toks l ((esc l).length + 1) 0 (Nat.zero_le _) (by rw [esc_len]; omega)
  simpa using this

theorem lits_kd (l : List UInt8) (i : Nat) (h : i < l.length) : kd (lits l) i = 1 := by
  unfold kd lits
  simp [List.getD, List.getElem?_map, List.getElem?_eq_getElem h]
theorem lits_st (l : List UInt8) (i c : Nat) (h : i < l.length) : st (lits l) i c = decide (c = bt l i) := by
  unfold st lits bt
  simp [List.getD, List.getElem?_map, List.getElem?_eq_getElem h]
theorem lits_row (a l : List UInt8) : ∀ i k, i ≤ a.length → (row (lits a) l i k = true ↔ k = i ∧ ∀ x, x < i → bt l x = bt a x)
  | 0, k, _ => by simp [row]
  | i + 1, k, h => by
    rw [row_one (lits_kd a i h)]
    constructor
    · rintro ⟨j, rfl, h2, h3⟩
      obtain ⟨rfl, h4⟩ := (lits_row a l i j (by omega)).1 h2
      rw [lits_st a j _ h, decide_eq_true_iff] at h3
      exact ⟨rfl, fun x hx => by
        by_cases e : x = j
        · subst e; exact h3
        · exact h4 x (by omega)⟩
    · rintro ⟨rfl, h2⟩
      refine ⟨i, rfl, (lits_row a l i i (by omega)).2 ⟨rfl, fun x hx => h2 x (by omega)⟩, ?_⟩
      rw [lits_st a i _ h, decide_eq_true_iff]
      exact h2 i (by omega)
theorem bt_ext_list {a l : List UInt8} (hl : l.length = a.length) (h : ∀ x, x < a.length → bt l x = bt a x) : l = a := by
  apply List.ext_getElem hl
  intro i h1 h2
  have := h i h2
  unfold bt at this
  simp only [List.getD, List.getElem?_eq_getElem h1, List.getElem?_eq_getElem h2, Option.getD_some] at this
  exact UInt8.toNat_inj.1 this
theorem ans_esc (a l : List UInt8) (ha : a.length ≤ 2048) : matchAns (esc a) l = decide (a = l) := by
  apply Bool.eq_iff_iff.2
  rw [decide_eq_true_iff]
  unfold matchAns
  rw [if_neg (by rw [esc_len]; omega), esc_parse]
  show row (lits a) l (lits a).length l.length = true ↔ _
  rw [show (lits a).length = a.length from by simp [lits], lits_row a l _ _ (Nat.le_refl _)]
  constructor
  · rintro ⟨h1, h2⟩
    exact (bt_ext_list h1 h2).symm
  · rintro rfl
    exact ⟨rfl, fun _ _ => rfl⟩
theorem err_esc (a : List UInt8) (ha : a.length ≤ 2048) : checkErr (esc a) = 0 := by
  unfold checkErr
  rw [if_neg (by rw [esc_len]; omega), esc_parse]
  rfl
end Go.Proofs.Ytejcpngmllciiaa
