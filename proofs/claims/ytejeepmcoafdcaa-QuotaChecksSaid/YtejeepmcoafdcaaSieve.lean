/-
  Sieve, plain: patterns as the document reads them, and matching by rows (the document) and by columns (the program). No program in sight.
-/
import Derived.WalkKit
import Derived.WideShapes
namespace Go.Proofs.Ytejeepmcoafdcaa
set_option linter.unusedVariables false

/-- the byte at i -/
def bt (l : List UInt8) (i : Nat) : Nat := (l.getD i 0).toNat
theorem bt_lt (l : List UInt8) (i : Nat) : bt l i < 256 := by
  unfold bt; have := (l.getD i 0).toNat_lt; omega

/-- a byte, or the one behind a stroke back; and the place behind it -/
def item (p : List UInt8) (i : Nat) : Option (Nat × Nat) :=
  if p.length ≤ i then none
  else if bt p i = 92 then (if p.length ≤ i + 1 then none else some (bt p (i + 1), i + 2))
  else some (bt p i, i + 1)
/-- a set's item: from, to, the place behind it -/
def span (p : List UInt8) (i : Nat) : Option (Nat × Nat × Nat) :=
  match item p i with
  | none => none
  | some (lo, next) =>
    if next + 1 < p.length ∧ bt p next = 45 ∧ ¬ bt p (next + 1) = 93 then
      match item p (next + 1) with
      | none => none
      | some (hi, next') => if hi < lo then none else some (lo, hi, next')
    else some (lo, lo, next)
/-- a set with the bytes from lo to hi besides -/
def mark (f : Nat → Bool) (lo hi : Nat) : Nat → Bool := fun b => f b || (decide (lo ≤ b) && decide (b ≤ hi))
/-- the items from i on -/
def items (p : List UInt8) : Nat → Nat → (Nat → Bool) → Nat → Option ((Nat → Bool) × Nat × Nat)
  | 0, _, _, _ => none
  | g + 1, i, f, n =>
    if i < p.length ∧ ¬ bt p i = 93 then
      match span p i with
      | none => none
      | some (lo, hi, j) => items p g j (mark f lo hi) (n + 1)
    else some (f, n, i)
def turned (not : Bool) (f : Nat → Bool) : Nat → Bool := fun b => (f b != not) && decide (b ≠ 47)
/-- the set that begins behind the bracket -/
def setAt (p : List UInt8) (i : Nat) : Option ((Nat → Bool) × Nat) :=
  match items p (p.length + 1) (if i < p.length ∧ bt p i = 33 then i + 1 else i) (fun _ => false) 0 with
  | none => none
  | some (f, n, j) => if p.length ≤ j ∨ n = 0 then none else some (turned (decide (i < p.length ∧ bt p i = 33)) f, j + 1)
/-- the token at i: its kind (1 one byte, 2 a star, 3 two stars), its set, the place behind it -/
def tokAt (p : List UInt8) (i : Nat) : Option ((Nat × (Nat → Bool)) × Nat) :=
  if bt p i = 42 then
    (if i + 1 < p.length ∧ bt p (i + 1) = 42 then some ((3, fun _ => false), i + 2) else some ((2, fun _ => false), i + 1))
  else if bt p i = 63 then some ((1, fun b => decide (b ≠ 47)), i + 1)
  else if bt p i = 91 then (setAt p (i + 1)).map fun x => ((1, x.1), x.2)
  else (item p i).map fun x => ((1, fun b => decide (b = x.1)), x.2)
def toks (p : List UInt8) : Nat → Nat → Option (List (Nat × (Nat → Bool)))
  | 0, _ => none
  | g + 1, i => if i < p.length then (match tokAt p i with | none => none | some (t, j) => (toks p g j).map (t :: ·)) else some []
/-- the tokens of a pattern -/
def parse (p : List UInt8) : Option (List (Nat × (Nat → Bool))) := toks p (p.length + 1) 0

/-- places rise -/
theorem item_le {p : List UInt8} {i b j : Nat} (h : item p i = some (b, j)) : i < j ∧ j ≤ p.length ∧ b < 256 := by
  unfold item at h
  split at h
  · cases h
  · split at h
    · split at h
      · cases h
      · cases h; exact ⟨by omega, by omega, bt_lt _ _⟩
    · cases h; exact ⟨by omega, by omega, bt_lt _ _⟩
theorem span_le {p : List UInt8} {i lo hi j : Nat} (h : span p i = some (lo, hi, j)) : i < j ∧ j ≤ p.length ∧ lo ≤ hi ∧ hi < 256 := by
  unfold span at h
  cases h1 : item p i with
  | none => simp [h1] at h
  | some x =>
    obtain ⟨a, n⟩ := x
    have g1 := item_le h1
    simp only [h1] at h
    split at h
    · cases h2 : item p (n + 1) with
      | none => simp [h2] at h
      | some y =>
        obtain ⟨c, m⟩ := y
        have g2 := item_le h2
        simp only [h2] at h
        split at h
        · cases h
        · cases h; omega
    · cases h; omega
theorem items_le {p : List UInt8} : ∀ {g i n : Nat} {f f' : Nat → Bool} {n' j : Nat}, items p g i f n = some (f', n', j) → i ≤ p.length → i ≤ j ∧ j ≤ p.length ∧ n ≤ n' ∧ n' ≤ n + (j - i)
  | 0, i, n, f, f', n', j, h, _ => by simp [items] at h
  | g + 1, i, n, f, f', n', j, h, hi => by
    unfold items at h
    split at h
    · cases h1 : span p i with
      | none => simp [h1] at h
      | some x =>
        obtain ⟨lo, hh, m⟩ := x
        have g1 := span_le h1
        simp only [h1] at h
        have := items_le h g1.2.1
        omega
    · cases h; omega
theorem setAt_le {p : List UInt8} {i j : Nat} {f : Nat → Bool} (h : setAt p i = some (f, j)) (hi : i ≤ p.length) : i < j ∧ j ≤ p.length := by
  unfold setAt at h
  cases h1 : items p (p.length + 1) (if i < p.length ∧ bt p i = 33 then i + 1 else i) (fun _ => false) 0 with
  | none => simp [h1] at h
  | some x =>
    obtain ⟨f', n', m⟩ := x
    have g1 := items_le h1 (by split <;> omega)
    simp only [h1] at h
    split at h
    · cases h
    · simp only [Option.some.injEq, Prod.mk.injEq] at h
      obtain ⟨-, rfl⟩ := h
      have : i ≤ if i < p.length ∧ bt p i = 33 then i + 1 else i := by split <;> omega
      omega
theorem tokAt_le {p : List UInt8} {i j : Nat} {t : Nat × (Nat → Bool)} (h : tokAt p i = some (t, j)) (hi : i < p.length) : i < j ∧ j ≤ p.length ∧ 1 ≤ t.1 ∧ t.1 ≤ 3 := by
  unfold tokAt at h
  split at h
  · split at h
    · cases h; omega
    · cases h; omega
  · split at h
    · cases h; omega
    · split at h
      · cases h1 : setAt p (i + 1) with
        | none => simp [h1] at h
        | some x =>
          simp only [h1, Option.map_some, Option.some.injEq, Prod.mk.injEq] at h
          obtain ⟨rfl, rfl⟩ := h
          have := setAt_le (p := p) (i := i + 1) (f := x.1) (j := x.2) h1 (by omega)
          omega
      · cases h1 : item p i with
        | none => simp [h1] at h
        | some x =>
          simp only [h1, Option.map_some, Option.some.injEq, Prod.mk.injEq] at h
          obtain ⟨rfl, rfl⟩ := h
          have := item_le (p := p) (i := i) (b := x.1) (j := x.2) h1
          omega

/-- matching -/
abbrev Tok := Nat × (Nat → Bool)
def kd (ts : List Tok) (i : Nat) : Nat := (ts.getD i (1, fun _ => false)).1
def st (ts : List Tok) (i : Nat) (b : Nat) : Bool := (ts.getD i (1, fun _ => false)).2 b
/-- may what stands for any number take the byte? -/
def okB (k b : Nat) : Bool := decide (k = 3) || (decide (k = 2) && decide (b ≠ 47))
def nextRow (k : Nat) (f : Nat → Bool) (l : List UInt8) (r : Nat → Bool) : Nat → Bool
  | 0 => r 0 && decide (k ≠ 1)
  | j + 1 => if k = 1 then r j && f (bt l j) else r (j + 1) || (nextRow k f l r j && okB k (bt l j))
/-- do the first i tokens match the text's first k bytes? -/
def row (ts : List Tok) (l : List UInt8) : Nat → Nat → Bool
  | 0 => fun k => decide (k = 0)
  | i + 1 => nextRow (kd ts i) (st ts i) l (row ts l i)
def matchB (ts : List Tok) (l : List UInt8) : Bool := row ts l ts.length l.length

/-- the program's way -/
def skipC (s q : Nat → Bool) : Nat → Bool
  | 0 => q 0
  | i + 1 => q (i + 1) || (skipC s q i && s i)
def stepC (ts : List Tok) (b : Nat) (q : Nat → Bool) (i : Nat) : Bool :=
  (decide (i < ts.length) && (q i && okB (kd ts i) b)) || (decide (0 < i) && (q (i - 1) && (decide (kd ts (i - 1) = 1) && st ts (i - 1) b)))
def sk (ts : List Tok) (i : Nat) : Bool := decide (i < ts.length) && decide (kd ts i ≠ 1)
def col (ts : List Tok) (l : List UInt8) : Nat → Nat → Bool
  | 0 => skipC (sk ts) (fun i => decide (i = 0))
  | k + 1 => skipC (sk ts) (stepC ts (bt l k) (col ts l k))

def Kinds (ts : List Tok) : Prop := ∀ t ∈ ts, 1 ≤ t.1 ∧ t.1 ≤ 3
theorem kd_mem {ts : List Tok} (h : Kinds ts) (i : Nat) : 1 ≤ kd ts i ∧ kd ts i ≤ 3 := by
  unfold kd
  by_cases hi : i < ts.length
  · have : ts.getD i (1, fun _ => false) = ts[i] := by simp [List.getD, List.getElem?_eq_getElem hi]
    rw [this]; exact h _ (List.getElem_mem hi)
  · have : ts.getD i (1, fun _ => false) = (1, fun _ => false) := by simp [List.getD, List.getElem?_eq_none (by omega : ts.length ≤ i)]
    rw [this]; exact ⟨Nat.le_refl _, by omega⟩

theorem okB_one (b : Nat) : okB 1 b = false := by simp [okB]
theorem row_star {ts : List Tok} {l : List UInt8} {i k : Nat} (h : kd ts i ≠ 1) (hr : row ts l i k = true) : row ts l (i + 1) k = true := by
  cases k with
  | zero => simp [row, nextRow, h] at *; exact hr
  | succ k => simp [row, nextRow, h] at *; exact Or.inl hr

theorem col_row (ts : List Tok) (l : List UInt8) : ∀ k i, i ≤ ts.length → col ts l k i = (row ts l i k || (sk ts i && row ts l (i + 1) k)) := by
  intro k
  induction k with
  | zero =>
    intro i
    induction i with
    | zero => intro _; simp [col, skipC, row]
    | succ i ih =>
      intro hi
      have ih := ih (by omega)
      simp only [col] at ih ⊢
      rw [skipC, ih]
      have hs : sk ts i = decide (kd ts i ≠ 1) := by simp [sk]; omega
      have e1 : row ts l (i + 1) 0 = (row ts l i 0 && decide (kd ts i ≠ 1)) := rfl
      have e2 : row ts l (i + 2) 0 = (row ts l (i + 1) 0 && decide (kd ts (i + 1) ≠ 1)) := rfl
      rw [e2, e1, hs]
      have : decide (i + 1 = 0) = false := by simp
      rw [this]
      cases row ts l i 0 <;> cases decide (kd ts i ≠ 1) <;> cases sk ts (i + 1) <;> cases decide (kd ts (i + 1) ≠ 1) <;> rfl
  | succ k ihk =>
    intro i
    -- what a column holds ahead of the skip
    have hq : ∀ i, i ≤ ts.length → stepC ts (bt l k) (col ts l k) i =
        ((decide (i < ts.length) && ((row ts l i k || (sk ts i && row ts l (i + 1) k)) && okB (kd ts i) (bt l k))) ||
         (decide (0 < i) && ((row ts l (i - 1) k || (sk ts (i - 1) && row ts l (i - 1 + 1) k)) && (decide (kd ts (i - 1) = 1) && st ts (i - 1) (bt l k))))) := by
      intro i hi
      unfold stepC
      rw [ihk i hi, ihk (i - 1) (by omega)]
    -- its first half: what stays
    have hstay : ∀ i, (decide (i < ts.length) && ((row ts l i k || (sk ts i && row ts l (i + 1) k)) && okB (kd ts i) (bt l k))) = (sk ts i && (row ts l (i + 1) k && okB (kd ts i) (bt l k))) := by
      intro i
      by_cases h1 : kd ts i = 1
      · rw [h1, okB_one]; simp
      · have hs : sk ts i = decide (i < ts.length) := by simp [sk, h1]
        rw [hs]
        cases hr : row ts l i k with
        | false => cases decide (i < ts.length) <;> simp
        | true => rw [row_star h1 hr]; cases decide (i < ts.length) <;> simp
    induction i with
    | zero =>
      intro hi
      show skipC (sk ts) (stepC ts (bt l k) (col ts l k)) 0 = _
      rw [skipC, hq 0 hi, hstay 0]
      have e1 : row ts l 0 (k + 1) = false := by simp [row]
      rw [e1]
      cases hs : sk ts 0 with
      | false => simp
      | true =>
        have h1 : kd ts 0 ≠ 1 := by intro e; simp [sk, e] at hs
        have e2 : row ts l (0 + 1) (k + 1) = (row ts l 0 (k + 1) || (row ts l (0 + 1) k && okB (kd ts 0) (bt l k))) := by
          simp only [row, nextRow, if_neg h1]
        rw [e2, e1]; simp
    | succ i ih =>
      intro hi
      have ih := ih (by omega)
      show skipC (sk ts) (stepC ts (bt l k) (col ts l k)) (i + 1) = _
      rw [skipC]
      have ih' : skipC (sk ts) (stepC ts (bt l k) (col ts l k)) i = (row ts l i (k + 1) || (sk ts i && row ts l (i + 1) (k + 1))) := ih
      rw [ih', hq (i + 1) hi, hstay (i + 1)]
      have hs : sk ts i = decide (kd ts i ≠ 1) := by simp [sk]; omega
      simp only [Nat.add_sub_cancel, Nat.zero_lt_succ, decide_true, Bool.true_and]
      -- the next token
      have hnext : (sk ts (i + 1) && row ts l (i + 1 + 1) (k + 1)) = (sk ts (i + 1) && (row ts l (i + 1) (k + 1) || (row ts l (i + 1 + 1) k && okB (kd ts (i + 1)) (bt l k)))) := by
        cases hsk : sk ts (i + 1) with
        | false => simp
        | true =>
          have h1 : kd ts (i + 1) ≠ 1 := by intro e; simp [sk, e] at hsk
          have e2 : row ts l (i + 1 + 1) (k + 1) = (row ts l (i + 1) (k + 1) || (row ts l (i + 1 + 1) k && okB (kd ts (i + 1)) (bt l k))) := by
            show nextRow _ _ _ _ _ = _
            rw [nextRow, if_neg h1]; rfl
          rw [e2]
      rw [hnext]
      by_cases h1 : kd ts i = 1
      · have e1 : row ts l (i + 1) (k + 1) = (row ts l i k && st ts i (bt l k)) := by
          show nextRow _ _ _ _ _ = _
          rw [nextRow, if_pos h1]
        rw [hs, e1, h1]
        simp only [ne_eq, not_true_eq_false, decide_false, Bool.false_and, Bool.or_false, decide_true, Bool.true_and, Bool.and_false]
        cases row ts l i k <;> cases st ts i (bt l k) <;> cases sk ts (i + 1) <;> cases row ts l (i + 1 + 1) k <;> cases okB (kd ts (i + 1)) (bt l k) <;> rfl
      · have e1 : row ts l i (k + 1) = true → row ts l (i + 1) (k + 1) = true := row_star h1
        rw [hs]
        simp only [ne_eq, h1, not_false_eq_true, decide_true, decide_false, Bool.true_and, Bool.false_and, Bool.and_false, Bool.or_false, Bool.and_true]
        cases hA : row ts l i (k + 1) <;> cases hB : row ts l (i + 1) (k + 1) <;> cases sk ts (i + 1) <;> cases row ts l (i + 1 + 1) k <;> cases okB (kd ts (i + 1)) (bt l k) <;> simp_all

theorem col_done (ts : List Tok) (l : List UInt8) (k : Nat) : col ts l k ts.length = row ts l ts.length k := by
  rw [col_row ts l k ts.length (Nat.le_refl _)]
  simp [sk]

/-- a row's first places hang on the text's first bytes alone -/
theorem nextRow_take {k : Nat} {f : Nat → Bool} {l l' : List UInt8} {r r' : Nat → Bool} : ∀ j, (∀ i, i ≤ j → r i = r' i) → (∀ i, i < j → bt l i = bt l' i) → nextRow k f l r j = nextRow k f l' r' j
  | 0, hr, _ => by simp [nextRow, hr 0 (Nat.le_refl _)]
  | j + 1, hr, hb => by
    have ih := nextRow_take (k := k) (f := f) (l := l) (l' := l') (r := r) (r' := r') j (fun i hi => hr i (by omega)) (fun i hi => hb i (by omega))
    simp only [nextRow, hr j (by omega), hr (j + 1) (Nat.le_refl _), hb j (by omega), ih]
theorem row_take {ts : List Tok} {l l' : List UInt8} : ∀ i j, (∀ k, k < j → bt l k = bt l' k) → row ts l i j = row ts l' i j := by
  intro i
  induction i with
  | zero => intro j _; rfl
  | succ i ih => intro j h; exact nextRow_take j (fun m hm => ih m (fun k hk => h k (by omega))) h
end Go.Proofs.Ytejeepmcoafdcaa
