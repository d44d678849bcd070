/-
  Sieve, plain: patterns behind one another match texts behind one another. No program in sight.
-/
import Derived.Test.YtejcpngmllciiaaPlaces
namespace Go.Proofs.Ytejcpngmllciiaa
set_option linter.unusedVariables false

/-- what a token takes, and what tokens take -/
def MTok (t : Tok) (l : List UInt8) : Prop := if t.1 = 1 then ∃ b, l = [b] ∧ t.2 b.toNat = true else ∀ b ∈ l, okB t.1 b.toNat = true
def MT : List Tok → List UInt8 → Prop
  | [], l => l = []
  | t :: ts, l => ∃ l1 l2, l = l1 ++ l2 ∧ MTok t l1 ∧ MT ts l2
theorem MT_snoc : ∀ (ts : List Tok) (t : Tok) (l : List UInt8), MT (ts ++ [t]) l ↔ ∃ l1 l2, l = l1 ++ l2 ∧ MT ts l1 ∧ MTok t l2
  | [], t, l => by
    constructor
    · rintro ⟨l1, l2, rfl, h, rfl⟩
      exact ⟨[], l1, by simp, rfl, h⟩
    · rintro ⟨l1, l2, rfl, rfl, h⟩
      exact ⟨l2, [], by simp, h, rfl⟩
  | u :: ts, t, l => by
    constructor
    · rintro ⟨l1, l2, rfl, h, h2⟩
      obtain ⟨l3, l4, rfl, h3, h4⟩ := (MT_snoc ts t l2).1 h2
      exact ⟨l1 ++ l3, l4, by simp, ⟨l1, l3, rfl, h, h3⟩, h4⟩
    · rintro ⟨l1, l2, rfl, ⟨l3, l4, rfl, h3, h4⟩, h5⟩
      exact ⟨l3, l4 ++ l2, by simp, h3, (MT_snoc ts t _).2 ⟨l4, l2, rfl, h4, h5⟩⟩

theorem bt_at {l : List UInt8} {x : Nat} (h : x < l.length) : bt l x = (l[x]).toNat := by
  unfold bt; simp [List.getD, List.getElem?_eq_getElem h]
theorem kd_at {ts : List Tok} {i : Nat} (h : i < ts.length) : kd ts i = (ts[i]).1 := by
  unfold kd; simp [List.getD, List.getElem?_eq_getElem h]
theorem st_at {ts : List Tok} {i : Nat} (h : i < ts.length) (b : Nat) : st ts i b = (ts[i]).2 b := by
  unfold st; simp [List.getD, List.getElem?_eq_getElem h]
theorem row_MT (ts : List Tok) (l : List UInt8) : ∀ i k, i ≤ ts.length → k ≤ l.length → (row ts l i k = true ↔ MT (ts.take i) (l.take k))
  | 0, k, _, hk => by
    simp only [row, decide_eq_true_iff, List.take_zero, MT, List.take_eq_nil_iff]
    constructor
    · intro h; exact Or.inl h
    · rintro (h | h)
      · exact h
      · subst h; simpa using hk
  | i + 1, k, hi, hk => by
    have hi' : i < ts.length := hi
    rw [show ts.take (i + 1) = ts.take i ++ [ts[i]] from by rw [List.take_add_one, List.getElem?_eq_getElem hi']; rfl, MT_snoc]
    by_cases h1 : kd ts i = 1
    · rw [row_one h1]
      have h1' : (ts[i]).1 = 1 := by rw [← kd_at hi']; exact h1
      unfold MTok
      simp only [if_pos h1']
      constructor
      · rintro ⟨j, rfl, h2, h3⟩
        have hj : j < l.length := hk
        refine ⟨l.take j, [l[j]], by rw [List.take_add_one, List.getElem?_eq_getElem hj]; rfl, (row_MT ts l i j (by omega) (by omega)).1 h2, l[j], rfl, ?_⟩
        rw [st_at hi', bt_at hj] at h3
        exact h3
      · rintro ⟨l1, l2, h2, h3, b, rfl, h4⟩
        have hlen := congrArg List.length h2
        rw [List.length_take, Nat.min_eq_left hk, List.length_append] at hlen
        simp only [List.length_cons, List.length_nil, Nat.zero_add] at hlen
        have hj : l1.length < l.length := by omega
        have e1 : l.take l1.length = l1 := by
          have := congrArg (List.take l1.length) h2
          rw [List.take_take, Nat.min_eq_left (by omega), List.take_left] at this
          exact this
        have e2 : l[l1.length] = b := by
          have := congrArg (fun z => z[l1.length]?) h2
          rw [List.getElem?_take_of_lt (by omega), List.getElem?_eq_getElem hj, List.getElem?_append_right (Nat.le_refl _), Nat.sub_self] at this
          simpa using this
        refine ⟨l1.length, hlen, (row_MT ts l i _ (by omega) (by omega)).2 (by rw [e1]; exact h3), ?_⟩
        rw [st_at hi', bt_at hj, e2]
        exact h4
    · rw [row_many h1]
      have h1' : ¬ (ts[i]).1 = 1 := by rw [← kd_at hi']; exact h1
      unfold MTok
      simp only [if_neg h1', kd_at hi']
      constructor
      · rintro ⟨j, hj, h2, h3⟩
        refine ⟨l.take j, (l.take k).drop j, ?_, (row_MT ts l i j (by omega) (by omega)).1 h2, ?_⟩
        · rw [← Nat.min_eq_left hj, ← List.take_take, Nat.min_eq_left hj, List.take_append_drop]
        · intro b hb
          obtain ⟨x, hx, rfl⟩ := List.getElem_of_mem hb
          have hx' : j + x < k := by simp only [List.length_drop, List.length_take] at hx; omega
          have := h3 (j + x) (by omega) hx'
          rw [bt_at (by omega)] at this
          simpa using this
      · rintro ⟨l1, l2, h2, h3, h4⟩
        have hlen := congrArg List.length h2
        rw [List.length_take, Nat.min_eq_left hk, List.length_append] at hlen
        have e1 : l.take l1.length = l1 := by
          have := congrArg (List.take l1.length) h2
          rw [List.take_take, Nat.min_eq_left (by omega), List.take_left] at this
          exact this
        refine ⟨l1.length, by omega, (row_MT ts l i _ (by omega) (by omega)).2 (by rw [e1]; exact h3), fun x hx hx' => ?_⟩
        have hxl : x < l.length := by omega
        have e2 : l[x] ∈ l2 := by
          have := congrArg (fun z => z[x]?) h2
          rw [List.getElem?_take_of_lt hx', List.getElem?_eq_getElem hxl, List.getElem?_append_right hx] at this
          exact List.mem_of_getElem? this.symm
        rw [bt_at hxl]
        exact h4 _ e2
theorem matchB_MT (ts : List Tok) (l : List UInt8) : matchB ts l = true ↔ MT ts l := by
  unfold matchB
  rw [row_MT ts l _ _ (Nat.le_refl _) (Nat.le_refl _), List.take_length, List.take_length]

/-- the second of two patterns, where it lies behind the first -/
theorem bt_right (p q : List UInt8) (i : Nat) : bt (p ++ q) (p.length + i) = bt q i := by
  unfold bt; simp [List.getD, List.getElem?_append_right]
theorem bt_left {p : List UInt8} (q : List UInt8) {i : Nat} (h : i < p.length) : bt (p ++ q) i = bt p i := by
  unfold bt; simp [List.getD, List.getElem?_append_left h]
theorem item_right {p q : List UInt8} {i b j : Nat} (h : item q i = some (b, j)) : item (p ++ q) (p.length + i) = some (b, p.length + j) := by
  unfold item at h ⊢
  rw [bt_right, show p.length + i + 1 = p.length + (i + 1) from rfl, bt_right, List.length_append]
  split at h
  · cases h
  · rename_i h1
    rw [if_neg (by omega)]
    split at h
    · rename_i h2
      rw [if_pos h2]
      split at h
      · cases h
      · rename_i h3
        rw [if_neg (by omega)]
        cases h; rfl
    · rename_i h2
      rw [if_neg h2]
      cases h; rfl
theorem span_right {p q : List UInt8} {i lo hi j : Nat} (h : span q i = some (lo, hi, j)) : span (p ++ q) (p.length + i) = some (lo, hi, p.length + j) := by
  unfold span at h ⊢
  cases h1 : item q i with
  | none => rw [h1] at h; cases h
  | some x =>
    obtain ⟨a, n⟩ := x
    rw [h1] at h
    rw [item_right h1]
    simp only at h ⊢
    rw [bt_right, show p.length + n + 1 = p.length + (n + 1) from rfl, bt_right, List.length_append]
    by_cases hc : n + 1 < q.length ∧ bt q n = 45 ∧ ¬ bt q (n + 1) = 93
    · rw [if_pos hc] at h
      rw [if_pos ⟨by omega, hc.2⟩]
      cases h2 : item q (n + 1) with
      | none => rw [h2] at h; cases h
      | some y =>
        obtain ⟨c, m⟩ := y
        rw [h2] at h
        rw [item_right h2]
        simp only at h ⊢
        by_cases h3 : c < a
        · rw [if_pos h3] at h; cases h
        · rw [if_neg h3] at h ⊢
          cases h; rfl
    · rw [if_neg hc] at h
      rw [if_neg (fun hh => hc ⟨by omega, hh.2⟩)]
      cases h; rfl
theorem items_right {p q : List UInt8} : ∀ {g i n : Nat} {f : Nat → Bool} {r : (Nat → Bool) × Nat × Nat}, items q g i f n = some r → items (p ++ q) g (p.length + i) f n = some (r.1, r.2.1, p.length + r.2.2)
  | 0, i, n, f, r, h => by cases h
  | g + 1, i, n, f, r, h => by
    unfold items at h ⊢
    rw [bt_right, List.length_append]
    by_cases hc : i < q.length ∧ ¬ bt q i = 93
    · rw [if_pos hc] at h
      rw [if_pos ⟨by omega, hc.2⟩]
      cases h1 : span q i with
      | none => rw [h1] at h; cases h
      | some x =>
        obtain ⟨lo, hi, j⟩ := x
        rw [h1] at h
        rw [span_right h1]
        exact items_right h
    · rw [if_neg hc] at h
      rw [if_neg (fun hh => hc ⟨by omega, hh.2⟩)]
      cases h; rfl
theorem items_fuel {p : List UInt8} : ∀ {g g' i n : Nat} {f : Nat → Bool} {r : (Nat → Bool) × Nat × Nat}, items p g i f n = some r → g ≤ g' → items p g' i f n = some r
  | 0, g', i, n, f, r, h, _ => by cases h
  | g + 1, 0, i, n, f, r, h, hg => by omega
  | g + 1, g' + 1, i, n, f, r, h, hg => by
    unfold items at h ⊢
    by_cases hc : i < p.length ∧ ¬ bt p i = 93
    · rw [if_pos hc] at h ⊢
      cases h1 : span p i with
      | none => rw [h1] at h; cases h
      | some x =>
        obtain ⟨lo, hi, j⟩ := x
        rw [h1] at h
        exact items_fuel h (by omega)
    · rw [if_neg hc] at h ⊢
      exact h
theorem setAt_right {p q : List UInt8} {i j : Nat} {f : Nat → Bool} (h : setAt q i = some (f, j)) : setAt (p ++ q) (p.length + i) = some (f, p.length + j) := by
  unfold setAt at h ⊢
  have e1 : (if p.length + i < (p ++ q).length ∧ bt (p ++ q) (p.length + i) = 33 then p.length + i + 1 else p.length + i) = p.length + (if i < q.length ∧ bt q i = 33 then i + 1 else i) := by
    rw [bt_right, List.length_append]
    by_cases hc : i < q.length ∧ bt q i = 33
    · rw [if_pos hc, if_pos ⟨by omega, hc.2⟩]; rfl
    · rw [if_neg hc, if_neg (fun hh => hc ⟨by omega, hh.2⟩)]
  have e2 : decide (p.length + i < (p ++ q).length ∧ bt (p ++ q) (p.length + i) = 33) = decide (i < q.length ∧ bt q i = 33) := by
    rw [bt_right, List.length_append, decide_eq_decide]
    constructor
    · rintro ⟨h1, h2⟩; exact ⟨by omega, h2⟩
    · rintro ⟨h1, h2⟩; exact ⟨by omega, h2⟩
  rw [e1, e2]
  cases h1 : items q (q.length + 1) (if i < q.length ∧ bt q i = 33 then i + 1 else i) (fun _ => false) 0 with
  | none => rw [h1] at h; cases h
  | some x =>
    obtain ⟨f', n', m⟩ := x
    rw [h1] at h
    rw [items_fuel (items_right (p := p) h1) (by rw [List.length_append]; omega)]
    simp only at h ⊢
    rw [List.length_append]
    split at h
    · cases h
    · rename_i h2
      rw [if_neg (by omega)]
      cases h; rfl
theorem tokAt_right {p q : List UInt8} {i j : Nat} {t : Tok} (h : tokAt q i = some (t, j)) : tokAt (p ++ q) (p.length + i) = some (t, p.length + j) := by
  unfold tokAt at h ⊢
  rw [bt_right, show p.length + i + 1 = p.length + (i + 1) from rfl, bt_right, List.length_append]
  split at h
  · rename_i h1
    rw [if_pos h1]
    split at h
    · rename_i h2
      rw [if_pos ⟨by omega, h2.2⟩]
      cases h; rfl
    · rename_i h2
      rw [if_neg (fun hh => h2 ⟨by omega, hh.2⟩)]
      cases h; rfl
  · rename_i h1
    rw [if_neg h1]
    split at h
    · rename_i h2
      rw [if_pos h2]
      cases h; rfl
    · rename_i h2
      rw [if_neg h2]
      split at h
      · rename_i h3
        rw [if_pos h3]
        cases h4 : setAt q (i + 1) with
        | none => rw [h4] at h; cases h
        | some x =>
          rw [h4] at h
          rw [setAt_right (p := p) (f := x.1) (j := x.2) h4]
          cases h; rfl
      · rename_i h3
        rw [if_neg h3]
        cases h4 : item q i with
        | none => rw [h4] at h; cases h
        | some x =>
          rw [h4] at h
          rw [item_right (p := p) (b := x.1) (j := x.2) h4]
          cases h; rfl
theorem toks_right {p q : List UInt8} : ∀ {g i : Nat} {ts : List Tok}, toks q g i = some ts → toks (p ++ q) g (p.length + i) = some ts
  | 0, i, ts, h => by cases h
  | g + 1, i, ts, h => by
    unfold toks at h ⊢
    rw [List.length_append]
    by_cases hc : i < q.length
    · rw [if_pos hc] at h
      rw [if_pos (by omega)]
      cases h1 : tokAt q i with
      | none => rw [h1] at h; cases h
      | some x =>
        obtain ⟨t, j⟩ := x
        rw [h1] at h
        rw [tokAt_right h1]
        simp only at h ⊢
        cases h2 : toks q g j with
        | none => rw [h2] at h; cases h
        | some us => rw [h2] at h; rw [toks_right h2]; exact h
    · rw [if_neg hc] at h
      rw [if_neg (by omega)]
      exact h

/-- the first of two patterns -/
theorem item_left {p q : List UInt8} {i b j : Nat} (h : item p i = some (b, j)) : item (p ++ q) i = some (b, j) := by
  unfold item at h ⊢
  rw [List.length_append]
  split at h
  · cases h
  · rename_i h1
    rw [if_neg (by omega), bt_left q (by omega)]
    split at h
    · rename_i h2
      rw [if_pos h2]
      split at h
      · cases h
      · rename_i h3
        rw [if_neg (by omega), bt_left q (by omega)]
        exact h
    · rename_i h2
      rw [if_neg h2]
      exact h
theorem span_left {p q : List UInt8} {i lo hi j : Nat} (h : span p i = some (lo, hi, j)) (hj : j < p.length) (h93 : j + 1 = p.length → bt p j = 93) : span (p ++ q) i = some (lo, hi, j) := by
  unfold span at h ⊢
  cases h1 : item p i with
  | none => rw [h1] at h; cases h
  | some x =>
    obtain ⟨a, n⟩ := x
    rw [h1] at h
    rw [item_left h1]
    simp only at h ⊢
    by_cases hc : n + 1 < p.length ∧ bt p n = 45 ∧ ¬ bt p (n + 1) = 93
    · rw [if_pos hc] at h
      rw [if_pos ⟨by rw [List.length_append]; omega, by rw [bt_left q (by omega)]; exact hc.2.1, by rw [bt_left q (by omega)]; exact hc.2.2⟩]
      cases h2 : item p (n + 1) with
      | none => rw [h2] at h; cases h
      | some y =>
        obtain ⟨c, m⟩ := y
        rw [h2] at h
        rw [item_left h2]
        exact h
    · rw [if_neg hc] at h
      have e : n = j := by cases h; rfl
      subst e
      rw [if_neg (fun hh => ?_)]
      · exact h
      · rw [bt_left q hj] at hh
        by_cases h3 : n + 1 < p.length
        · rw [bt_left q h3] at hh
          exact hc ⟨h3, hh.2⟩
        · have := h93 (by omega)
          omega
theorem items_end {p : List UInt8} : ∀ {g i n : Nat} {f f' : Nat → Bool} {n' j : Nat}, items p g i f n = some (f', n', j) → j < p.length → bt p j = 93
  | 0, i, n, f, f', n', j, h, _ => by cases h
  | g + 1, i, n, f, f', n', j, h, hj => by
    unfold items at h
    by_cases hc : i < p.length ∧ ¬ bt p i = 93
    · rw [if_pos hc] at h
      cases h1 : span p i with
      | none => rw [h1] at h; cases h
      | some x =>
        obtain ⟨lo, hi, m⟩ := x
        rw [h1] at h
        exact items_end h hj
    · rw [if_neg hc] at h
      cases h
      exact Classical.byContradiction fun hh => hc ⟨hj, hh⟩
theorem items_left {p q : List UInt8} : ∀ {g i n : Nat} {f f' : Nat → Bool} {n' j : Nat}, items p g i f n = some (f', n', j) → i ≤ p.length → j < p.length → items (p ++ q) g i f n = some (f', n', j)
  | 0, i, n, f, f', n', j, h, _, _ => by cases h
  | g + 1, i, n, f, f', n', j, h, hi, hj => by
    have hle := items_le h hi
    have h93 := items_end h hj
    unfold items at h ⊢
    rw [bt_left q (by omega), List.length_append]
    by_cases hc : i < p.length ∧ ¬ bt p i = 93
    · rw [if_pos hc] at h
      rw [if_pos ⟨by omega, hc.2⟩]
      cases h1 : span p i with
      | none => rw [h1] at h; cases h
      | some x =>
        obtain ⟨lo, hh, m⟩ := x
        rw [h1] at h
        simp only at h ⊢
        have hs := span_le h1
        have hle2 := items_le h hs.2.1
        rw [span_left h1 (by omega) (fun e => by
          have : m = j := by omega
          rw [this]; exact h93)]
        exact items_left h hs.2.1 hj
    · rw [if_neg hc] at h
      rw [if_neg (fun hh => hc ⟨by omega, hh.2⟩)]
      exact h
theorem setAt_left {p q : List UInt8} {i j : Nat} {f : Nat → Bool} (h : setAt p i = some (f, j)) (hi : i ≤ p.length) : setAt (p ++ q) i = some (f, j) := by
  unfold setAt at h ⊢
  cases h1 : items p (p.length + 1) (if i < p.length ∧ bt p i = 33 then i + 1 else i) (fun _ => false) 0 with
  | none => rw [h1] at h; cases h
  | some x =>
    obtain ⟨f', n', m⟩ := x
    rw [h1] at h
    simp only at h
    split at h
    · cases h
    · rename_i h2
      have hst : (if i < p.length ∧ bt p i = 33 then i + 1 else i) ≤ p.length := by split <;> omega
      have hle := items_le h1 hst
      have hii : i ≤ (if i < p.length ∧ bt p i = 33 then i + 1 else i) := by split <;> omega
      have hip : i < p.length := by omega
      have e1 : (i < (p ++ q).length ∧ bt (p ++ q) i = 33) = (i < p.length ∧ bt p i = 33) := by
        rw [bt_left q hip, List.length_append]
        apply propext
        constructor
        · rintro ⟨_, h⟩; exact ⟨hip, h⟩
        · rintro ⟨_, h⟩; exact ⟨by omega, h⟩
      simp only [e1]
      rw [items_fuel (items_left (q := q) h1 hst (by omega)) (by rw [List.length_append]; omega)]
      simp only
      rw [if_neg (by rw [List.length_append]; omega)]
      exact h
theorem tokAt_left {p q : List UInt8} {i j : Nat} {t : Tok} (h : tokAt p i = some (t, j)) (hi : i < p.length) (hs : ¬ (bt p i = 42 ∧ i + 1 = p.length ∧ 0 < q.length ∧ bt q 0 = 42)) : tokAt (p ++ q) i = some (t, j) := by
  unfold tokAt at h ⊢
  rw [bt_left q hi]
  split at h
  · rename_i h1
    rw [if_pos h1]
    split at h
    · rename_i h2
      rw [if_pos ⟨by rw [List.length_append]; omega, by rw [bt_left q h2.1]; exact h2.2⟩]
      exact h
    · rename_i h2
      rw [if_neg (fun hh => ?_)]
      · exact h
      · by_cases h3 : i + 1 < p.length
        · rw [bt_left q h3] at hh; exact h2 ⟨h3, hh.2⟩
        · have e : i + 1 = p.length + 0 := by omega
          rw [e, bt_right, List.length_append] at hh
          exact hs ⟨h1, by omega, by omega, hh.2⟩
  · rename_i h1
    rw [if_neg h1]
    split at h
    · rename_i h2
      rw [if_pos h2]; exact h
    · rename_i h2
      rw [if_neg h2]
      split at h
      · rename_i h3
        rw [if_pos h3]
        cases h4 : setAt p (i + 1) with
        | none => rw [h4] at h; cases h
        | some x =>
          rw [h4] at h
          rw [setAt_left (q := q) (f := x.1) (j := x.2) h4 (by omega)]
          exact h
      · rename_i h3
        rw [if_neg h3]
        cases h4 : item p i with
        | none => rw [h4] at h; cases h
        | some x =>
          rw [h4] at h
          rw [item_left (q := q) (b := x.1) (j := x.2) h4]
          exact h

/-- fuel -/
theorem toks_fuel {p : List UInt8} : ∀ {g g' i : Nat} {ts : List Tok}, toks p g i = some ts → p.length - i < g' → toks p g' i = some ts
  | 0, g', i, ts, h, _ => by cases h
  | g + 1, 0, i, ts, h, hg => by omega
  | g + 1, g' + 1, i, ts, h, hg => by
    unfold toks at h ⊢
    by_cases hc : i < p.length
    · rw [if_pos hc] at h ⊢
      cases h1 : tokAt p i with
      | none => rw [h1] at h; cases h
      | some x =>
        obtain ⟨t, j⟩ := x
        rw [h1] at h
        simp only at h ⊢
        have hl := tokAt_le h1 hc
        cases h2 : toks p g j with
        | none => rw [h2] at h; cases h
        | some us => rw [h2] at h; rw [toks_fuel h2 (by omega)]; exact h
    · rw [if_neg hc] at h ⊢
      exact h
/-- what toks gives at a place with a token -/
theorem toks_cons {p : List UInt8} {g i : Nat} {ts : List Tok} (h : toks p g i = some ts) (hi : i < p.length) : ∃ g' t j us, g = g' + 1 ∧ tokAt p i = some (t, j) ∧ toks p g' j = some us ∧ ts = t :: us := by
  cases g with
  | zero => cases h
  | succ g =>
    unfold toks at h
    rw [if_pos hi] at h
    cases h1 : tokAt p i with
    | none => rw [h1] at h; cases h
    | some x =>
      obtain ⟨t, j⟩ := x
      rw [h1] at h
      simp only at h
      cases h2 : toks p g j with
      | none => rw [h2] at h; cases h
      | some us =>
        rw [h2] at h
        exact ⟨g, t, j, us, rfl, rfl, h2, by cases h; rfl⟩
theorem toks_nil {p : List UInt8} {g i : Nat} {ts : List Tok} (h : toks p g i = some ts) (hi : ¬ i < p.length) : ts = [] := by
  cases g with
  | zero => cases h
  | succ g => unfold toks at h; rw [if_neg hi] at h; cases h; rfl
theorem toks_mk {p : List UInt8} {g i j : Nat} {t : Tok} {us : List Tok} (hi : i < p.length) (h1 : tokAt p i = some (t, j)) (h2 : toks p g j = some us) : toks p (g + 1) i = some (t :: us) := by
  unfold toks; rw [if_pos hi, h1]; simp only; rw [h2]; rfl

abbrev deep : Tok := (3, fun _ => false)
abbrev star : Tok := (2, fun _ => false)
theorem MTok_deep (l : List UInt8) : MTok deep l := by
  unfold MTok; rw [if_neg (by decide)]; intro b _; rfl
theorem MTok_star_nil : MTok star [] := by
  unfold MTok; rw [if_neg (by decide)]; intro b h; cases h
theorem tokAt_deep {p : List UInt8} {i : Nat} (h : bt p i = 42) (h1 : i + 1 < p.length) (h2 : bt p (i + 1) = 42) : tokAt p i = some (deep, i + 2) := by
  unfold tokAt; rw [if_pos h, if_pos ⟨h1, h2⟩]
theorem tokAt_star {p : List UInt8} {i : Nat} (h : bt p i = 42) (h1 : ¬ (i + 1 < p.length ∧ bt p (i + 1) = 42)) : tokAt p i = some (star, i + 1) := by
  unfold tokAt; rw [if_pos h, if_neg h1]
/-- a star less behind two stars -/
theorem less_star {q : List UInt8} : ∀ (g i : Nat) (us : List Tok) (b : List UInt8), i < q.length → bt q i = 42 → toks q g i = some us → MT us b → ∃ g' vs, toks q g' (i + 1) = some vs ∧ MT (deep :: vs) b := fun g => by
  induction g using Nat.strongRecOn with
  | ind g ih =>
  intro i us b hi h42 hu hm
  obtain ⟨g1, t, j, us', rfl, ht, hu', rfl⟩ := toks_cons hu hi
  obtain ⟨b1, b2, rfl, hm1, hm2⟩ := hm
  by_cases h2 : i + 1 < q.length ∧ bt q (i + 1) = 42
  · rw [tokAt_deep h42 h2.1 h2.2] at ht
    cases ht
    by_cases h3 : i + 2 < q.length ∧ bt q (i + 2) = 42
    · obtain ⟨g', vs, hv, hvm⟩ := ih g1 (by omega) (i + 2) us' b2 h3.1 h3.2 hu' hm2
      refine ⟨g' + 1, deep :: vs, toks_mk h2.1 (tokAt_deep h2.2 h3.1 h3.2) hv, b1, b2, rfl, MTok_deep _, hvm⟩
    · refine ⟨g1 + 1, star :: us', toks_mk h2.1 (tokAt_star h2.2 h3) hu', b1, b2, rfl, MTok_deep _, [], b2, rfl, MTok_star_nil, hm2⟩
  · rw [tokAt_star h42 h2] at ht
    cases ht
    exact ⟨g1, us', hu', b1, b2, rfl, MTok_deep _, hm2⟩
/-- patterns behind one another -/
theorem join_toks {p q : List UInt8} {gq : Nat} {us : List Tok} {b : List UInt8} (hq : toks q gq 0 = some us) (hb : MT us b) : ∀ (g i : Nat) (ts : List Tok) (a : List UInt8), i ≤ p.length → toks p g i = some ts → MT ts a → ∃ g' vs, toks (p ++ q) g' i = some vs ∧ MT vs (a ++ b)
  | g, i, ts, a, hi, ht, ha => by
    by_cases hlt : i < p.length
    · obtain ⟨g1, t, j, ts', rfl, h1, h2, rfl⟩ := toks_cons ht hlt
      have hl := tokAt_le h1 hlt
      obtain ⟨a1, a2, rfl, hm1, hm2⟩ := ha
      by_cases hs : bt p i = 42 ∧ i + 1 = p.length ∧ 0 < q.length ∧ bt q 0 = 42
      · have e1 := tokAt_star hs.1 (fun h => by omega : ¬ (i + 1 < p.length ∧ bt p (i + 1) = 42))
        rw [e1] at h1
        cases h1
        have e2 := toks_nil h2 (by omega)
        subst e2
        cases hm2
        obtain ⟨g', vs, hv, hvm⟩ := less_star gq 0 us b hs.2.2.1 hs.2.2.2 hq hb
        obtain ⟨b1, b2, rfl, _, hvm2⟩ := hvm
        have hd : tokAt (p ++ q) i = some (deep, p.length + 1) := by
          have := tokAt_deep (p := p ++ q) (i := i) (by rw [bt_left q hlt]; exact hs.1) (by rw [List.length_append]; omega) (by rw [show i + 1 = p.length + 0 from by omega, bt_right]; exact hs.2.2.2)
          rw [this]
          congr 2; omega
        refine ⟨g' + 1, deep :: vs, toks_mk (by rw [List.length_append]; omega) hd (toks_right hv), a1 ++ [] ++ b1, b2, by simp, MTok_deep _, hvm2⟩
      · obtain ⟨g', vs, hv, hvm⟩ := join_toks hq hb g1 j ts' a2 hl.2.1 h2 hm2
        exact ⟨g' + 1, t :: vs, toks_mk (by rw [List.length_append]; omega) (tokAt_left h1 hlt hs) hv, a1, a2 ++ b, by simp, hm1, hvm⟩
    · have e1 := toks_nil ht hlt
      subst e1
      cases ha
      have e : i = p.length + 0 := by omega
      rw [e]
      exact ⟨gq, us, toks_right hq, hb⟩
  termination_by g => g
theorem ans_parts {p l : List UInt8} (h : matchAns p l = true) : ¬ 4096 < p.length ∧ ∃ ts, parse p = some ts ∧ MT ts l := by
  unfold matchAns at h
  split at h
  · cases h
  · rename_i h1
    refine ⟨h1, ?_⟩
    cases h2 : parse p with
    | none => rw [h2] at h; cases h
    | some ts => rw [h2] at h; exact ⟨ts, rfl, (matchB_MT ts l).1 h⟩
theorem ans_join {p q a b : List UInt8} (hp : p.length ≤ 2048) (hq : q.length ≤ 2048) (h1 : matchAns p a = true) (h2 : matchAns q b = true) : matchAns (p ++ q) (a ++ b) = true ∧ checkErr (p ++ q) = 0 := by
  obtain ⟨_, ts, ht, hta⟩ := ans_parts h1
  obtain ⟨_, us, hu, hub⟩ := ans_parts h2
  obtain ⟨g', vs, hv, hvm⟩ := join_toks hu hub _ 0 ts a (Nat.zero_le _) ht hta
  have hpar : parse (p ++ q) = some vs := toks_fuel hv (by omega)
  have hlen : ¬ 4096 < (p ++ q).length := by rw [List.length_append]; omega
  constructor
  · unfold matchAns
    rw [if_neg hlen, hpar]
    exact (matchB_MT vs _).2 hvm
  · unfold checkErr
    rw [if_neg hlen, hpar]
    rfl
end Go.Proofs.Ytejcpngmllciiaa
