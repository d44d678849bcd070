/-
  Slices that are read: what a value of a slice type holds in a world, whoever made it; and 'append(out, s...)' onto a row of the call's own. For any program.
-/
import Derived.Test.YtbkclmpopofebaaDoorOwn
import Derived.Laws.AppendOwnNone
import Derived.Deep.QuietTactic
import Derived.BigQuiet
import Derived.Lib.Hide
import Derived.WalkSpells
import Derived.WalkLawsBesides
namespace Go.Proofs.YtbkclmpopofebaaDoor
open Go.RowKit

/-- the world, but for draws -/
def Drawn (w w' : World) : Prop := ∃ q, w' = w.drewN q
theorem Drawn.refl (w : World) : Drawn w w := ⟨0, rfl⟩
theorem Drawn.more {w w' : World} (h : Drawn w w') (n : Nat) : Drawn w (w'.drewN n) := by
  obtain ⟨q, rfl⟩ := h
  exact ⟨q + n, World.drewN_drewN _ _ _⟩
theorem Drawn.drew {w w' : World} (h : Drawn w w') : Drawn w w'.drew := by
  obtain ⟨q, rfl⟩ := h
  exact ⟨q + 1, rfl⟩
theorem Drawn.trans {w w1 w2 : World} (h : Drawn w w1) (k : Drawn w1 w2) : Drawn w w2 := by
  obtain ⟨q, rfl⟩ := k
  exact h.more q
theorem Drawn.below {w w' : World} (h : Drawn w w') (B : Nat) : Below B w w' := by
  obtain ⟨q, rfl⟩ := h
  induction q with
  | zero => exact Below.refl _ _
  | succ q ih => exact ih.drew
theorem Drawn.cell {w w' : World} (h : Drawn w w') (a : Addr) : w'.cell? a = w.cell? a := by
  obtain ⟨q, rfl⟩ := h
  induction q with
  | zero => rfl
  | succ q ih => exact ih
theorem Drawn.heap {w w' : World} (h : Drawn w w') : w'.heap = w.heap := by
  obtain ⟨q, rfl⟩ := h
  induction q with
  | zero => rfl
  | succ q ih => exact ih
theorem Below.next {w w1 w2 : World} (h : Below w.heap.size w w1) (k : Below w1.heap.size w1 w2) : Below w.heap.size w w2 := h.trans (k.mono h.size)

/-- the slice v holds these elements, each of one cell: nil, of no element, or at an address -/
def Rd {α : Type} (w : World) (enc : α → Value) (v : Value) (xs : List α) : Prop :=
  ∃ (ao : Option Addr) (c : Nat), v = .slice ao xs.length c ∧ xs.length ≤ c ∧ c ≤ maxLen ∧ (ao = none → c = 0) ∧
    (xs ≠ [] → ∃ b o, ao = some ⟨b, o, none⟩ ∧ ∀ i (h : i < xs.length), w.cell? ⟨b, o + i, none⟩ = some (enc (xs[i])))

section
variable {α : Type} {w w' : World} {enc : α → Value} {v : Value} {xs : List α}
theorem lt_of_cell {w : World} {a : Addr} {u : Value} (h : w.cell? a = some u) : a.block < w.heap.size := by
  unfold World.cell? at h
  cases hb : w.heap[a.block]? with
  | none => simp [hb] at h
  | some o => exact (Array.getElem?_eq_some_iff.1 hb).1
theorem Rd.keep (h : Rd w enc v xs) (hc : ∀ a : Addr, a.block < w.heap.size → w'.cell? a = w.cell? a) : Rd w' enc v xs := by
  obtain ⟨ao, c, hv, h1, h2, h3, h4⟩ := h
  refine ⟨ao, c, hv, h1, h2, h3, fun hne => ?_⟩
  obtain ⟨b, o, ha, hcs⟩ := h4 hne
  exact ⟨b, o, ha, fun i hi => by rw [hc _ (lt_of_cell (hcs i hi)), hcs i hi]⟩
theorem Rd.below (h : Rd w enc v xs) (hb : Below w.heap.size w w') : Rd w' enc v xs := h.keep fun _ ha => hb.cell ha
theorem Rd.drawn (h : Rd w enc v xs) (hd : Drawn w w') : Rd w' enc v xs := h.keep fun a _ => hd.cell a
theorem Rd.alloc (h : Rd w enc v xs) (o : Obj) : Rd (w.alloc o) enc v xs := h.below ((Below.refl _ _).alloc (Nat.le_refl _) o)
theorem Rd.nil (w : World) (enc : α → Value) : Rd w enc (.slice none 0 0) [] := ⟨none, 0, rfl, Nat.le_refl _, by unfold maxLen; omega, fun _ => rfl, fun h => absurd rfl h⟩
/-- the two shapes -/
theorem Rd.cases (h : Rd w enc v xs) : (xs = [] ∧ ∃ ao c, v = .slice ao 0 c) ∨
    (0 < xs.length ∧ ∃ b o c, v = .slice (some ⟨b, o, none⟩) xs.length c ∧ xs.length ≤ c ∧ c ≤ maxLen ∧ ∀ i (h : i < xs.length), w.cell? ⟨b, o + i, none⟩ = some (enc (xs[i]))) := by
  obtain ⟨ao, c, hv, h1, h2, h3, h4⟩ := h
  cases xs with
  | nil => exact Or.inl ⟨rfl, ao, c, hv⟩
  | cons x xs =>
    obtain ⟨b, o, rfl, hc⟩ := h4 (by simp)
    exact Or.inr ⟨by simp, b, o, c, hv, h1, h2, hc⟩
theorem Rd.shape (d : α) (h : Rd w enc v xs) : (xs = [] ∧ ∃ ao c, v = .slice ao 0 c) ∨
    (0 < xs.length ∧ ∃ b o c, v = .slice (some ⟨b, o, none⟩) xs.length c ∧ xs.length ≤ c ∧ c ≤ maxLen ∧ ∀ i, i < xs.length → w.cell? ⟨b, o + i, none⟩ = some (enc (xs.getD i d))) := by
  rcases h.cases with h | ⟨hp, b, o, c, hv, h1, h2, hc⟩
  · exact Or.inl h
  · refine Or.inr ⟨hp, b, o, c, hv, h1, h2, fun i hi => ?_⟩
    rw [hc i hi]; simp [List.getD, List.getElem?_eq_getElem hi]
theorem Rd.any (h : Rd w enc v xs) : ∃ ao c, v = .slice ao xs.length c := by
  obtain ⟨ao, c, hv, _⟩ := h
  exact ⟨ao, c, hv⟩
theorem Rd.len (h : Rd w enc v xs) : xs.length ≤ maxLen := by
  obtain ⟨_, c, _, h1, h2, _⟩ := h
  omega
theorem Own.rd {B : Nat} {e : TypeId} {g n cap : Nat} (h : Own w B e enc (.slice (some ⟨g, 0, none⟩) n cap) xs) : Rd w enc (.slice (some ⟨g, 0, none⟩) n cap) xs := by
  obtain ⟨rfl, h1, h2, _⟩ := h.len
  refine ⟨_, cap, rfl, h1, h2, (fun h => by cases h), fun _ => ⟨g, 0, rfl, fun i hi => ?_⟩⟩
  rw [Nat.zero_add]; exact h.cell i hi
end

/-- a slice literal -/
theorem rd_lit {α : Type} (w : World) (enc : α → Value) (xs : List α) (T : TypeId) (N : Nat) (hN : N = w.heap.size) (h : xs.length ≤ maxLen) :
    Rd (w.alloc (.cells (xs.map enc).toArray T)) enc (.slice (some ⟨N, 0, none⟩) xs.length xs.length) xs := by
  subst hN
  refine ⟨_, xs.length, rfl, Nat.le_refl _, h, (fun h => by cases h), fun _ => ⟨_, 0, rfl, fun i hi => ?_⟩⟩
  rw [Nat.zero_add, World.cell?_alloc_at _ _ _ _ rfl]
  simp [List.getElem?_eq_getElem hi]

/-- 'out = append(out, s...)': whatever s -/
theorem wpList_push_all {α : Type} {P : Program} {ops : Array Oper} {rest : List Oper} {o : Oper} {a : Act} {Q : Exit → Act → World → Prop} (w : World) (hgd : o.guard = none) (s x : Operand) (t : TypeId)
    (ho : o.op = .call { callee := .builtin .append, args := #[s, x], argTypes := #[t, t] })
    (B : Nat) (e : TypeId) (z : Value) (bytes : Nat) (enc : α → Value) (ht : P.underlying t = some (.slice e)) (hi : (P.info? e).map (fun i => (i.zero, i.size, i.bytes)) = some (some z, 1, bytes)) (hzs : z.cells.size = 1)
    (g0 n c0 : Nat) (xs ys : List α) (sv : Value) (hs : a.eval s = .slice (some ⟨g0, 0, none⟩) n c0) (hown : Own w B e enc (.slice (some ⟨g0, 0, none⟩) n c0) xs)
    (hx : a.eval x = sv) (hrd : Rd w enc sv ys) (h1 : ∀ y, (enc y).oneCell' = true)
    (hbytes : (n + ys.length) * bytes ≤ 140737488355328) (h63 : n + ys.length ≤ maxLen) (hB : B ≤ w.heap.size)
    (h : ∀ g cap w', Own w' B e enc (.slice (some ⟨g, 0, none⟩) (n + ys.length) cap) (xs ++ ys) → Below B w w' → wpList P ops Q rest (a.put o.dst (.slice (some ⟨g, 0, none⟩) (n + ys.length) cap)) w') :
    wpList P ops Q (o :: rest) a w := by
  obtain ⟨i0, hi1, hz0, hz1, hz2⟩ := info_parts hi
  obtain ⟨hn, _⟩ := hown.len
  subst hn
  obtain ⟨ao, c, rfl, hc1, hc2, hc3, hc4⟩ := hrd
  cases ao with
  | none =>
    have hy : ys = [] := by
      cases ys with
      | nil => rfl
      | cons y ys => have := hc3 rfl; simp at hc1; omega
    subst hy
    have := hc3 rfl
    subst this
    refine wpList_append_own_none hgd s x t ho B e i0 1 ht hi1 _ xs.length (xs.map enc) hs hown hx ?_
    have := h g0 c0 w (by simpa using hown) (Below.refl _ _)
    simpa using this
  | some ad =>
    refine wpList_append_own w hgd s x t ho B e i0 z 1 bytes ht hi1 hz0 hz1 hz2 hzs (by omega) _ xs.length (xs.map enc) hs hown ad ys.length c (ys.map enc) hx (by simp) ?_ ?_ h63 hbytes hB ?_
    · intro j u hj
      have hj' : j < ys.length := by
        have := (List.getElem?_eq_some_iff.1 hj).1
        simpa using this
      obtain ⟨b, o, ha, hcs⟩ := hc4 (by intro e; subst e; simp at hj')
      cases ha
      rw [WideShapes.add_plain, hcs j hj', ← hj]
      simp [List.getElem?_eq_getElem hj']
    · intro u hu
      obtain ⟨y, _, rfl⟩ := List.mem_map.1 hu
      exact h1 y
    · intro v' w' hown' hgrow hnil
      have hb : Below B w w' := (Below.refl B w).grown hgrow hB (fun k hk => (World.ownsRow.lt hown k hk).1)
      rcases hown'.2 with ⟨h2, _⟩ | ⟨g, cap, cur, rfl, _⟩
      · exact absurd (hnil.1 h2).1 (by intro e; cases e)
      · refine h g cap w' ?_ hb
        unfold Own
        rw [List.map_append, List.length_append]
        exact hown'
end Go.Proofs.YtbkclmpopofebaaDoor
