/-
  Laws of the walk for a slice that the call itself made and appends to, element by element: the value comes back written out. For any program.
-/
import Derived.WalkKit
import Derived.WideShapes
namespace Go.Proofs.YtbkclmpopofebaaDoor
open Go.RowKit

/-- the slice v owns a row of these elements, each of one cell, in a block from B on -/
def Own {α : Type} (w : World) (B : Nat) (e : TypeId) (enc : α → Value) (v : Value) (xs : List α) : Prop := w.ownsRow B e 1 v xs.length (xs.map enc)

theorem Own.alloc {α : Type} {w : World} {B : Nat} {e : TypeId} {enc : α → Value} {v : Value} {xs : List α} (h : Own w B e enc v xs) (o : Obj) : Own (w.alloc o) B e enc v xs := World.ownsRow.alloc h o
theorem Own.drew {α : Type} {w : World} {B : Nat} {e : TypeId} {enc : α → Value} {v : Value} {xs : List α} (h : Own w B e enc v xs) : Own w.drew B e enc v xs := World.ownsRow.drew h
/-- a slice literal of no element -/
theorem own_empty {α : Type} (w : World) (B : Nat) (e : TypeId) (enc : α → Value) (hB : B ≤ w.heap.size) : Own (w.alloc (.cells #[] e)) B e enc (.slice (some ⟨w.heap.size, 0, none⟩) 0 0) [] := by
  have := World.ownsRow_lit (base := B) (e := e) (size := 1) w #[] 0 hB (by unfold maxLen; omega) rfl
  exact this
theorem own_nil {α : Type} (w : World) (B : Nat) (e : TypeId) (enc : α → Value) : Own w B e enc (.slice none 0 0) [] := World.ownsRow_nil _ _ _ _
theorem Own.cell {α : Type} {w : World} {B : Nat} {e : TypeId} {enc : α → Value} {g n cap : Nat} {xs : List α} (h : Own w B e enc (.slice (some ⟨g, 0, none⟩) n cap) xs) (j : Nat) (hj : j < xs.length) : w.cell? ⟨g, j, none⟩ = some (enc (xs[j])) := by
  have h1 := h
  rcases h1.2 with ⟨h2, _⟩ | ⟨g', cap', cur, he, _⟩
  · cases h2
  · cases he
    have := World.ownsRow.cellAt h j (by omega)
    rw [this]; simp [List.getElem?_eq_getElem hj]
theorem Own.len {α : Type} {w : World} {B : Nat} {e : TypeId} {enc : α → Value} {g n cap : Nat} {xs : List α} (h : Own w B e enc (.slice (some ⟨g, 0, none⟩) n cap) xs) : n = xs.length ∧ xs.length ≤ cap ∧ cap ≤ maxLen ∧ B ≤ g ∧ g < w.heap.size := by
  rcases h.2 with ⟨h2, _⟩ | ⟨g', cap', cur, he, hg, hh, hn, hc, _⟩
  · cases h2
  · cases he
    refine ⟨rfl, hn, hc, hg, ?_⟩
    exact (Array.getElem?_eq_some_iff.1 hh).1
theorem Own.free {α : Type} {w : World} {B : Nat} {e : TypeId} {enc : α → Value} {g n cap : Nat} {xs : List α} (h : Own w B e enc (.slice (some ⟨g, 0, none⟩) n cap) xs) (j : Nat) : w.frozen? ⟨g, j, none⟩ = false := by
  obtain ⟨rfl, _⟩ := h.len
  exact World.ownsRow.frozenAt h j
/-- a store into the row -/
theorem Own.store {α : Type} {w : World} {B : Nat} {e : TypeId} {enc : α → Value} {g n cap : Nat} {xs : List α} (h : Own w B e enc (.slice (some ⟨g, 0, none⟩) n cap) xs) (j : Nat) (x : α) : Own (w.setCell ⟨g, j, none⟩ (enc x)) B e enc (.slice (some ⟨g, 0, none⟩) n cap) (xs.set j x) := by
  obtain ⟨rfl, _⟩ := h.len
  have := World.ownsRow.stored h j (enc x)
  unfold Own
  rw [List.map_set, List.length_set]
  exact this.1
/-- another block is written -/
theorem Own.other {α : Type} {w : World} {B : Nat} {e : TypeId} {enc : α → Value} {g n cap : Nat} {xs : List α} (h : Own w B e enc (.slice (some ⟨g, 0, none⟩) n cap) xs) (a : Addr) (ha : a.block ≠ g) (u : Value) : Own (w.setCell a u) B e enc (.slice (some ⟨g, 0, none⟩) n cap) xs := by
  obtain ⟨h1, h2⟩ := h
  refine ⟨h1, ?_⟩
  rcases h2 with h2 | ⟨g', cap', cur, hv, hg, hh, r⟩
  · exact Or.inl h2
  · cases hv
    exact Or.inr ⟨_, _, cur, rfl, hg, by rw [Below.heap_setCell _ _ _ _ (by omega)]; exact hh, r⟩

theorem Own.keep {α : Type} {w : World} {B : Nat} {e : TypeId} {enc : α → Value} {g n cap : Nat} {xs ys : List α} (h : Own w B e enc (.slice (some ⟨g, 0, none⟩) n cap) xs) (e1 : xs = ys) : Own w B e enc (.slice (some ⟨g, 0, none⟩) n cap) ys := e1 ▸ h
theorem cell_other {w : World} {a b : Addr} (u : Value) (h : a.block ≠ b.block) : (w.setCell a u).cell? b = w.cell? b :=
  World.cell?_of_block (w := w) (Below.heap_setCell w a u b.block (by omega))
/-- 'string(out)' of a row of bytes of the call's own -/
theorem conv_own {P : Program} {w : World} {B : Nat} {e src dst : TypeId} {g n cap : Nat} {l : List UInt8} (h : Own w B e (fun b : UInt8 => Value.int .u8 (b.toNat : Int)) (.slice (some ⟨g, 0, none⟩) n cap) l)
    (hs : P.underlying src = some (.slice e)) (he : P.underlying e = some (.int .u8)) (hd : P.underlying dst = some .string) :
    (convert src dst (.slice (some ⟨g, 0, none⟩) n cap)).run P w = .ok (.string ⟨l.toArray⟩) w := by
  obtain ⟨rfl, _⟩ := h.len
  refine run_convert_bytes_back _ src dst e ⟨g, 0, none⟩ cap l hs he hd (fun j hj => ?_)
  rw [WideShapes.add_plain, Nat.zero_add, h.cell j hj]

/-- 'out = append(out, x)': one element onto a row of the call's own -/
theorem wpList_push {α : Type} {P : Program} {ops : Array Oper} {rest : List Oper} {o : Oper} {a : Act} {Q : Exit → Act → World → Prop} (w : World) (hgd : o.guard = none) (s x : Operand) (t : TypeId)
    (ho : o.op = .call { callee := .builtin .append, args := #[s, x], argTypes := #[t, t] })
    (B : Nat) (e : TypeId) (z : Value) (bytes : Nat) (enc : α → Value) (ht : P.underlying t = some (.slice e)) (hi : (P.info? e).map (fun i => (i.zero, i.size, i.bytes)) = some (some z, 1, bytes)) (hzs : z.cells.size = 1)
    (v : Value) (xs : List α) (y : α) (n : Nat) (hs : a.eval s = v) (hown : Own w B e enc v xs) (hn : xs.length = n) (N : Nat) (hx : a.eval x = .slice (some ⟨N, 0, none⟩) 1 1) (hN : N = w.heap.size) (h1 : (enc y).oneCell' = true)
    (hbytes : (n + 1) * bytes ≤ 140737488355328) (h63 : n + 1 ≤ maxLen) (hB : B ≤ w.heap.size)
    (h : ∀ g cap w', Own w' B e enc (.slice (some ⟨g, 0, none⟩) (n + 1) cap) (xs ++ [y]) → Below B w w' → wpList P ops Q rest (a.put o.dst (.slice (some ⟨g, 0, none⟩) (n + 1) cap)) w') :
    wpList P ops Q (o :: rest) a (w.alloc (.cells #[enc y] e)) := by
  subst hN
  subst hn
  obtain ⟨i0, hi1, hz0, hz1, hz2⟩ := info_parts hi
  refine wpList_append_own (w.alloc (.cells #[enc y] e)) hgd s x t ho B e i0 z 1 bytes ht hi1 hz0 hz1 hz2 hzs (by omega) v xs.length (xs.map enc) hs (hown.alloc _) ⟨w.heap.size, 0, none⟩ 1 1 [enc y] hx rfl ?_ ?_ h63 hbytes (by simp; omega) ?_
  · intro j u hj
    match j, hj with
    | 0, hj =>
      simp only [List.getElem?_cons_zero, Option.some.injEq] at hj
      subst hj
      rw [WideShapes.add_plain, World.cell?_alloc_at _ _ _ _ rfl]; rfl
  · intro u hu
    simp only [List.mem_singleton] at hu
    subst hu
    exact h1
  · intro v' w' hown' hgrow hnil
    have hb : Below B w w' := ((Below.refl B w).alloc hB _).grown hgrow (by simp; omega) (fun k hk => (World.ownsRow.lt hown k hk).1)
    have hl : (xs ++ [y]).length = xs.length + 1 := by simp
    rcases hown'.2 with ⟨h2, h3⟩ | ⟨g, cap, cur, rfl, _⟩
    · exact absurd h3 (by omega)
    · refine h g cap w' ?_ hb
      unfold Own
      rw [hl, List.map_append]
      exact hown'
end Go.Proofs.YtbkclmpopofebaaDoor
