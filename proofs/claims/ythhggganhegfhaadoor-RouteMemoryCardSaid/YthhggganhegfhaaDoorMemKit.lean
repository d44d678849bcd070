/-
  What a store into one row, or an append onto it, leaves of the others. For any program.
-/
import Derived.Test.YthhggganhegfhaaDoorRouteAlive
namespace Go.Proofs.YthhggganhegfhaaDoor
open Go.RowKit
set_option linter.unusedVariables false

/-- the row va holds ys; the rows in keep are as they were in w4; below w all is as it was -/
structure MI (w w4 wr : World) (keep : List Value) (va : Value) (ys : List ByteArray) : Prop where
  own : Own wr w.heap.size 9 strE va ys
  kept : ∀ u ∈ keep, ∀ k, u.ownBlock = some k → wr.heap[k]? = w4.heap[k]? ∧ k < wr.heap.size ∧ va.ownBlock ≠ some k
  below : Below w.heap.size w wr
theorem MI.store {w w4 wr : World} {keep : List Value} {g n cap : Nat} {ys : List ByteArray} (h : MI w w4 wr keep (.slice (some ⟨g, 0, none⟩) n cap) ys) (j : Nat) (x : ByteArray) : MI w w4 (wr.setCell ⟨g, j, none⟩ (strE x)) keep (.slice (some ⟨g, 0, none⟩) n cap) (ys.set j x) := by
  have hg := (h.own.lt (k := g) rfl).1
  refine ⟨h.own.store j x, fun u hu k hk => ?_, h.below.setCell hg _⟩
  obtain ⟨h1, h2, h3⟩ := h.kept u hu k hk
  have hne : k ≠ g := fun e => h3 (by rw [e]; rfl)
  refine ⟨by rw [Below.heap_setCell _ _ _ _ hne]; exact h1, by simpa [World.setCell] using h2, h3⟩
theorem MI.push {w w4 wr w' : World} {keep : List Value} {va v' : Value} {ys zs : List ByteArray} (h : MI w w4 wr keep va ys) (ho : Own w' w.heap.size 9 strE v' zs) (hb : Below w.heap.size wr w') (ha : Apart wr w' va v') : MI w w4 w' keep v' zs := by
  refine ⟨ho, fun u hu k hk => ?_, h.below.trans hb⟩
  obtain ⟨h1, h2, h3⟩ := h.kept u hu k hk
  obtain ⟨h4, h5⟩ := ha k h2 h3
  exact ⟨h5.trans h1, Nat.lt_of_lt_of_le h2 hb.size, h4⟩
theorem MI.drawn {w w4 wr w' : World} {keep : List Value} {va : Value} {ys : List ByteArray} (h : MI w w4 wr keep va ys) (hd : Drawn wr w') : MI w w4 w' keep va ys :=
  ⟨h.own.below' (hd.below _), fun u hu k hk => by
    obtain ⟨h1, h2, h3⟩ := h.kept u hu k hk
    exact ⟨by rw [hd.heap]; exact h1, by rw [hd.heap]; exact h2, h3⟩, h.below.trans (hd.below _)⟩
/-- a row that was kept, read behind -/
theorem MI.rd {w w4 wr : World} {keep : List Value} {va u : Value} {ys xs : List ByteArray} {B : Nat} (h : MI w w4 wr keep va ys) (hu : u ∈ keep) (ho : Own w4 B 9 strE u xs) : Rd wr strE u xs :=
  (ho.stay fun k hk => (h.kept u hu k hk).1).rd'
theorem MI.start {w w4 : World} {keep : List Value} {va : Value} {ys : List ByteArray} (ho : Own w4 w.heap.size 9 strE va ys) (hb : Below w.heap.size w w4) (hk : ∀ u ∈ keep, ∀ k, u.ownBlock = some k → k < w4.heap.size ∧ va.ownBlock ≠ some k) : MI w w4 w4 keep va ys :=
  ⟨ho, fun u hu k h => ⟨rfl, hk u hu k h⟩, hb⟩
/-- two rows, one made behind the other -/
theorem rows_apart {w1 w2 : World} {B1 B2 : Nat} {u v : Value} {xs ys : List ByteArray} (h1 : Own w1 B1 9 strE u xs) (h2 : Own w2 B2 9 strE v ys) (hB : w1.heap.size ≤ B2) : ∀ k, v.ownBlock = some k → u.ownBlock ≠ some k := fun k hk e => by
  have := (h1.lt e).2
  have := (h2.lt hk).1
  omega
end Go.Proofs.YthhggganhegfhaaDoor
