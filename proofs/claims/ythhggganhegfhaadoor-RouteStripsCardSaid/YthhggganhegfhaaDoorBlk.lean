/-
  A block of the call's own that is written through a pointer: its cells, a store into it, and what no store into it turns. For any program.
-/
import Derived.Test.YthhggganhegfhaaDoorRd
namespace Go.Proofs.YthhggganhegfhaaDoor
open Go.RowKit

/-- block M holds these cells -/
def Blk (w : World) (M : Nat) (cs : Array Value) (T : TypeId) : Prop := w.heap[M]? = some (.cells cs T)
/-- w' is w but for draws, new blocks and the block M -/
structure Only (M : Nat) (w w' : World) : Prop where
  os : w'.os = w.os
  tape : w'.tape = w.tape
  output : w'.output = w.output
  size : w.heap.size ≤ w'.heap.size
  block : ∀ k, k < w.heap.size → k ≠ M → w'.heap[k]? = w.heap[k]?

section
variable {w w' w'' : World} {M N : Nat} {cs : Array Value} {T : TypeId}
theorem Blk.lt (h : Blk w M cs T) : M < w.heap.size := (Array.getElem?_eq_some_iff.1 h).1
theorem Blk.cell (h : Blk w M cs T) (i : Nat) : w.cell? ⟨M, i, none⟩ = cs[i]? := by
  unfold World.cell?
  unfold Blk at h
  simp [h]
theorem Blk.free (h : Blk w M cs T) (i : Nat) : w.frozen? ⟨M, i, none⟩ = false := by
  unfold World.frozen?
  unfold Blk at h
  simp [h]
theorem Blk.set (h : Blk w M cs T) (i : Nat) (v : Value) : Blk (w.setCell ⟨M, i, none⟩ v) M (cs.setIfInBounds i v) T := by
  unfold Blk at *
  simp [World.setCell, Array.getElem?_modify, h]
theorem Blk.other (h : Blk w M cs T) (a : Addr) (ha : a.block ≠ M) (v : Value) : Blk (w.setCell a v) M cs T := by
  unfold Blk at *
  rw [Below.heap_setCell _ _ _ _ (by omega)]; exact h
theorem Blk.alloc (h : Blk w M cs T) (o : Obj) : Blk (w.alloc o) M cs T := by
  unfold Blk
  rw [Below.heap_alloc _ _ _ h.lt]; exact h
theorem Blk.new (w : World) (cs : Array Value) (T : TypeId) : Blk (w.alloc (.cells cs T)) w.heap.size cs T := by
  unfold Blk
  show (w.heap.push _)[_]? = _
  simp
theorem Blk.drew (h : Blk w M cs T) : Blk w.drew M cs T := h
theorem Blk.drawn (h : Blk w M cs T) (hd : Drawn w w') : Blk w' M cs T := by
  unfold Blk at *
  rw [hd.heap]; exact h
theorem Blk.only (h : Blk w M cs T) (ho : Only N w w') (hn : M ≠ N) : Blk w' M cs T := by
  have := ho.block M h.lt hn
  unfold Blk at *
  rw [this]; exact h
theorem Blk.below {B : Nat} (h : Blk w M cs T) (hb : Below B w w') (hB : M < B) : Blk w' M cs T := by
  have := hb.block M hB
  unfold Blk at *
  rw [this]; exact h
theorem Only.refl (M : Nat) (w : World) : Only M w w := ⟨rfl, rfl, rfl, Nat.le_refl _, fun _ _ _ => rfl⟩
theorem Only.trans (h : Only M w w') (k : Only M w' w'') : Only M w w'' :=
  ⟨k.os.trans h.os, k.tape.trans h.tape, k.output.trans h.output, Nat.le_trans h.size k.size, fun i hi hn => (k.block i (Nat.lt_of_lt_of_le hi h.size) hn).trans (h.block i hi hn)⟩
theorem Only.drew (h : Only M w w') : Only M w w'.drew := ⟨h.os, h.tape, h.output, h.size, h.block⟩
theorem Only.alloc (h : Only M w w') (o : Obj) : Only M w (w'.alloc o) :=
  h.trans ⟨rfl, rfl, rfl, by simp, fun k hk _ => Below.heap_alloc _ _ _ hk⟩
theorem Only.set (h : Only M w w') (i : Nat) (v : Value) : Only M w (w'.setCell ⟨M, i, none⟩ v) :=
  h.trans ⟨rfl, rfl, rfl, by simp [World.setCell], fun k _ hn => Below.heap_setCell _ _ _ _ hn⟩
theorem Only.setNew (h : Only M w w') (hN : w.heap.size ≤ N) (i : Nat) (v : Value) : Only M w (w'.setCell ⟨N, i, none⟩ v) :=
  ⟨h.os, h.tape, h.output, by simpa [World.setCell] using h.size, fun k hk hn => (Below.heap_setCell _ _ _ _ (show k ≠ N by omega)).trans (h.block k hk hn)⟩
theorem Only.transNew {M N : Nat} {w w' w'' : World} (h : Only M w w') (k : Only N w' w'') (hN : w.heap.size ≤ N) : Only M w w'' :=
  ⟨k.os.trans h.os, k.tape.trans h.tape, k.output.trans h.output, Nat.le_trans h.size k.size, fun i hi hn => (k.block i (Nat.lt_of_lt_of_le hi h.size) (by omega)).trans (h.block i hi hn)⟩
theorem Only.drawn (h : Drawn w w') : Only M w w' := by
  obtain ⟨q, rfl⟩ := h
  induction q with
  | zero => exact Only.refl _ _
  | succ q ih => exact ih.drew
theorem Only.below {B : Nat} (h : Only M w w') (hB : B ≤ M) (hw : B ≤ w.heap.size) : Below B w w' :=
  ⟨h.os, h.tape, h.output, h.size, fun k hk => h.block k (by omega) (by omega)⟩
/-- only new blocks -/
theorem Only.of_below (h : Below w.heap.size w w') : Only M w w' := ⟨h.os, h.tape, h.output, h.size, fun k hk _ => h.block k hk⟩
end
end Go.Proofs.YthhggganhegfhaaDoor
