/-
  The document's pieces: 257 cells each, kept whole; the laws of the walk for them.
-/
import Derived.Test.YtejeepmcoafdcaaBitset
import Derived.Test.YtejeepmcoafdcaaMany
import Derived.Laws.Tables
import Derived.Laws.Rows
import Derived.Great.Walk
import Derived.Great.CaseRows
namespace Go.Proofs.Ytejeepmcoafdcaa
open Go.RowKit
set_option linter.unusedVariables false

/-- a piece's cells: its kind, and which bytes it takes -/
def pieceL (k : Int) (f : Nat → Bool) : List Value := .int .i64 k :: (List.range 256).map fun b => .bool (f b)
def pieceA (k : Int) (f : Nat → Bool) : Array Value := (pieceL k f).toArray
def noBytes : Nat → Bool := fun _ => false
theorem pieceL_len (k : Int) (f : Nat → Bool) : (pieceL k f).length = 257 := by simp [pieceL]
theorem pieceA_size (k : Int) (f : Nat → Bool) : (pieceA k f).size = 257 := by simp [pieceA, pieceL]
theorem pieceA_zero (k : Int) (f : Nat → Bool) : (pieceA k f)[0]? = some (.int .i64 k) := by simp [pieceA, pieceL]
theorem pieceA_get (k : Int) (f : Nat → Bool) (b : Nat) (h : b < 256) : (pieceA k f)[1 + b]? = some (.bool (f b)) := by
  simp [pieceA, pieceL, Nat.add_comm 1 b, h]
theorem pieceA_ext {k k' : Int} {f g : Nat → Bool} (hk : k = k') (h : ∀ b, b < 256 → f b = g b) : pieceA k f = pieceA k' g := by
  subst hk
  unfold pieceA pieceL
  congr 2
  refine List.map_congr_left fun b hb => ?_
  rw [h b (List.mem_range.1 hb)]
theorem pieceA_set (k : Int) (f : Nat → Bool) (b : Nat) (x : Bool) (h : b < 256) : (pieceA k f).setIfInBounds (1 + b) (.bool x) = pieceA k (fun y => if y = b then x else f y) := by
  apply Array.ext_getElem?
  intro i
  rw [Array.getElem?_setIfInBounds]
  by_cases hi : 1 + b = i
  · subst hi
    rw [if_pos rfl, if_pos (by rw [pieceA_size]; omega), pieceA_get _ _ _ h]; simp
  · rw [if_neg hi]
    cases i with
    | zero => rw [pieceA_zero, pieceA_zero]
    | succ i =>
      by_cases h2 : i < 256
      · rw [Nat.add_comm i 1, pieceA_get _ _ _ h2, pieceA_get _ _ _ h2, if_neg (by omega)]
      · rw [Array.getElem?_eq_none (by rw [pieceA_size]; omega), Array.getElem?_eq_none (by rw [pieceA_size]; omega)]
theorem pieceA_kind (k x : Int) (f : Nat → Bool) : (pieceA k f).setIfInBounds 0 (.int .i64 x) = pieceA x f := by simp [pieceA, pieceL]
theorem pieceL_one (k : Int) (f : Nat → Bool) : ∀ u ∈ pieceL k f, u.oneCell' = true := by
  intro u hu
  simp only [pieceL, List.mem_cons, List.mem_map] at hu
  rcases hu with rfl | ⟨b, _, rfl⟩ <;> rfl
theorem pieceA_one (k : Int) (f : Nat → Bool) : (pieceA k f).all (·.oneCell') = true :=
  Array.all_eq_true_iff_forall_mem.2 fun v hv => pieceL_one k f v (by simpa [pieceA] using hv)
theorem Try.info76 : (Try.prog.info? 76).map (fun i => (i.zero, i.size, i.bytes)) = some (some (.agg (pieceA 0 noBytes)), 257, 264) := by kernel_rfl
theorem piece_size : (Try.prog.info? 76).map (·.size) = some 257 := by kernel_rfl
theorem piece_built : Try.prog.built 76 [(0, .int .i64 1)] = some (pieceA 1 noBytes) := by kernel_rfl
attribute [irreducible] pieceA pieceL

section
variable {ops : Array Oper} {rest : List Oper} {o : Oper} {a : Act} {w : World} {Q : Exit → Act → World → Prop}
theorem wpList_newP (hg : o.guard = none) (ho : o.op = .alloc 76)
    (h : wpList Try.prog ops Q rest (a.put o.dst (.pointer (some ⟨w.heap.size, 0, none⟩))) (w.alloc (.cells (pieceA 0 noBytes) 76))) : wpList Try.prog ops Q (o :: rest) a w := by
  refine Great.wpList_allocTo hg o.dst rfl _ _ ?_ h
  have hz : (Try.prog.info? 76).map (·.zero) = some (some (.agg (pieceA 0 noBytes))) := by
    have := Try.info76
    cases hq : Try.prog.info? 76 with
    | none => rw [hq] at this; simp at this
    | some i => rw [hq] at this; simp at this; simp [this.1]
  cases hq : Try.prog.info? 76 with
  | none => rw [hq] at hz; simp at hz
  | some i =>
    rw [hq] at hz
    simp at hz
    simp [execOp, ho, Instr.alloc, zeroValue, typeInfo, hq, hz, go_sem]
theorem wpList_buildP (hg : o.guard = none) (ho : o.op = .build 76 #[(0, .const (.int .i64 1))])
    (h : wpList Try.prog ops Q rest (a.put o.dst (.agg (pieceA 1 noBytes))) w) : wpList Try.prog ops Q (o :: rest) a w := by
  have e : (#[(0, Operand.const (.int .i64 1))].map fun (x : Nat × Operand) => (x.1, a.eval x.2)).toList = [(0, .int .i64 1)] := by simp [Act.eval]
  refine wpList_build hg _ _ ho ?_ ?_
  · show (Try.prog.built _ (#[(0, Operand.const (.int .i64 1))].map fun (x : Nat × Operand) => (x.1, a.eval x.2)).toList).isSome = true
    rw [e, piece_built]; rfl
  · show wpList Try.prog ops Q rest (a.put o.dst (.agg ((Try.prog.built _ (#[(0, Operand.const (.int .i64 1))].map fun (x : Nat × Operand) => (x.1, a.eval x.2)).toList).getD #[]))) w
    rw [e, piece_built]; exact h
theorem wpList_loadP (hg : o.guard = none) (x : Operand) (ho : o.op = .load 76 x) (g : Nat) (hx : a.eval x = .pointer (some ⟨g, 0, none⟩)) (k : Int) (f : Nat → Bool) (hB : Blk w g (pieceA k f) 76)
    (h : wpList Try.prog ops Q rest (a.put o.dst (.agg (pieceA k f))) w) : wpList Try.prog ops Q (o :: rest) a w :=
  wpList_load_row hg _ x ho g hx _ _ _ _ hB Try.underlying76 rfl (by rw [piece_size, pieceA_size]) h
theorem wpList_storeP (hg : o.guard = none) (x y : Operand) (ho : o.op = .store 76 x y) (g : Nat) (hx : a.eval x = .pointer (some ⟨g, 0, none⟩)) (k k0 : Int) (f f0 : Nat → Bool) (hy : a.eval y = .agg (pieceA k f)) (hB : Blk w g (pieceA k0 f0) 76)
    (h : ∀ w', Blk w' g (pieceA k f) 76 → Only g w w' → wpList Try.prog ops Q rest (a.put o.dst undef) w') : wpList Try.prog ops Q (o :: rest) a w := by
  refine wpList_store_row hg _ x y ho g (pieceA k f) hx hy _ _ hB (by rw [piece_size, pieceA_size]) (by rw [pieceA_size, pieceA_size]) (pieceA_one k f) (h _ ?_ ?_)
  · have hB' := hB
    unfold Blk at hB' ⊢
    simp [World.setRow, Array.getElem?_modify, hB']
  · exact ⟨rfl, rfl, rfl, by simp [World.setRow], fun i hi hn => by simp [World.setRow, Array.getElem?_modify]; intro h; exact absurd h.symm hn⟩
theorem wpList_litP (hg : o.guard = none) (tm : Nat) (ho : o.op = .buildSlice 64 1 #[(0, .tmp tm)]) (k : Int) (f : Nat → Bool) (hx : a.eval (.tmp tm) = .agg (pieceA k f))
    (h : wpList Try.prog ops Q rest (a.put o.dst (.slice (some ⟨w.heap.size, 0, none⟩) 1 1)) (w.alloc (.cells (pieceA k f) 76))) : wpList Try.prog ops Q (o :: rest) a w := by
  have hz : ((Try.prog.info? 76).bind (·.zero)).isSome = true := by kernel_rfl
  refine Great.wpList_buildRows hg _ _ #[(0, .tmp tm)] 257 [.agg (pieceA k f)] ho (fun _ => tm) w.heap.size rfl o.dst rfl Try.underlying64 piece_size hz (by omega) (by simp) (by simp) (by simp) ?_ ?_ ?_
  · intro v hv
    simp only [List.mem_singleton] at hv
    subst hv
    exact pieceA_size k f
  · intro i hi
    simp only [List.length_singleton] at hi
    have : i = 0 := by omega
    subst this
    exact hx
  · have e : ([Value.agg (pieceA k f)].flatMap fun v => v.cells.toList).toArray = pieceA k f := by simp [Value.cells]
    rw [e]; exact h
theorem wpList_noneP (hg : o.guard = none) (ho : o.op = .buildSlice 64 0 #[])
    (h : wpList Try.prog ops Q rest (a.put o.dst (.slice (some ⟨w.heap.size, 0, none⟩) 0 0)) (w.alloc (.cells #[] 76))) : wpList Try.prog ops Q (o :: rest) a w := by
  refine Great.wpList_allocTo hg o.dst rfl _ _ ?_ h
  have hz := Try.info76
  cases hq : Try.prog.info? 76 with
  | none => rw [hq] at hz; simp at hz
  | some i =>
    rw [hq] at hz
    simp at hz
    simp [execOp, ho, Instr.buildSlice, run_underlying Try.underlying64, sizeOf, typeInfo, hq, go_sem]
end
end Go.Proofs.Ytejeepmcoafdcaa
