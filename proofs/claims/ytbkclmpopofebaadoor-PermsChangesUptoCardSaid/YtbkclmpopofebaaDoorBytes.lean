/-
  Plain: a block of bytes as an array of values; no program in sight.
-/
import Derived.WalkKit
import Derived.WideShapes
namespace Go.Proofs.YtbkclmpopofebaaDoor
open Go.RowKit

/-- a block's cells that hold these bytes -/
def bytesArr (l : List UInt8) : Array Value := (l.map fun b => Value.int .u8 (b.toNat : Int)).toArray
theorem bytesArr_size (l : List UInt8) : (bytesArr l).size = l.length := by simp [bytesArr]
theorem bytesArr_get (l : List UInt8) (i : Nat) (h : i < l.length) : (bytesArr l)[i]? = some (.int .u8 ((l[i]).toNat : Int)) := by
  simp [bytesArr, List.getElem?_eq_getElem h]
theorem bytesArr_getD (l : List UInt8) (i : Nat) (h : i < l.length) : (bytesArr l)[i]? = some (.int .u8 ((l.getD i 0).toNat : Int)) := by
  rw [bytesArr_get l i h]; simp [List.getD, List.getElem?_eq_getElem h]
theorem bytesArr_set (l : List UInt8) (i : Nat) (b : UInt8) : (bytesArr l).setIfInBounds i (.int .u8 (b.toNat : Int)) = bytesArr (l.set i b) := by
  simp [bytesArr, List.map_set]
theorem bytesArr_set_get (l : List UInt8) (i : Nat) (b : UInt8) (h : i < l.length) : ((bytesArr l).setIfInBounds i (.int .u8 (b.toNat : Int)))[i]? = some (.int .u8 (b.toNat : Int)) := by
  rw [bytesArr_set, bytesArr_get _ _ (by simpa using h)]; simp

/-- 'string(b)' of a block that holds these bytes, whole -/
theorem conv_block {P : Program} (w : World) (T src dst e : TypeId) (l : List UInt8) (n cap : Nat) (hn : l.length = n) (hs : P.underlying src = some (.slice e)) (he : P.underlying e = some (.int .u8)) (hd : P.underlying dst = some .string) :
    (convert src dst (.slice (some ⟨w.heap.size, 0, none⟩) n cap)).run P (w.alloc (.cells (bytesArr l) T)) = .ok (.string ⟨l.toArray⟩) (w.alloc (.cells (bytesArr l) T)) := by
  subst hn
  refine run_convert_bytes_back _ src dst e ⟨w.heap.size, 0, none⟩ cap l hs he hd (fun j hj => ?_)
  rw [WideShapes.add_plain, World.cell?_alloc_at _ _ _ _ rfl, Nat.zero_add, bytesArr_get l j hj]
end Go.Proofs.YtbkclmpopofebaaDoor
