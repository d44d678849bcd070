/-
  What the laws of the meters share: the reference's meter in memory, a configuration's cells, a list cut short, and the meters' two counts.
-/
import Derived.Test.YtejeepmcoafdcaaBatch
import Derived.Test.YtejeepmcoafdcaaMalive
import Derived.Test.YtejeepmcoafdcaaMany
import Derived.Deep.RegionWith
import Derived.Deep.LoopGhost
import Derived.Deep.CutBlock
import Derived.Deep.DeepCutAuto
namespace Go.Proofs.Ytejeepmcoafdcaa
open Go.ChangeShapes Go.WideShapes Go.ChangeAt Go.RowKit
set_option linter.unusedVariables false

def refCells (mE mB e b : Int) : Array Value := #[.int .i64 e, .int .i64 b, .int .i64 mE, .int .i64 mB]
theorem wrap_small {n : Int} (h0 : 0 ≤ n) (h1 : n < 9223372036854775808) : wrap64 n = n := by unfold wrap64; omega
theorem cells13 {w : World} {N : Nat} {T : TypeId} {a0 a1 a2 a3 a4 a5 a6 a7 a8 a9 a10 a11 a12 : Value} (h : Blk w N #[a0, a1, a2, a3, a4, a5, a6, a7, a8, a9, a10, a11, a12] T) :
    w.cell? ⟨N, 0, none⟩ = some a0 ∧ w.cell? ⟨N, 1, none⟩ = some a1 ∧ w.cell? ⟨N, 2, none⟩ = some a2 ∧ w.cell? ⟨N, 3, none⟩ = some a3 ∧ w.cell? ⟨N, 4, none⟩ = some a4 ∧ w.cell? ⟨N, 5, none⟩ = some a5 ∧ w.cell? ⟨N, 6, none⟩ = some a6 ∧ w.cell? ⟨N, 7, none⟩ = some a7 ∧ w.cell? ⟨N, 8, none⟩ = some a8 ∧ w.cell? ⟨N, 9, none⟩ = some a9 ∧ w.cell? ⟨N, 10, none⟩ = some a10 ∧ w.cell? ⟨N, 11, none⟩ = some a11 ∧ w.cell? ⟨N, 12, none⟩ = some a12 := by
  have := fun i => Blk.cell h i
  exact ⟨this 0, this 1, this 2, this 3, this 4, this 5, this 6, this 7, this 8, this 9, this 10, this 11, this 12⟩

theorem RdP.take {w : World} {ao : Option Addr} {n c : Nat} {xs : List (Int × Int)} (h : RdP w (.slice ao n c) xs) (d : Nat) (hd : d ≤ xs.length) : RdP w (.slice ao d c) (xs.take d) := by
  obtain ⟨ao', c', hv, h1, h2, h3, h4⟩ := h
  cases hv
  have hl : (xs.take d).length = d := by rw [List.length_take]; omega
  refine ⟨ao, c, by rw [hl], by rw [hl]; omega, h2, fun p hp => h3 p (List.mem_of_mem_take hp), fun hne => ?_⟩
  have hp : xs ≠ [] := by intro e; subst e; simp at hne
  obtain ⟨b, o, ha, hcs⟩ := h4 hp
  refine ⟨b, o, ha, fun i hi => ?_⟩
  rw [hl] at hi
  have := hcs i (by omega)
  simpa using this
theorem RdP.cap {w : World} {ao : Option Addr} {n c : Nat} {xs : List (Int × Int)} (h : RdP w (.slice ao n c) xs) : n = xs.length ∧ n ≤ c ∧ c ≤ maxLen := by
  obtain ⟨ao', c', hv, h1, h2, h3, h4⟩ := h
  cases hv
  exact ⟨rfl, h1, h2⟩
/-- a list that was there when the call began is off a meter that the call made -/
theorem RdP.off {w : World} {ao : Option Addr} {n c M : Nat} {xs : List (Int × Int)} (h : RdP w (.slice ao n c) xs) (hM : w.heap.size ≤ M) : 0 < xs.length → ∀ b o, ao = some ⟨b, o, none⟩ → b ≠ M := by
  intro hp b o hb
  obtain ⟨b', o', h1, h2, _⟩ := h.at hp
  rw [hb] at h1
  cases h1
  omega
end Go.Proofs.Ytejeepmcoafdcaa
