/-
  What the door's laws of links share: the bulk of what is read, a pair of numbers opened, a world that holds the two tables, and the first line of each law.
-/
import Derived.Test.YthhggganhegfhaaDoorCards
import Derived.Test.YthhggganhegfhaaDoorTie
import Derived.Test.YthhggganhegfhaaDoorRefSym
import Derived.Test.YthhggganhegfhaaDoorOpenTexts
import Derived.OpenShut
namespace Go.Proofs.YthhggganhegfhaaDoor
open Go.ChangeShapes Go.WideShapes Go.ChangeAt Go.RowKit
set_option linter.unusedVariables false

/-- how much a list of texts holds -/
def tbulk : List ByteArray → Nat
  | [] => 0
  | x :: xs => (x.size + 1) + tbulk xs
theorem tbulk_strs {H : Type} : ∀ xs : List ByteArray, tbulk xs ≤ Rows.uptoBulkAll (strs xs : List (DataW H))
  | [] => Nat.zero_le _
  | x :: xs => by
    have := tbulk_strs (H := H) xs
    have e : Rows.uptoBulk (DataW.lit (.string x.data.toList) : DataW H) = x.size + 1 := by simp [Rows.uptoBulk]
    simp only [strs, List.map_cons, Rows.uptoBulkAll, tbulk] at this ⊢
    omega
theorem tbulk_le {H : Type} {d : DataW H} {xs : List ByteArray} (h : TextsD d xs) : tbulk xs ≤ Rows.uptoBulk d := by
  rcases h with ⟨rfl, rfl⟩ | ⟨sp, rfl⟩
  · simp [tbulk]
  · have := tbulk_strs (H := H) xs
    simp only [Rows.uptoBulk]
    omega
theorem tbulk_len : ∀ xs : List ByteArray, xs.length ≤ tbulk xs
  | [] => Nat.le_refl _
  | x :: xs => by have := tbulk_len xs; simp only [tbulk, List.length_cons]; omega

theorem okWide_array {P : Program} {w : World} {r : Reach} {base n : Nat} {t e : TypeId} {v : Value} (ht : P.underlying t = some (.array n e)) (h : Value.okWide P w r base t v) : ∃ cs, v = .agg cs ∧ cs.size = P.cellsOf t := by
  cases v <;> simp_all [Value.okWide]
theorem open_pair {H : Type} {enc : TypeId × Value → H} {W : World} {base : Nat} {v : Value} {d : DataW H} {p : List MemPlace}
    (hv : Value.okWide Tryd.prog W .any base 23 v) (h : DataW.Trod enc Tryd.prog W 0 (fun _ => true) true 23 v d p) : ∃ a b : Int, v = .agg #[.int .i64 a, .int .i64 b] := by
  obtain ⟨cs, rfl, hsz⟩ := okWide_array Tryd.underlying23 hv
  have hC : Tryd.prog.cellsOf 23 = 2 := by kernel_rfl
  have hI : Tryd.prog.cellsOf 3 = 1 := by kernel_rfl
  rw [hC] at hsz
  obtain ⟨fuel, hf⟩ := h
  obtain ⟨xs, n, _, hx, _, hlen, hg⟩ := DataW.trod_array Tryd.underlying23 hf
  obtain ⟨l⟩ := cs
  match l, hsz with
  | [c0, c1], _ =>
    match xs, hlen with
    | [x0, x1], _ =>
      have g0 := hg 0 (by omega)
      have g1 := hg 1 (by omega)
      obtain ⟨n0, e0, _⟩ := DataW.trod_int Tryd.underlying3 g0
      obtain ⟨n1, e1, _⟩ := DataW.trod_int Tryd.underlying3 g1
      simp [hI, Value.cells] at e0 e1
      subst e0 e1
      exact ⟨n0, n1, rfl⟩

def rangeCells : List Nat := [128, 191, 160, 191, 128, 159, 144, 191, 128, 143, 0, 0, 0, 0, 0, 0, 0, 0, 0, 0, 0, 0, 0, 0, 0, 0, 0, 0, 0, 0, 0, 0]
def layCells (l : List Nat) (o : Obj) : Obj := match o with
  | .cells _ t frozen => .cells (l.map fun n : Nat => Value.int .u8 (n : Int)).toArray t frozen
  | o => o
noncomputable def laidWorld (os : Os) : World :=
  { World.holding Tryd.prog os ⟨#[], #[], []⟩ with heap := ((World.holding Tryd.prog os ⟨#[], #[], []⟩).heap.modify 2 (layCells rangeCells)).modify 1 (layCells Go.Pinned.utf8FirstZ) }
theorem laid_met (os : Os) (args : Array Value) : laidMet Tryd.prog Rows.targetSymsRow.laid ((laidWorld os).forCall (fun _ _ => 0) ⟨#[], args, []⟩).memory :=
  laidMet_of_run' 8 (by kernel_rfl) (by kernel_rfl)
end Go.Proofs.YthhggganhegfhaaDoor
