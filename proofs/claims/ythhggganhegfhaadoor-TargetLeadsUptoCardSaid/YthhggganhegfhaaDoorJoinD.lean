/-
  The walks of Join on both sides: every list of texts that is not too great.
-/
import Derived.Test.YthhggganhegfhaaDoorShelf
import Derived.Test.YthhggganhegfhaaDoorRouteAlive
namespace Go.Proofs.YthhggganhegfhaaDoor
open Go.RowKit
set_option linter.unusedVariables false

/-- the texts with strokes between -/
def joinL (xs : List ByteArray) : List UInt8 := Lib.join (xs.map (·.data.toList)) [47]
def joinB (xs : List ByteArray) : ByteArray := txt (joinL xs)
theorem joinTail_bulk : ∀ xs : List ByteArray, (Lib.joinTail [47] (xs.map (·.data.toList))).length = tbulk xs
  | [] => rfl
  | x :: xs => by
    have ih := joinTail_bulk xs
    have hx : x.data.toList.length = x.size := Array.length_toList
    simp only [Lib.joinTail, List.map_cons, List.flatten_cons, List.length_append, tbulk] at ih ⊢
    rw [ih, hx]
    simp
    omega
theorem joinL_len (xs : List ByteArray) : (joinL xs).length ≤ tbulk xs := by
  cases xs with
  | nil => exact Nat.le_refl _
  | cons x xs =>
    have hx : x.data.toList.length = x.size := Array.length_toList
    unfold joinL
    rw [List.map_cons, Lib.join_cons, List.length_append, joinTail_bulk, hx]
    simp only [tbulk]
    omega
theorem joinL_snoc (xs : List ByteArray) (x : ByteArray) (h : xs ≠ []) : joinL (xs ++ [x]) = joinL xs ++ 47 :: x.data.toList := by
  cases xs with
  | nil => exact absurd rfl h
  | cons y ys =>
    unfold joinL
    rw [List.cons_append, List.map_cons, List.map_cons, Lib.join_cons, Lib.join_cons, List.map_append]
    simp [Lib.joinTail]
theorem joinL_one (x : ByteArray) : joinL [x] = x.data.toList := by
  unfold joinL; rw [List.map_cons, List.map_nil, Lib.join_one]

theorem join_calls (v : Value) (xs : List ByteArray) (w : World) (h : Rd w strE v xs) (hk : tbulk xs ≤ 4194304) :
    Calls Tryd.prog 27 #[v] w fun e w' => e = .returned (.string (joinB xs)) ∧ Below w.heap.size w w' := by
  have hl := tbulk_len xs
  have hj := joinL_len xs
  have HJ : Hid (Calls Tryd.prog 37 #[v, .string ⟨#[47]⟩] w fun e w' => e = .returned (.string (joinB xs)) ∧ Below w.heap.size w w') := Lib.hid (by
    rcases h.cases with ⟨rfl, ao, c, rfl⟩ | ⟨hp, b, o, c, rfl, h1, h2, hc⟩
    · exact (Tryd.strings_Join_none ao c ⟨#[47]⟩ w).mono fun e w' ⟨he, hw⟩ => ⟨he, by rw [hw]; exact Below.refl _ _⟩
    · have hlt : b < w.heap.size := lt_of_cell (hc 0 hp)
      exact Tryd.strings_Join b o c xs ⟨#[47]⟩ w (fun j x hx => by
        obtain ⟨hj', e⟩ := List.getElem?_eq_some_iff.1 hx
        rw [← e]
        exact hc j hj') hlt (by omega) h1 (by
          have : (Lib.join (xs.map (·.data.toList)) [47]).length ≤ tbulk xs := hj
          show (Lib.join (xs.map (·.data.toList)) [47]).length ≤ _
          omega))
  obtain ⟨ao, c, rfl⟩ := h.any
  clear h hl hj
  generalize joinB xs = J at *
  go_enter Tryd.func27, Tryd.ntmps27
  go_wp2_with fail
  refine HJ.out.mono ?_
  rintro e w1 ⟨rfl, hb⟩
  go_wp2
  go_ret
  exact ⟨rfl, hb⟩

theorem bytes_extJ {a b : ByteArray} (h : a.data.toList = b.data.toList) : a = b := by
  rw [← txt_data a, h, txt_data]
theorem joinB_first (x : ByteArray) : (⟨#[]⟩ : ByteArray) ++ x = joinB [x] := bytes_extJ (by
  unfold joinB
  rw [ByteArray.data_append, Array.toList_append, data_txt, joinL_one]; rfl)
theorem joinB_snoc (xs : List ByteArray) (x : ByteArray) (h : xs ≠ []) : (joinB xs ++ ⟨#[47]⟩) ++ x = joinB (xs ++ [x]) := bytes_extJ (by
  unfold joinB
  rw [ByteArray.data_append, Array.toList_append, ByteArray.data_append, Array.toList_append, data_txt, data_txt, joinL_snoc xs x h]
  simp)

end Go.Proofs.YthhggganhegfhaaDoor
