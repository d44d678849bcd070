/-
  Opening an argument that is a list of texts: what the walk reads, and the reach.
-/
import Derived.Test.YthhggganhegfhaaDoorCopySame
import Derived.SliceStrings
import Derived.SizedLaws
namespace Go.Proofs.YthhggganhegfhaaDoor
open Go.ChangeShapes Go.WideShapes Go.ChangeAt Go.RowKit

theorem Tryd.cells9 : Tryd.prog.cellsOf 9 = 1 := by kernel_rfl
theorem Tryd.bytes9 : Tryd.prog.bytesOf 9 = 16 := by kernel_rfl

/-- how a list of texts reads as a datum -/
def TextsD {H : Type} (d : DataW H) (xs : List ByteArray) : Prop := (d = .nil ∧ xs = []) ∨ ∃ sp, d = .slice (strs xs) sp

theorem open_texts {H : Type} {enc : TypeId × Value → H} {W : World} {base : Nat} {v : Value} {d : DataW H} {p : List MemPlace}
    (hv : Value.okWide Tryd.prog W .any base 22 v) (h : DataW.Trod enc Tryd.prog W 0 (fun _ => true) true 22 v d p) :
    ∃ xs : List ByteArray, Rd W strE v xs ∧ TextsD d xs ∧ ∀ s ∈ xs, s.size ≤ maxLen := by
  obtain ⟨a0, len, cap, rfl⟩ := okWide_slice Tryd.underlying22 hv
  obtain ⟨fuel, hf⟩ := h
  rcases open_strings Tryd.underlying22 Tryd.underlying9 Tryd.cells9 hf with ⟨hcs, hx⟩ | ⟨a, len', cap', ss, hcs, _, hl, hm, hz, hx, hcell, hws⟩
  · simp [Value.cells] at hcs
    obtain ⟨rfl, rfl, rfl⟩ := hcs
    simp only [Prod.mk.injEq] at hx
    exact ⟨[], Rd.nil _ _, Or.inl ⟨hx.1, rfl⟩, fun s hs => by cases hs⟩
  · simp [Value.cells] at hcs
    obtain ⟨rfl, rfl, rfl⟩ := hcs
    simp only [Prod.mk.injEq] at hx
    simp only [if_true] at hz
    have ht : (ss.take len).length = len := by rw [List.length_take, hz]; omega
    refine ⟨ss.take len, ⟨some a, cap, by rw [ht], by rw [ht]; exact hl, hm, (fun h => by cases h), fun hne => ?_⟩, Or.inr ⟨_, hx.1⟩, fun s hs => hws s (List.mem_of_mem_take hs)⟩
    have h0 : 0 < len := by
      cases len with
      | zero => simp at hne
      | succ n => omega
    obtain ⟨b, off, spot⟩ := a
    have hspot : spot = none := by simpa [Addr.add] using World.cell?_spot (hcell 0 (by omega))
    subst hspot
    refine ⟨b, off, rfl, fun i hi => ?_⟩
    rw [ht] at hi
    rw [← add_plain, hcell i (by omega)]
    simp [List.getD, List.getElem?_eq_getElem (show i < ss.length by omega)]

/-- the same off a cell of a struct -/
theorem texts_trod {H : Type} {enc : TypeId × Value → H} {W : World} {fuel : Nat} {cs : List Value} {x : DataW H × List MemPlace}
    (hf : DataW.trod enc Tryd.prog W 0 (fun _ => true) true fuel 22 cs = some x) :
    ∃ (v : Value) (xs : List ByteArray), cs = [v] ∧ Rd W strE v xs ∧ TextsD x.1 xs := by
  rcases open_strings Tryd.underlying22 Tryd.underlying9 Tryd.cells9 hf with ⟨hcs, hx⟩ | ⟨a, len, cap, ss, hcs, _, hl, hm, hz, hx, hcell, hws⟩
  · exact ⟨_, [], hcs, Rd.nil _ _, Or.inl ⟨by rw [hx], rfl⟩⟩
  · simp only [if_true] at hz
    have ht : (ss.take len).length = len := by rw [List.length_take, hz]; omega
    refine ⟨_, ss.take len, hcs, ⟨some a, cap, by rw [ht], by rw [ht]; exact hl, hm, (fun h => by cases h), fun hne => ?_⟩, Or.inr ⟨strs (ss.drop len), by rw [hx]⟩⟩
    have h0 : 0 < len := by
      cases len with
      | zero => simp at hne
      | succ n => omega
    obtain ⟨b, off, spot⟩ := a
    have hspot : spot = none := by simpa [Addr.add] using World.cell?_spot (hcell 0 (by omega))
    subst hspot
    refine ⟨b, off, rfl, fun i hi => ?_⟩
    rw [ht] at hi
    rw [← add_plain, hcell i (by omega)]
    simp [List.getD, List.getElem?_eq_getElem (show i < ss.length by omega)]
theorem texts_bound {H : Type} {ts : List TypeId} {ds : List (DataW H)} (hsz : (DataW.weightsEach Tryd.prog ts ds).all (· ≤ reachBytes) = true) {j : Nat} {d : DataW H} {xs : List ByteArray}
    (ht : ts[j]? = some 22) (hd : ds[j]? = some d) (h : TextsD d xs) : xs.length * 16 ≤ 140737488351232 := by
  rcases h with ⟨rfl, rfl⟩ | ⟨sp, rfl⟩
  · simp
  · have := sized_slice hsz ht hd Tryd.underlying22
    rw [Tryd.bytes9] at this
    simp only [strs, List.length_map, reachBytes] at this
    omega
theorem weightsAll_mem {H : Type} {P : Program} {e : TypeId} : ∀ {ds : List (DataW H)} {d : DataW H}, d ∈ ds → ∀ n ∈ d.weights P e, n ∈ DataW.weightsAll P e ds
  | x :: r, d, hd, n, hn => by
    unfold DataW.weightsAll
    rw [List.mem_append]
    rcases List.mem_cons.1 hd with rfl | hd
    · exact Or.inl hn
    · exact Or.inr (weightsAll_mem hd n hn)
  | [], _, hd, _, _ => by cases hd
/-- each text's bytes are within the reach -/
theorem texts_sizes {H : Type} {ts : List TypeId} {ds : List (DataW H)} (hsz : (DataW.weightsEach Tryd.prog ts ds).all (· ≤ reachBytes) = true) {j : Nat} {d : DataW H} {xs : List ByteArray}
    (ht : ts[j]? = some 22) (hd : ds[j]? = some d) (h : TextsD d xs) : ∀ x ∈ xs, x.size ≤ 140737488351232 := by
  rcases h with ⟨rfl, rfl⟩ | ⟨sp, rfl⟩
  · intro x hx; cases hx
  · intro x hx
    have h1 : (DataW.lit (.string x.data.toList) : DataW H) ∈ strs xs := List.mem_map.2 ⟨x, hx, rfl⟩
    have h2 : x.data.toList.length ∈ (DataW.slice (strs xs) sp : DataW H).weights Tryd.prog 22 := by
      simp only [DataW.weights, Tryd.underlying22, List.mem_cons, List.mem_append]
      exact Or.inr (Or.inl (weightsAll_mem h1 _ (by simp [DataW.weights])))
    have h3 := List.all_eq_true.1 hsz _ (DataW.weights_mem_each ht hd _ h2)
    have h4 : x.data.toList.length ≤ reachBytes := by simpa using h3
    rw [Array.length_toList] at h4
    exact h4
end Go.Proofs.YthhggganhegfhaaDoor
