/-
  The walks of Join on both sides: every list of texts that is not too great.
-/
import Derived.Test.YthhggganhegfhaaShelf
import Derived.Test.YthhggganhegfhaaCopySame
import Derived.Test.YthhggganhegfhaaOpenTexts
import Derived.Test.YthhggganhegfhaaPieces
namespace Go.Proofs.Ythhggganhegfhaa
open Go.RowKit
set_option linter.unusedVariables false

/-- how much a list of texts holds -/
def tbulk : List ByteArray → Nat
  | [] => 0
  | x :: xs => (x.size + 1) + tbulk xs
theorem tbulk_len : ∀ xs : List ByteArray, xs.length ≤ tbulk xs
  | [] => Nat.le_refl _
  | x :: xs => by have := tbulk_len xs; simp only [tbulk, List.length_cons]; omega
/-- the texts with strokes between -/
def joinL (xs : List ByteArray) : List UInt8 := Lib.join (xs.map (·.data.toList)) [47]
def joinB (xs : List ByteArray) : ByteArray := txt (joinL xs)
theorem joinTail_bulk : ∀ xs : List ByteArray, (Lib.joinTail [47] (xs.map (·.data.toList))).length = tbulk xs
  | [] => rfl
  | x :: xs => by
    have ih := joinTail_bulk xs
    have hx : x.data.toList.length = x.size := Array.length_toList
    simp only [Lib.joinTail, List.map_cons, List.flatten_cons, List.length_append, tbulk] at ih ⊢
    rw [ih, hx]
    simp
    omega
theorem joinL_len (xs : List ByteArray) : (joinL xs).length ≤ tbulk xs := by
  cases xs with
  | nil => exact Nat.le_refl _
  | cons x xs =>
    have hx : x.data.toList.length = x.size := Array.length_toList
    unfold joinL
    rw [List.map_cons, Lib.join_cons, List.length_append, joinTail_bulk, hx]
    simp only [tbulk]
    omega
theorem joinL_snoc (xs : List ByteArray) (x : ByteArray) (h : xs ≠ []) : joinL (xs ++ [x]) = joinL xs ++ 47 :: x.data.toList := by
  cases xs with
  | nil => exact absurd rfl h
  | cons y ys =>
    unfold joinL
    rw [List.cons_append, List.map_cons, List.map_cons, Lib.join_cons, Lib.join_cons, List.map_append]
    simp [Lib.joinTail]
theorem joinL_one (x : ByteArray) : joinL [x] = x.data.toList := by
  unfold joinL; rw [List.map_cons, List.map_nil, Lib.join_one]

theorem join_calls (v : Value) (xs : List ByteArray) (w : World) (h : Rd w strE v xs) (hk : tbulk xs ≤ 4194304) :
    Calls Try.prog 11 #[v] w fun e w' => e = .returned (.string (joinB xs)) ∧ Below w.heap.size w w' := by
  have hl := tbulk_len xs
  have hj := joinL_len xs
  have HJ : Hid (Calls Try.prog 18 #[v, .string ⟨#[47]⟩] w fun e w' => e = .returned (.string (joinB xs)) ∧ Below w.heap.size w w') := Lib.hid (by
    rcases h.cases with ⟨rfl, ao, c, rfl⟩ | ⟨hp, b, o, c, rfl, h1, h2, hc⟩
    · exact (Try.strings_Join_none ao c ⟨#[47]⟩ w).mono fun e w' ⟨he, hw⟩ => ⟨he, by rw [hw]; exact Below.refl _ _⟩
    · have hlt : b < w.heap.size := lt_of_cell (hc 0 hp)
      exact Try.strings_Join b o c xs ⟨#[47]⟩ w (fun j x hx => by
        obtain ⟨hj', e⟩ := List.getElem?_eq_some_iff.1 hx
        rw [← e]
        exact hc j hj') hlt (by omega) h1 (by
          have : (Lib.join (xs.map (·.data.toList)) [47]).length ≤ tbulk xs := hj
          show (Lib.join (xs.map (·.data.toList)) [47]).length ≤ _
          omega))
  obtain ⟨ao, c, rfl⟩ := h.any
  clear h hl hj
  generalize joinB xs = J at *
  go_enter Try.func11, Try.ntmps11
  go_wp2_with fail
  refine HJ.out.mono ?_
  rintro e w1 ⟨rfl, hb⟩
  go_wp2
  go_ret
  exact ⟨rfl, hb⟩

theorem bytes_ext {a b : ByteArray} (h : a.data.toList = b.data.toList) : a = b := by
  rw [← txt_data a, h, txt_data]
theorem joinB_first (x : ByteArray) : (⟨#[]⟩ : ByteArray) ++ x = joinB [x] := bytes_ext (by
  unfold joinB
  rw [ByteArray.data_append, Array.toList_append, data_txt, joinL_one]; rfl)
theorem joinB_snoc (xs : List ByteArray) (x : ByteArray) (h : xs ≠ []) : (joinB xs ++ ⟨#[47]⟩) ++ x = joinB (xs ++ [x]) := bytes_ext (by
  unfold joinB
  rw [ByteArray.data_append, Array.toList_append, ByteArray.data_append, Array.toList_append, data_txt, data_txt, joinL_snoc xs x h]
  simp)

set_option maxHeartbeats 2000000 in
theorem refJoin_calls (v : Value) (xs : List ByteArray) (w : World) (h : Rd w strE v xs) (hk : tbulk xs ≤ 4194304) :
    Calls Try.prog 12 #[v] w fun e w' => e = .returned (.string (joinB xs)) ∧ w' = w := by
  have hl := tbulk_len xs
  rcases h.shape ByteArray.empty with ⟨rfl, ao, c, rfl⟩ | ⟨hp, b1, o1, c1, rfl, _, _, hc1⟩
  · clear h
    go_enter Try.func12, Try.ntmps12
    go_wp2
    go_loopg [3, 4] 0 (fun _ s3 s4 wr => s3 = .string ⟨#[]⟩ ∧ s4 = .int .i64 0 ∧ wr = w)
    case atStart => exact ⟨rfl, rfl, rfl⟩
    case round =>
      obtain ⟨rfl, rfl, rfl⟩ := hrel
      go_wp2
      go_ret
      exact ⟨rfl, rfl⟩
  · have HC := Lib.hid hc1
    have hlen : ∀ k, (joinB (xs.take k)).size ≤ 4194304 := fun k => by
      have h1 := joinL_len (xs.take k)
      have h2 : ∀ (l : List ByteArray) (k : Nat), tbulk (l.take k) ≤ tbulk l := fun l => by
        induction l with
        | nil => intro k; simp [tbulk]
        | cons x l ih =>
          intro k
          cases k with
          | zero => simp [tbulk]
          | succ k => have := ih k; simp only [List.take_succ_cons, tbulk]; omega
      have h3 := h2 xs k
      have h4 : (joinB (xs.take k)).size = (joinL (xs.take k)).length := by
        show (joinL (xs.take k)).toArray.size = _
        simp
      omega
    have HL := Lib.hid hlen
    have ST := Lib.hid (show ∀ k, k < xs.length → (if k = 0 then (⟨#[]⟩ : ByteArray) else joinB (xs.take k) ++ ⟨#[47]⟩) ++ xs.getD k ByteArray.empty = joinB (xs.take (k + 1)) from fun k hk => by
      have e : xs.take (k + 1) = xs.take k ++ [xs.getD k ByteArray.empty] := by
        rw [List.take_succ_eq_append_getElem hk]
        simp [List.getD, List.getElem?_eq_getElem hk]
      by_cases h0 : k = 0
      · subst h0
        rw [if_pos rfl, e]
        exact joinB_first _
      · rw [if_neg h0, e]
        exact joinB_snoc _ _ (by intro e2; have := congrArg List.length e2; simp at this; rcases this with h | h; exact h0 h; subst h; simp at hk))
    have FULL := Lib.hid (show joinB (xs.take xs.length) = joinB xs by rw [List.take_length])
    generalize joinB xs = J at *
    obtain ⟨n, hn⟩ : ∃ n, n = xs.length := ⟨_, rfl⟩
    rw [← hn] at FULL ST HC hl hp ⊢
    clear h hc1 hlen hn
    go_enter Try.func12, Try.ntmps12
    go_wp2
    go_loopg [3, 4] n (fun g s3 s4 wr => ∃ k : Nat, s3 = .string (joinB (xs.take k)) ∧ s4 = .int .i64 k ∧ k ≤ n ∧ n - k ≤ g ∧ wr = w)
    case atStart => exact ⟨0, rfl, rfl, Nat.zero_le _, by omega, rfl⟩
    case round =>
      obtain ⟨k, rfl, rfl, hkn, hg, rfl⟩ := hrel
      by_cases hlt : k < n
      · have g1 := HC.out k hlt
        have st := ST.out k hlt
        have z1 := HL.out k
        have z2 := HL.out (k + 1)
        generalize xs.getD k ByteArray.empty = x at g1 st
        by_cases h0 : k = 0
        · subst h0
          rw [if_pos rfl] at st
          have hs : (joinB (List.take 0 xs)) = ⟨#[]⟩ := rfl
          have zz : x.size ≤ 4194304 := by
            have e := congrArg ByteArray.size st
            rw [ByteArray.size_append] at e
            omega
          have zn : ¬ (9223372036854775807 < x.size) := by omega
          have hs0 : joinB [] = ⟨#[]⟩ := rfl
          have hs1 : (joinB []).size = 0 := rfl
          have zn1 : ¬ (9223372036854775807 < (joinB []).size + x.size) := by omega
          have SS := Lib.hid st
          clear st
          simp only [Nat.add_zero] at g1
          go_wp2
          go_roundg (n - 1)
          case measure => omega
          case rel => exact ⟨1, by rw [← SS.out], by go_num, by omega, Nat.le_refl _, rfl⟩
        · rw [if_neg h0] at st
          have h0' : 0 < k := by omega
          have zz : (joinB (xs.take k)).size + 1 + x.size ≤ 4194304 := by
            have e := congrArg ByteArray.size st
            rw [ByteArray.size_append, ByteArray.size_append] at e
            have : (⟨#[47]⟩ : ByteArray).size = 1 := rfl
            omega
          have zn : ¬ (9223372036854775807 < (joinB (xs.take k)).size + 1 + x.size) := by omega
          have SS := Lib.hid st
          clear st
          go_wp2
          go_roundg (n - (k + 1))
          case measure => omega
          case rel => exact ⟨k + 1, by rw [← SS.out], by go_num, by omega, Nat.le_refl _, rfl⟩
      · obtain rfl : k = n := by omega
        rw [FULL.out]
        go_wp2
        go_ret
        exact ⟨rfl, rfl⟩
end Go.Proofs.Ythhggganhegfhaa
