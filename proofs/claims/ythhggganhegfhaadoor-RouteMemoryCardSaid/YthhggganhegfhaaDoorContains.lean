/-
  The walk of slices.Contains at []string: every list, every text.
-/
import Derived.Test.YthhggganhegfhaaDoorCopySame
namespace Go.Proofs.YthhggganhegfhaaDoor
open Go.RowKit

/-- is the text among them? -/
def hasB (p : ByteArray) (xs : List ByteArray) : Bool := xs.any fun x => decide (x = p)

set_option maxHeartbeats 2000000 in
theorem containsS_calls (v : Value) (xs : List ByteArray) (p : ByteArray) (w : World) (h : Rd w strE v xs) :
    Calls Tryd.prog 35 #[v, .string p] w fun e w' => e = .returned (.bool (hasB p xs)) ∧ w' = w := by
  have l1 : xs.length ≤ 9223372036854775807 := h.len
  rcases h.shape ByteArray.empty with ⟨rfl, ao, c, rfl⟩ | ⟨hp, b1, o1, c1, rfl, _, _, hc1⟩
  · clear h
    go_enter Tryd.func35, Tryd.ntmps35
    go_wp2
    go_loopg [8] 0 (fun _ s wr => s = .int .i64 0 ∧ wr = w)
    case atStart => exact ⟨rfl, rfl⟩
    case round =>
      obtain ⟨rfl, rfl⟩ := hrel
      go_wp2
      go_ret
      exact ⟨rfl, rfl⟩
  · have HC := Lib.hid hc1
    clear h hc1 hp
    have HX : Hid (∀ n, n = xs.length → (∀ j, j < n → xs.getD j ByteArray.empty ≠ p) → hasB p xs = false) := Lib.hid fun n hn h => by
      unfold hasB
      refine List.any_eq_false.2 fun x hm e => ?_
      obtain ⟨j, hj, rfl⟩ := List.getElem_of_mem hm
      exact h j (by omega) (by simpa [List.getD, List.getElem?_eq_getElem hj] using e)
    have HY : Hid (∀ j, j < xs.length → xs.getD j ByteArray.empty = p → hasB p xs = true) := Lib.hid fun j hj h => by
      unfold hasB
      exact List.any_eq_true.2 ⟨xs[j], List.getElem_mem hj, by simpa [List.getD, List.getElem?_eq_getElem hj] using h⟩
    obtain ⟨n, hn⟩ : ∃ n, n = xs.length := ⟨_, rfl⟩
    rw [← hn] at l1 ⊢
    have HN := Lib.hid hn
    clear hn
    go_enter Tryd.func35, Tryd.ntmps35
    go_wp2
    go_loopg [8] n (fun g s wr => ∃ k : Nat, k ≤ n ∧ n - k ≤ g ∧ s = .int .i64 k ∧ wr = w ∧ Hid (∀ j, j < k → xs.getD j ByteArray.empty ≠ p))
    case atStart => exact ⟨0, Nat.zero_le _, by omega, rfl, rfl, Lib.hid fun j hj => absurd hj (Nat.not_lt_zero _)⟩
    case round =>
      obtain ⟨k, hk, hg, rfl, rfl, HK⟩ := hrel
      by_cases hlt : k < n
      · have g1 := HC.out k (by have := HN.out; omega)
        generalize hx : xs.getD k ByteArray.empty = x at g1
        have HXK := Lib.hid hx
        clear hx
        by_cases hxy : p = x
        · subst hxy
          have e := HY.out k (by have := HN.out; omega) HXK.out
          go_wp2
          go_ret
          rw [e]
          exact ⟨by first | rfl | simp, rfl⟩
        · have hxy' : (p.toList == x.toList) = false := (Lib.bytes_beq_false_iff _ _).2 hxy
          have HZ := Lib.hid hxy
          clear hxy
          go_wp2
          go_roundg (n - (k + 1))
          case measure => omega
          case rel =>
            refine ⟨k + 1, by omega, by omega, by go_num, rfl, Lib.hid fun j hj => ?_⟩
            by_cases e : j = k
            · subst e; rw [HXK.out]; exact fun h => HZ.out h.symm
            · exact HK.out j (by omega)
      · have : k = n := by omega
        subst this
        go_wp2
        go_ret
        rw [HX.out k HN.out HK.out]
        exact ⟨rfl, rfl⟩
end Go.Proofs.YthhggganhegfhaaDoor
