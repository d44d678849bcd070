/-
  The walks of CopyTexts and SameTexts: every list of texts. Conditions: a copy's bytes are within the reach.
-/
import Derived.Test.YthhggganhegfhaaDoorLaw
import Derived.Test.YthhggganhegfhaaDoorRd
import Derived.Lib.SlicesS
import Derived.Deep.LoopGhost
namespace Go.Proofs.YthhggganhegfhaaDoor
open Go.RowKit

abbrev strE : ByteArray → Value := Value.string
theorem Tryd.info9 : (Tryd.prog.info? 9).map (fun i => (i.zero, i.size, i.bytes)) = some (some (.string ⟨#[]⟩), 1, 16) := by kernel_rfl

/-- a new row of the call's own that holds these texts -/
def Fresh (w : World) (xs : List ByteArray) (e : Ending) (w' : World) : Prop :=
  ∃ g cap, e = .returned (.slice (some ⟨g, 0, none⟩) xs.length cap) ∧ Own w' w.heap.size 9 strE (.slice (some ⟨g, 0, none⟩) xs.length cap) xs ∧ Below w.heap.size w w'

theorem copyTexts_calls (v : Value) (xs : List ByteArray) (w : World) (h : Rd w strE v xs) (hz : xs.length * 16 ≤ 140737488355328) :
    Calls Tryd.prog 15 #[v] w (Fresh w xs) := by
  obtain ⟨ao, c, hv, h1, h2, h3, h4⟩ := id h
  subst hv
  have HR := Lib.hid h
  clear h h1 h2 h3 h4
  go_enter Tryd.func15, Tryd.ntmps15
  go_wp2_with (at_builtin; refine wpList_push_all _ rfl (.tmp 5) (.tmp 6) 22 rfl w.heap.size 9 (.string ⟨#[]⟩) 16 strE Tryd.underlying22 Tryd.info9 rfl w.heap.size 0 0 [] xs _ rfl (own_empty _ _ _ _ (Nat.le_refl _)) rfl (HR.out.alloc _) (fun _ => rfl) (by omega) (by unfold maxLen; omega) (by simp) ?_; intro g cap w1 hown hb1)
  go_ret
  refine ⟨g, cap, ?_, ?_, ((Below.refl _ _).alloc (Nat.le_refl _) _).trans hb1⟩
  · simp
  · simpa using hown

theorem ext_getD {xs ys : List ByteArray} (hl : xs.length = ys.length) (h : ∀ j, j < xs.length → xs.getD j ByteArray.empty = ys.getD j ByteArray.empty) : xs = ys := by
  refine List.ext_getElem hl fun j h1 h2 => ?_
  have := h j h1
  simpa [List.getD, List.getElem?_eq_getElem h1, List.getElem?_eq_getElem h2] using this

set_option maxHeartbeats 2000000 in
theorem sameTexts_calls (v1 v2 : Value) (xs ys : List ByteArray) (w : World) (h1 : Rd w strE v1 xs) (h2 : Rd w strE v2 ys) :
    Calls Tryd.prog 18 #[v1, v2] w fun e w' => e = .returned (.bool (decide (xs = ys))) ∧ Drawn w w' := by
  have l1 : xs.length ≤ 9223372036854775807 := h1.len
  have l2 : ys.length ≤ 9223372036854775807 := h2.len
  by_cases hl : xs.length = ys.length
  · rcases h1.shape ByteArray.empty with ⟨rfl, ao, c, rfl⟩ | ⟨hp, b1, o1, c1, rfl, _, _, hc1⟩
    · obtain rfl : ys = [] := List.length_eq_zero_iff.1 hl.symm
      obtain ⟨ao2, c2, rfl⟩ := h2.any
      clear hl h1 h2
      go_enter Tryd.func18, Tryd.ntmps18
      go_wp2
      go_loopg [5] 0 (fun _ s wr => s = .int .i64 0 ∧ wr = w)
      case atStart => exact ⟨rfl, rfl⟩
      case round =>
        obtain ⟨rfl, rfl⟩ := hrel
        go_wp2
        go_ret
        exact ⟨rfl, Drawn.refl _⟩
    · rcases h2.shape ByteArray.empty with ⟨rfl, _⟩ | ⟨hp2, b2, o2, c2, rfl, _, _, hc2⟩
      · simp at hl; simp [hl] at hp
      · rw [← hl] at hc2 ⊢
        clear h1 h2
        have HX := Lib.hid (ext_getD hl)
        generalize hn : xs.length = n at *
        clear hn hl
        have HC1 := Lib.hid hc1; clear hc1
        have HC2 := Lib.hid hc2; clear hc2
        go_enter Tryd.func18, Tryd.ntmps18
        go_wp2
        go_loopg [5] n (fun g s wr => ∃ k : Nat, k ≤ n ∧ n - k ≤ g ∧ s = .int .i64 k ∧ Drawn w wr ∧ ∀ j, j < k → xs.getD j ByteArray.empty = ys.getD j ByteArray.empty)
        case atStart => exact ⟨0, Nat.zero_le _, by omega, rfl, Drawn.refl _, fun j hj => absurd hj (Nat.not_lt_zero _)⟩
        case round =>
          obtain ⟨k, hk, hg, rfl, hd, heq⟩ := hrel
          have HE := Lib.hid heq; clear heq
          by_cases hlt : k < n
          · have g1 : wr.cell? ⟨b1, o1 + k, none⟩ = some (.string (xs.getD k ByteArray.empty)) := by rw [hd.cell, HC1.out k hlt]
            have g2 : wr.cell? ⟨b2, o2 + k, none⟩ = some (.string (ys.getD k ByteArray.empty)) := by rw [hd.cell, HC2.out k hlt]
            generalize hxk : xs.getD k ByteArray.empty = x at g1
            generalize hyk : ys.getD k ByteArray.empty = y at g2
            have B := Lib.hid (And.intro hxk hyk)
            clear hxk hyk
            by_cases hxy : x = y
            · subst hxy
              go_wp2_with fail
              go_region
              go_wp2
              go_roundg (n - (k + 1))
              case measure => omega
              case rel =>
                refine ⟨k + 1, by omega, by omega, by go_num, hd.drew, fun j hj => ?_⟩
                by_cases e : j = k
                · subst e
                  rw [B.out.1, B.out.2]
                · exact HE.out j (by omega)
            · have hxy' : (x.toList == y.toList) = false := (Lib.bytes_beq_false_iff _ _).2 hxy
              have HY := Lib.hid hxy; clear hxy
              go_wp2_with fail
              go_region
              go_wp2
              go_ret
              refine ⟨?_, hd.drew⟩
              rw [decide_eq_false (fun e => HY.out (by rw [← B.out.1, ← B.out.2, e]))]
              rfl
          · have : k = n := by omega
            subst this
            go_wp2
            go_ret
            refine ⟨?_, hd⟩
            rw [decide_eq_true (HX.out HE.out)]
            rfl
  · obtain ⟨ao1, c1, rfl⟩ := h1.any
    obtain ⟨ao2, c2, rfl⟩ := h2.any
    have hne : ¬ xs = ys := fun e => hl (by rw [e])
    have HNE := Lib.hid hne
    clear h1 h2 hne
    generalize xs.length = n at *
    generalize ys.length = m at *
    have hnm : ¬ (n : Int) = (m : Int) := by omega
    clear hl
    go_enter Tryd.func18, Tryd.ntmps18
    go_wp2
    go_ret
    refine ⟨?_, Drawn.refl _⟩
    rw [decide_eq_false HNE.out]
    rfl
end Go.Proofs.YthhggganhegfhaaDoor
