/-
  The walks of Strip and of Hard on both sides: every list, every text that is not too long, every number.
-/
import Derived.Test.YthhggganhegfhaaDoorRouteAlive
namespace Go.Proofs.YthhggganhegfhaaDoor
open Go.RowKit
set_option linter.unusedVariables false

/-- what Strip answers -/
def stripP (xs : List ByteArray) (n : Int) : List ByteArray × Bool := if 0 < n ∧ (xs.length : Int) ≤ n then ([], false) else (xs.drop n.toNat, true)
def StripAns (w : World) (r : List ByteArray × Bool) (e : Ending) (w' : World) : Prop :=
  ∃ ao cap, e = .returned (.tuple #[.slice ao r.1.length cap, .bool r.2]) ∧ Own w' w.heap.size 9 strE (.slice ao r.1.length cap) r.1 ∧ Below w.heap.size w w'
/-- the rest of what is read -/
theorem Rd.rest {w : World} {b o c : Nat} {xs : List ByteArray} (h1 : xs.length ≤ c) (h2 : c ≤ maxLen) (hc : ∀ i (h : i < xs.length), w.cell? ⟨b, o + i, none⟩ = some (strE (xs[i]))) (k : Nat) (hk : k ≤ xs.length) :
    Rd w strE (.slice (some ⟨b, o + k, none⟩) (xs.length - k) (c - k)) (xs.drop k) := by
  refine ⟨some ⟨b, o + k, none⟩, c - k, by simp, by simp; omega, by omega, (fun h => by cases h), fun _ => ⟨b, o + k, rfl, fun i hi => ?_⟩⟩
  simp at hi
  rw [Nat.add_assoc, hc (k + i) (by omega)]
  simp

set_option maxHeartbeats 4000000 in
theorem strip_calls (v : Value) (xs : List ByteArray) (n : Int) (w : World) (h : Rd w strE v xs) (hz : xs.length * 16 ≤ 140737488355328) (hn : -9223372036854775808 ≤ n ∧ n ≤ 9223372036854775807) :
    Calls Tryd.prog 22 #[v, .int .i64 n] w (StripAns w (stripP xs n)) := by
  rcases h.cases with ⟨rfl, ao, c, rfl⟩ | ⟨hp, b, o, c, rfl, h1, h2, hc⟩
  · by_cases h0 : 0 < n
    · have e : stripP [] n = ([], false) := by unfold stripP; rw [if_pos ⟨h0, by simp; omega⟩]
      rw [e]
      have hle : (0 : Int) ≤ n := by omega
      go_enter Tryd.func22, Tryd.ntmps22
      go_wp2
      go_ret2
      exact ⟨none, 0, rfl, own_nil _ _ _ _, Below.refl _ _⟩
    · have e : stripP [] n = ([], true) := by unfold stripP; rw [if_neg (fun h => h0 h.1)]; simp
      rw [e]
      have hmx : max n 0 = 0 := by omega
      go_enter Tryd.func22, Tryd.ntmps22
      have CL := Lib.hid (cloneS_calls _ [] w h (by simp))
      go_wp2_with fail
      refine CL.out.mono ?_
      rintro e w1 ⟨ao1, c1, rfl, ho, hb⟩
      go_wp2
      go_ret2
      exact ⟨ao1, c1, rfl, ho, hb⟩
  · have hm : xs.length ≤ 9223372036854775807 := by unfold maxLen at h2; omega
    have hcm : c ≤ 9223372036854775807 := by unfold maxLen at h2; omega
    by_cases h0 : 0 < n
    · by_cases hle : (xs.length : Int) ≤ n
      · have e : stripP xs n = ([], false) := by unfold stripP; rw [if_pos ⟨h0, hle⟩]
        rw [e]
        clear h hc e
        generalize xs.length = N at *
        go_enter Tryd.func22, Tryd.ntmps22
        go_wp2
        go_ret2
        exact ⟨none, 0, rfl, own_nil _ _ _ _, Below.refl _ _⟩
      · have e : stripP xs n = (xs.drop n.toNat, true) := by unfold stripP; rw [if_neg (fun h => hle h.2)]
        rw [e]
        obtain ⟨k, rfl⟩ : ∃ k : Nat, n = (k : Int) := ⟨n.toNat, by omega⟩
        rw [Int.toNat_natCast]
        have hk : k < xs.length := by omega
        have hmx : max (k : Int) 0 = (k : Int) := by omega
        have CL := Lib.hid (cloneS_calls _ (xs.drop k) w (Rd.rest h1 h2 hc k (by omega)) (by simp; omega))
        have hlen : (xs.drop k).length = xs.length - k := by simp
        rw [hlen] at CL
        have HLEN := Lib.hid hlen
        have hk1 : (k : Int) ≤ (xs.length : Int) := by omega
        have hk2 : (k : Int) ≤ (c : Int) := by omega
        have hck : ¬ (c - k = 0) := by omega
        generalize xs.drop k = ys at *
        clear h hc e hlen
        generalize xs.length = N at *
        go_enter Tryd.func22, Tryd.ntmps22
        go_wp2_with fail
        refine CL.out.mono ?_
        rintro e w1 ⟨ao1, c1, rfl, ho, hb⟩
        go_wp2
        go_ret2
        refine ⟨ao1, c1, ?_, ?_, hb⟩
        · simp only
          rw [HLEN.out]
          rfl
        · simp only
          rw [HLEN.out]
          exact ho
    · have e : stripP xs n = (xs, true) := by
        unfold stripP; rw [if_neg (fun h => h0 h.1)]
        have : n.toNat = 0 := by omega
        rw [this]; rfl
      rw [e]
      have hmx : max n 0 = 0 := by omega
      have CL := Lib.hid (cloneS_calls _ xs w h (by omega))
      clear h hc e
      obtain ⟨N, hN⟩ : ∃ N, N = xs.length := ⟨_, rfl⟩
      rw [← hN] at CL hm hp h1 ⊢
      have HN := Lib.hid hN
      clear hN hz
      go_enter Tryd.func22, Tryd.ntmps22
      go_wp2_with fail
      refine CL.out.mono ?_
      rintro e w1 ⟨ao1, c1, rfl, ho, hb⟩
      go_wp2
      go_ret2
      refine ⟨ao1, c1, ?_, ?_, hb⟩
      · simp only
        rw [← HN.out]
        rfl
      · simp only
        rw [← HN.out]
        exact ho

set_option maxHeartbeats 4000000 in
theorem refStrip_calls (v : Value) (xs : List ByteArray) (n : Int) (w : World) (h : Rd w strE v xs) (hz : xs.length * 16 ≤ 140737488355328) (hn : -9223372036854775808 ≤ n ∧ n ≤ 9223372036854775807) :
    Calls Tryd.prog 23 #[v, .int .i64 n] w (StripAns w (stripP xs n)) := by
  by_cases h0 : 0 < n
  · by_cases hle : (xs.length : Int) ≤ n
    · have e : stripP xs n = ([], false) := by unfold stripP; rw [if_pos ⟨h0, hle⟩]
      rw [e]
      obtain ⟨ao, c, rfl⟩ := h.any
      clear h e
      generalize xs.length = N at *
      go_enter Tryd.func23, Tryd.ntmps23
      go_wp2
      go_ret2
      exact ⟨none, 0, rfl, own_nil _ _ _ _, Below.refl _ _⟩
    · have e : stripP xs n = (xs.drop n.toNat, true) := by unfold stripP; rw [if_neg (fun h => hle h.2)]
      rw [e]
      obtain ⟨k, rfl⟩ : ∃ k : Nat, n = (k : Int) := ⟨n.toNat, by omega⟩
      rw [Int.toNat_natCast]
      have hk : k < xs.length := by omega
      rcases h.cases with ⟨rfl, ao, c, rfl⟩ | ⟨hp, b, o, c, rfl, h1, h2, hc⟩
      · simp at hk
      have hcm : c ≤ 9223372036854775807 := by unfold maxLen at h2; omega
      have RR := Lib.hid (Rd.rest h1 h2 hc k (by omega))
      have hlen : (xs.drop k).length = xs.length - k := by simp
      have HLEN := Lib.hid hlen
      have hk1 : (k : Int) ≤ (xs.length : Int) := by omega
      have hk2 : (k : Int) ≤ (c : Int) := by omega
      have hck : ¬ (c - k = 0) := by omega
      generalize xs.drop k = ys at *
      clear h hc e hlen
      generalize xs.length = N at *
      go_enter Tryd.func23, Tryd.ntmps23
      go_wp2_with (at_builtin; refine wpList_push_all _ rfl (.tmp 14) (.tmp 17) 22 rfl w.heap.size 9 (.string ⟨#[]⟩) 16 strE Tryd.underlying22 Tryd.info9 rfl w.heap.size 0 0 [] ys _ rfl (own_empty _ _ _ _ (Nat.le_refl _)) rfl (RR.out.alloc _) (fun _ => rfl) (by have := HLEN.out; omega) (by unfold maxLen; have := HLEN.out; omega) (by simp) ?_; intro g cap w1 hown hb1)
      go_ret2
      exact ⟨some ⟨g, 0, none⟩, cap, by simp, by simpa using hown, ((Below.refl _ _).alloc (Nat.le_refl _) _).trans hb1⟩
  · have e : stripP xs n = (xs, true) := by
      unfold stripP; rw [if_neg (fun h => h0 h.1)]
      have : n.toNat = 0 := by omega
      rw [this]; rfl
    rw [e]
    have HR := Lib.hid h
    rcases h.cases with ⟨rfl, ao, c, rfl⟩ | ⟨hp, b, o, c, rfl, h1, h2, hc⟩
    · clear h e
      go_enter Tryd.func23, Tryd.ntmps23
      go_wp2_with (at_builtin; refine wpList_push_all _ rfl (.tmp 14) (.tmp 17) 22 rfl w.heap.size 9 (.string ⟨#[]⟩) 16 strE Tryd.underlying22 Tryd.info9 rfl w.heap.size 0 0 [] [] _ rfl (own_empty _ _ _ _ (Nat.le_refl _)) rfl (HR.out.alloc _) (fun _ => rfl) (by simp) (by unfold maxLen; simp) (by simp) ?_; intro g cap w1 hown hb1)
      go_ret2
      exact ⟨some ⟨g, 0, none⟩, cap, by simp, by simpa using hown, ((Below.refl _ _).alloc (Nat.le_refl _) _).trans hb1⟩
    · have hcm : c ≤ 9223372036854775807 := by unfold maxLen at h2; omega
      obtain ⟨N, hN⟩ : ∃ N, N = xs.length := ⟨_, rfl⟩
      rw [← hN] at HR hp h1 hz ⊢
      have HN := Lib.hid hN
      clear hN h hc e
      go_enter Tryd.func23, Tryd.ntmps23
      go_wp2_with (at_builtin; refine wpList_push_all _ rfl (.tmp 14) (.tmp 17) 22 rfl w.heap.size 9 (.string ⟨#[]⟩) 16 strE Tryd.underlying22 Tryd.info9 rfl w.heap.size 0 0 [] xs _ rfl (own_empty _ _ _ _ (Nat.le_refl _)) rfl (HR.out.alloc _) (fun _ => rfl) (by have := HN.out; omega) (by unfold maxLen; have := HN.out; omega) (by simp) ?_; intro g cap w1 hown hb1)
      go_ret2
      exact ⟨some ⟨g, 0, none⟩, cap, by simp, by simpa using hown, ((Below.refl _ _).alloc (Nat.le_refl _) _).trans hb1⟩
end Go.Proofs.YthhggganhegfhaaDoor
