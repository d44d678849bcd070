/-
  The walk of slices.Repeat at one text: every count that is not too great.
-/
import Derived.Test.YthhggganhegfhaaDoorShelf
import Derived.Test.YthhggganhegfhaaDoorCopySame
import Derived.Test.YthhggganhegfhaaDoorBlk
import Derived.Laws.CopyRow
import Derived.Laws.MakeOwn
import Derived.Deep.OwnRows
import Derived.Deep.RegionHeld3
import Derived.Lib.Split
namespace Go.Proofs.YthhggganhegfhaaDoor
open Go.RowKit
set_option linter.unusedVariables false

def dotsB : ByteArray := ⟨#[46, 46]⟩
def repC (p n : Nat) : Array Value := (List.replicate p (strE dotsB) ++ List.replicate (n - p) (strE ByteArray.empty)).toArray
theorem repC_size {p n : Nat} (h : p ≤ n) : (repC p n).size = n := by simp [repC]; omega
theorem repC_zero (n : Nat) : repC 0 n = madeCells #[.string ByteArray.empty] n := by
  rw [← Lib.cellsOf_nil]
  unfold Lib.cellsOf repC
  simp
theorem repC_copy {p n m : Nat} (h : p + m ≤ n) : ((repC p n).toList.take p ++ List.replicate m (strE dotsB) ++ (repC p n).toList.drop (p + m)).toArray = repC (p + m) n := by
  have h1 : (repC p n).toList.take p = List.replicate p (strE dotsB) := by
    simp [repC]
  have h2 : (repC p n).toList.drop (p + m) = List.replicate (n - (p + m)) (strE ByteArray.empty) := by
    simp [repC]
    rw [List.drop_append]
    simp
    omega
  rw [h1, h2]
  unfold repC
  rw [List.replicate_append_replicate]
theorem repC_cell {p n j : Nat} (h : j < p) : (repC p n)[j]? = some (strE dotsB) := by
  simp [repC]
  rw [List.getElem?_append_left (by simpa using h)]
  simp [h]

theorem blk_setRow {w : World} {N : Nat} {cs new : Array Value} {T : TypeId} (h : Blk w N cs T) : Blk (w.setRow N new) N new T := setRow_heap w N cs new T (0, 0) h
theorem only_setRow (w : World) (N : Nat) (new : Array Value) : Only N w (w.setRow N new) := ⟨rfl, rfl, rfl, by simp [World.setRow], fun k _ hk => setRow_other w N k new hk⟩

set_option maxHeartbeats 4000000 in
theorem repeat_calls (b n : Nat) (w : World) (hn : n ≤ 4194304) (hb : w.cell? ⟨b, 0, none⟩ = some (strE dotsB)) :
    Calls Tryd.prog 38 #[.slice (some ⟨b, 0, none⟩) 1 1, .int .i64 n] w fun e w' => e = .returned (.slice (some ⟨w.heap.size, 0, none⟩) n n) ∧ Blk w' w.heap.size (repC n n) 9 ∧ Below w.heap.size w w' := by
  have hlt : b < w.heap.size := lt_of_cell hb
  have BM : Hid (Calls Tryd.prog 47 #[.int .u64 1, .int .u64 n] w fun e w' => e = .returned (.tuple #[.int .u64 0, .int .u64 n]) ∧ w' = w) := Lib.hid (by
    have h := Tryd.bits_Mul 1 n (by omega) (by omega) w
    have e1 : (1 * n / 18446744073709551616 : Nat) = 0 := by omega
    have e2 : (1 * n % 18446744073709551616 : Nat) = n := by omega
    rw [e1, e2] at h
    exact h)
  have hmk := run_make_row' (P := Tryd.prog) 22 9 (.string ByteArray.empty) 16 Tryd.underlying22 Tryd.info9 rfl .i64 .i64 n (by omega) (by omega)
  have hsz1 : (Tryd.prog.info? 9).map (·.size) = some 1 := by kernel_rfl
  have HB := Lib.hid hb
  clear hb
  have hn0 : ¬ ((n : Int) < 0) := by omega
  go_enter Tryd.func38, Tryd.ntmps38
  go_wp2_with fail
  refine BM.out.mono ?_
  rintro e w' ⟨rfl, rfl⟩
  rw [← repC_zero] at hmk
  have hbig : ¬ ((9223372036854775807 : Int) < (n : Int)) := by omega
  have hbu : ((repC 0 n).size = n) := repC_size (Nat.zero_le _)
  have B0 := Lib.hid (Blk.new w' (repC 0 n) 9)
  have hcp : ∀ ty, (Builtin.copy_ #[22, 22] ty #[.slice (some ⟨w'.heap.size, 0, none⟩) n n, .slice (some ⟨b, 0, none⟩) 1 1]).run Tryd.prog (w'.alloc (.cells (repC 0 n) 9)) = .ok (.int .i64 (min 1 n : Nat)) ((w'.alloc (.cells (repC 0 n) 9)).setRow w'.heap.size (repC (min 1 n) n)) := fun ty => by
    have h := run_copy_row (P := Tryd.prog) (w'.alloc (.cells (repC 0 n) 9)) 22 22 ty 9 w'.heap.size 0 n n ⟨b, 0, none⟩ 1 1 (repC 0 n) 9 (List.replicate (min 1 n) (strE dotsB)) Tryd.underlying22 hsz1 B0.out (by simp) (fun j v hj => by
      have hj2 := (List.getElem?_eq_some_iff.1 hj)
      obtain ⟨h1, h2⟩ := hj2
      simp at h1 h2
      have : j = 0 := by omega
      subst this
      rw [WideShapes.add_plain, World.cell?_alloc_old _ _ _ (by simp; omega), ← h2]
      exact HB.out) (by rw [hbu]; simp; omega) (fun v hv => by rw [List.eq_of_mem_replicate hv]; rfl)
    rw [h]
    have hc := repC_copy (p := 0) (n := n) (m := min 1 n) (by omega)
    simp only [Nat.zero_add, List.length_replicate] at hc ⊢
    rw [hc]
    rfl
  have H1 := Lib.hid (show Blk ((w'.alloc (.cells (repC 0 n) 9)).setRow w'.heap.size (repC (min 1 n) n)) w'.heap.size (repC (min 1 n) n) 9 from blk_setRow B0.out)
  have H2 := Lib.hid (show Below w'.heap.size w' ((w'.alloc (.cells (repC 0 n) 9)).setRow w'.heap.size (repC (min 1 n) n)) from ((Below.refl _ _).alloc (Nat.le_refl _) _).trans ((only_setRow _ _ _).below (Nat.le_refl _) (by simp)))
  generalize hw2 : (w'.alloc (.cells (repC 0 n) 9)).setRow w'.heap.size (repC (min 1 n) n) = w2 at *
  clear hw2 BM
  go_wp2_with fail
  clear hcp hmk
  go_loopg [8] n (fun g s8 wr => ∃ p : Nat, s8 = .int .i64 p ∧ p ≤ n ∧ n - p ≤ g ∧ (p = 0 → n = 0) ∧ Hid (Blk wr w'.heap.size (repC p n) 9) ∧ Hid (Below w'.heap.size w' wr))
  case atStart => exact ⟨min 1 n, by first | rfl | (congr 1; omega), by omega, by omega, by omega, H1, H2⟩
  case round =>
    obtain ⟨p, rfl, hp, hg, hp0, BB, BL⟩ := hrel
    rename World => wr
    by_cases hlt : p < n
    · have hpos : 0 < p := by omega
      obtain ⟨m, hm⟩ : ∃ m, m = min p (n - p) := ⟨_, rfl⟩
      have hm1 : 0 < m := by omega
      have hm2 : p + m ≤ n := by omega
      have hcp : ∀ (q : Nat) ty, (Builtin.copy_ #[22, 22] ty #[.slice (some ⟨w'.heap.size, p, none⟩) (n - p) (n - p), .slice (some ⟨w'.heap.size, 0, none⟩) p n]).run Tryd.prog (wr.drewN q) = .ok (.int .i64 m) ((wr.drewN q).setRow w'.heap.size (repC (p + m) n)) := fun q ty => by
        have BQ : Blk (wr.drewN q) w'.heap.size (repC p n) 9 := BB.out.drawn ⟨q, rfl⟩
        have h := run_copy_row (P := Tryd.prog) (wr.drewN q) 22 22 ty 9 w'.heap.size p (n - p) (n - p) ⟨w'.heap.size, 0, none⟩ p n (repC p n) 9 (List.replicate m (strE dotsB)) Tryd.underlying22 hsz1 BQ (by simp [hm]) (fun j v hj => by
          have hj2 := (List.getElem?_eq_some_iff.1 hj)
          obtain ⟨h1, h2⟩ := hj2
          simp at h1 h2
          rw [WideShapes.add_plain, Nat.zero_add, BQ.cell j, repC_cell (by omega), ← h2]) (by rw [repC_size hp]; simp; omega) (fun v hv => by rw [List.eq_of_mem_replicate hv]; rfl)
        rw [h]
        have hc := repC_copy (p := p) (n := n) (m := m) hm2
        simp only [List.length_replicate] at hc ⊢
        rw [hc]
        rfl
      have hcp0 := hcp 0
      have hcp1 := hcp 1
      have hcp2 := hcp 2
      have e0 : wr.drewN 0 = wr := rfl
      have e1 : wr.drewN 1 = wr.drew := rfl
      have e2 : wr.drewN 2 = wr.drew.drew := rfl
      rw [e0] at hcp0
      rw [e1] at hcp1
      rw [e2] at hcp2
      have BX := Lib.hid (show ∀ q, Blk ((wr.drewN q).setRow w'.heap.size (repC (p + m) n)) w'.heap.size (repC (p + m) n) 9 from fun q => blk_setRow (BB.out.drawn ⟨q, rfl⟩))
      have LX := Lib.hid (show ∀ q, Below w'.heap.size w' ((wr.drewN q).setRow w'.heap.size (repC (p + m) n)) from fun q => (BL.out.trans (Drawn.below ⟨q, rfl⟩ _)).trans ((only_setRow _ _ _).below (Nat.le_refl _) (by have := BL.out.size; have h2 : (wr.drewN q).heap = wr.heap := Drawn.heap ⟨q, rfl⟩; rw [h2]; exact this)))
      clear hcp e0 e1 e2 hm
      have z1 : (0 : Int) ≤ (p : Int) := by omega
      have z2 : (p : Int) ≤ (n : Int) := by omega
      have z3 : ¬ (n - p = 0) := by omega
      go_wp2_with fail
      go_region
      go_wp2
      go_roundg (n - (p + m))
      case measure => omega
      case rel => exact ⟨p + m, by go_num, hm2, Nat.le_refl _, by omega, Lib.hid (BX.out 1), Lib.hid (LX.out 1)⟩
    · obtain rfl : p = n := by omega
      go_wp2
      go_ret
      exact ⟨rfl, BB.out, BL.out⟩
end Go.Proofs.YthhggganhegfhaaDoor
