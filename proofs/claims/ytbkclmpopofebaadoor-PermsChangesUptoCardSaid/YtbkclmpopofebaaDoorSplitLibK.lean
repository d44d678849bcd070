/-
  The walks of strings.Count, strings.Index and strings.Split at a comma: every text that is not too long.
-/
import Derived.Test.YtbkclmpopofebaaDoorRd
import Derived.Test.YtbkclmpopofebaaDoorLaw
import Derived.Deep.LoopGhost
import Derived.WalkSpells
import Derived.WalkLawsBesides
import Derived.Test.YtbkclmpopofebaaDoorPiecesK
import Derived.Lib.IndexBytes
import Derived.Lib.Strings
import Derived.Laws.Strings3
import Derived.Deep.OwnRows
import Derived.Shelf.RegionOpenPlain
import Derived.Lib.Walk
namespace Go.Proofs.YtbkclmpopofebaaDoor
open Go.RowKit Go.Lib

abbrev strE : ByteArray → Value := Value.string
theorem Tryd.info9 : (Tryd.prog.info? 9).map (fun i => (i.zero, i.size, i.bytes)) = some (some (.string ⟨#[]⟩), 1, 16) := by kernel_rfl

theorem count_calls (s : ByteArray) (w : World) : Calls Tryd.prog 20 #[.string s, .string coB] w fun e w' => e = .returned (.int .i64 (Lib.countB s coB)) ∧ w' = w := by
  have e : (Lib.countB s coB : Int) = (Lib.countByte s.data.toList 44 : Nat) := by rw [countB_co]; rfl
  rw [e]
  unfold coB
  go_enter Tryd.func20, Tryd.ntmps20
  go_wp2
  rw [run_callFunc_extern Tryd.func35 (by kernel_rfl) (by kernel_rfl) (by kernel_rfl) (e := Extern.BytealgCount.count) (by kernel_rfl), Lib.run_countString]
  simp only [Result.andThen]
  rw [Oper.upon_value]
  go_wp2
  go_ret
  exact ⟨rfl, rfl⟩

theorem index_calls (s : ByteArray) (w : World) : Calls Tryd.prog 21 #[.string s, .string coB] w fun e w' => e = .returned (.int .i64 (Lib.indexB s coB)) ∧ w' = w := by
  have e : Lib.indexB s coB = Lib.indexByte s.data.toList 44 := Lib.index_one _ _
  rw [e]
  unfold coB
  go_enter Tryd.func21, Tryd.ntmps21
  go_wp2
  · have h : ([44] == s.toList) = true := by assumption
    go_ret
    refine ⟨?_, rfl⟩
    have e : s.data.toList = [44] := by rw [← Lib.toList_data]; exact (beq_iff_eq.1 h).symm
    rw [e]
    simp [Lib.indexByte]
  · rw [run_callFunc_extern Tryd.func42 (by kernel_rfl) (by kernel_rfl) (by kernel_rfl) (e := Extern.BytealgIndexByte.indexByte) (by kernel_rfl), Lib.run_indexByteString]
    simp only [Result.andThen]
    rw [Oper.upon_value]
    go_wp2
    go_ret
    exact ⟨rfl, rfl⟩

theorem co_size : coB.size = 1 := rfl
set_option maxHeartbeats 4000000 in
set_option maxRecDepth 1000000 in
theorem genSplit_calls (s : ByteArray) (w : World) (hs : s.size < 4294967281) :
    Calls Tryd.prog 13 #[.string s, .string coB, .int .i64 0, .int .i64 (-1)] w fun e w' =>
      e = .returned (.slice (some ⟨w.heap.size, 0, none⟩) (pieces s).length (pieces s).length) ∧ w' = w.alloc (.cells ((pieces s).map Value.string).toArray 9) := by
  have hle := Lib.countB_le coB (Nat.le_refl _) s.size s (Nat.le_refl _)
  have hlen := Lib.splitB_all coB (Nat.le_refl _) 0 _ s rfl
  have hfull : Lib.cellsOf (Lib.splitB coB 0 (Lib.countB s coB) s) (Lib.countB s coB + 1) = ((Lib.splitB coB 0 (Lib.countB s coB) s).map Value.string).toArray := by rw [← hlen]; exact Lib.cellsOf_full _
  rw [← splitB_pieces s, ← hfull, hlen]
  clear hfull
  have hC := count_calls s w
  obtain ⟨cn, hcn⟩ : ∃ cn : Nat, Lib.countB s coB = cn := ⟨_, rfl⟩
  rw [hcn] at hC hle hlen ⊢
  clear hcn
  have HC := Lib.hid hC
  have HL := Lib.hid hlen
  clear hlen hC
  have hmin : min ((cn : Int) + 1) ((s.size : Int) + 1) = ((cn + 1 : Nat) : Int) := by omega
  have hmk := run_make_row' (P := Tryd.prog) 30 9 (.string ByteArray.empty) 16 Tryd.underlying30 Tryd.info9 rfl .i64 .i64 (cn + 1) (by omega) (by omega)
  rw [show ((cn + 1 : Nat) : Int) = (cn : Int) + 1 from rfl] at hmk
  have hsz : ((coB.size : Nat) : Int) = 1 := rfl
  have hse : coB.toList.isEmpty = false := by rw [Lib.toList_data]; rfl
  go_enter Tryd.func13, Tryd.ntmps13
  go_wp2_with fail
  refine HC.out.mono ?_
  rintro e w' ⟨rfl, rfl⟩
  go_wp2_with fail
  clear hmk
  go_loopg [0, 10] (cn) (fun g s0 s10 wr => ∃ (done : List ByteArray) (rest : ByteArray), s0 = .string rest ∧ s10 = .int .i64 done.length ∧ done.length ≤ cn ∧ g = cn - done.length ∧ rest.size ≤ s.size ∧
      wr = w'.alloc (.cells (Lib.cellsOf done (cn + 1)) 9) ∧ done ++ Lib.splitB coB 0 (cn - done.length) rest = Lib.splitB coB 0 cn s)
  case atStart => exact ⟨[], s, rfl, rfl, Nat.zero_le _, rfl, Nat.le_refl _, by rw [Lib.cellsOf_nil], rfl⟩
  case round =>
    obtain ⟨done, rest, rfl, rfl, hd, rfl, hrs, rfl, hsp⟩ := hrel
    have hnext : (Lib.cellsOf done (cn + 1))[done.length]? = some (.string ByteArray.empty) := Lib.cellsOf_next (by omega)
    have hS := Lib.hid hsp
    clear hsp
    have fin : Lib.splitB coB 0 (cn - done.length) rest = [rest] → cn + 1 = done.length + 1 ∧ (Lib.cellsOf done (cn + 1)).setIfInBounds done.length (.string rest) = Lib.cellsOf (Lib.splitB coB 0 cn s) (cn + 1) := fun h => by
      have e := hS.out
      rw [h] at e
      have := HL.out
      rw [← e] at this ⊢
      exact ⟨by simpa using this.symm, Lib.cellsOf_set (by omega) rest⟩
    have hF := Lib.hid fin
    clear fin
    by_cases hlt : done.length < cn
    · have hltz : ((done.length : Nat) : Int) < (cn : Int) := by omega
      rcases Lib.indexB_cases rest coB with hix | ⟨i, hix, hroom⟩
      · have HI := Lib.hid (fun c => index_calls rest (w'.alloc (.cells c 9)))
        have HX := Lib.hid hix
        clear hix
        go_wp2_with fail
        refine (HI.out _).mono ?_
        rintro e w2 ⟨rfl, hw⟩
        rw [hw, HX.out]
        go_wp2
        go_ret
        obtain ⟨f1, f2⟩ := hF.out (Lib.splitB_miss coB 0 _ rest HX.out)
        rw [← f2, f1]
        exact ⟨rfl, rfl⟩
      · have HI := Lib.hid (fun c => index_calls rest (w'.alloc (.cells c 9)))
        have HX := Lib.hid hix
        clear hix
        rw [co_size] at hroom
        have c0 : ¬ ((i : Int) < 0) := by omega
        have c1 : (0 : Int) ≤ ↑i := by omega
        have c2 : (↑i : Int) ≤ ↑rest.size := by omega
        have c3 : (0 : Int) ≤ ↑i + 1 := by omega
        have c4 : (↑i + 1 : Int) ≤ ↑rest.size := by omega
        go_wp2_with fail
        refine (HI.out _).mono ?_
        rintro e w2 ⟨rfl, hw⟩
        rw [hw, HX.out]
        go_wp2
        go_roundg (cn - (done.length + 1))
        case measure => omega
        case rel =>
          refine ⟨done ++ [rest.extract 0 i], rest.extract (i + 1) rest.size, rfl, by simp, by simp; omega, by simp, by rw [ByteArray.size_extract]; omega, by rw [← Lib.cellsOf_set (by omega)], ?_⟩
          rw [← hS.out, show cn - done.length = (cn - (done.length + 1)) + 1 by omega, Lib.splitB_hit coB 0 _ rest i HX.out]
          simp [co_size]
    · have hltz : ¬ (((done.length : Nat) : Int) < (cn : Int)) := by omega
      go_wp2
      go_ret
      obtain ⟨f1, f2⟩ := hF.out (by rw [show cn - done.length = 0 by omega]; rfl)
      rw [← f2, f1]
      exact ⟨rfl, rfl⟩

theorem split_calls (s : ByteArray) (w : World) (hs : s.size < 4294967281) :
    Calls Tryd.prog 9 #[.string s, .string coB] w fun e w' =>
      e = .returned (.slice (some ⟨w.heap.size, 0, none⟩) (pieces s).length (pieces s).length) ∧ w' = w.alloc (.cells ((pieces s).map Value.string).toArray 9) := by
  have HC := Lib.hid (genSplit_calls s w hs)
  generalize pieces s = ps at *
  go_enter Tryd.func9, Tryd.ntmps9
  go_wp2_with fail
  refine HC.out.mono ?_
  rintro e w' ⟨rfl, hw⟩
  rw [hw]
  go_wp2
  go_ret
  exact ⟨rfl, rfl⟩
end Go.Proofs.YtbkclmpopofebaaDoor
