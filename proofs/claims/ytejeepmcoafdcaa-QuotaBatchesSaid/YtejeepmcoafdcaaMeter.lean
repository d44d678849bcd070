/-
  The meter, plain, and the walks of quota.New, Entry, Bytes, Entries, Written.
-/
import Derived.Test.YtejeepmcoafdcaaBlk
import Derived.Test.YtejeepmcoafdcaaLaw
namespace Go.Proofs.Ytejeepmcoafdcaa
open Go.RowKit
set_option linter.unusedVariables false

def entryErr (x e : Int) : Int := if x ≤ e then 200 else 0
def entryNext (x e : Int) : Int := if x ≤ e then e else e + 1
def bytesErr (x b n : Int) : Int := if n < 0 then 11 else if x < b then 201 else if x - b < n then 201 else 0
def bytesNext (x b n : Int) : Int := if n < 0 then b else if x < b then b else if x - b < n then b else b + n

/-- a count that lies where it may: never below 0, never beyond an int -/
def Fine (b : Int) : Prop := 0 ≤ b ∧ b ≤ 9223372036854775807
def IsInt (x : Int) : Prop := -9223372036854775808 ≤ x ∧ x ≤ 9223372036854775807
theorem entryNext_fine {x e : Int} (hx : IsInt x) (h : Fine e) : Fine (entryNext x e) := by
  unfold entryNext Fine IsInt at *; split <;> omega
theorem bytesNext_fine {x b n : Int} (hx : IsInt x) (h : Fine b) : Fine (bytesNext x b n) := by
  unfold bytesNext Fine IsInt at *; repeat' split
  all_goals omega

def meterCells (mE mB e b : Int) : Array Value := #[.int .i64 mE, .int .i64 mB, .int .i64 e, .int .i64 b]
/-- the meter at M -/
def Mt (w : World) (M : Nat) (mE mB e b : Int) : Prop := Blk w M (meterCells mE mB e b) 50

theorem Mt.keep {w w' : World} {M N : Nat} {mE mB e b : Int} (h : Mt w M mE mB e b) (ho : Only N w w') (hn : M ≠ N) : Mt w' M mE mB e b := Blk.only h ho hn

theorem Mt.other {w : World} {M : Nat} {mE mB e b : Int} (h : Mt w M mE mB e b) (a : Addr) (ha : a.block ≠ M) (v : Value) : Mt (w.setCell a v) M mE mB e b := Blk.other h a ha v
theorem new_calls (mE mB : Int) (c2 c3 c4 c5 c6 c7 c8 c9 c10 c11 c12 : Value) (w : World) :
    Calls Try.prog 9 #[.agg #[.int .i64 mE, .int .i64 mB, c2, c3, c4, c5, c6, c7, c8, c9, c10, c11, c12]] w fun e w' =>
      ∃ M, e = .returned (.pointer (some ⟨M, 0, none⟩)) ∧ w.heap.size ≤ M ∧ Mt w' M mE mB 0 0 ∧ Below w.heap.size w w' := by
  go_enter Try.func9, Try.ntmps9
  go_wp2
  go_ret
  refine ⟨w.heap.size + 1, rfl, by omega, ?_, ((Below.refl _ _).alloc (Nat.le_refl _) _).alloc (by simp) _⟩
  have := Blk.new (w.alloc (Obj.cells #[Value.int IntKind.i64 mE, Value.int IntKind.i64 mB, c2, c3, c4, c5, c6, c7, c8, c9, c10, c11, c12] 24)) (meterCells mE mB 0 0) 50
  rw [World.size_alloc] at this
  exact this

theorem entries_calls (w : World) (M : Nat) (mE mB e b : Int) (h : Mt w M mE mB e b) :
    Calls Try.prog 13 #[.pointer (some ⟨M, 0, none⟩)] w fun x w' => x = .returned (.int .i64 e) ∧ w' = w := by
  have c2 := Blk.cell h 2
  simp [meterCells] at c2
  clear h
  go_enter Try.func13, Try.ntmps13
  go_wp2
  go_ret
  exact ⟨rfl, rfl⟩
theorem written_calls (w : World) (M : Nat) (mE mB e b : Int) (h : Mt w M mE mB e b) :
    Calls Try.prog 14 #[.pointer (some ⟨M, 0, none⟩)] w fun x w' => x = .returned (.int .i64 b) ∧ w' = w := by
  have c2 := Blk.cell h 3
  simp [meterCells] at c2
  clear h
  go_enter Try.func14, Try.ntmps14
  go_wp2
  go_ret
  exact ⟨rfl, rfl⟩

/-- the meter's new state behind a store -/
theorem Mt.setE {w : World} {M : Nat} {mE mB e b : Int} (h : Mt w M mE mB e b) (x : Int) : Mt (w.setCell ⟨M, 2, none⟩ (.int .i64 x)) M mE mB x b := Blk.set h 2 _
theorem Mt.setB {w : World} {M : Nat} {mE mB e b : Int} (h : Mt w M mE mB e b) (x : Int) : Mt (w.setCell ⟨M, 3, none⟩ (.int .i64 x)) M mE mB e x := Blk.set h 3 _

theorem entry_calls (w : World) (M : Nat) (mE mB e b : Int) (h : Mt w M mE mB e b) (hx : IsInt mE) (hf : Fine e) :
    Calls Try.prog 11 #[.pointer (some ⟨M, 0, none⟩)] w fun x w' => x = .returned (.int .i64 (entryErr mE e)) ∧ Mt w' M mE mB (entryNext mE e) b ∧ Only M w w' := by
  have c0 := Blk.cell h 0
  have c2 := Blk.cell h 2
  simp [meterCells] at c0 c2
  have f2 := Blk.free h 2
  have H := Lib.hid h
  have HF := Lib.hid hf
  have HX := Lib.hid hx
  clear h hf hx
  by_cases hc : mE ≤ e
  · go_enter Try.func11, Try.ntmps11
    go_wp2
    go_region
    go_wp2
    go_ret
    exact ⟨by simp [entryErr, hc], by simp only [entryNext, hc, if_true]; exact H.out, (Only.refl _ _).drew⟩
  · have q1 := Lib.hid (show entryNext mE e = e + 1 from if_neg hc)
    have hn : e + 1 ≤ 9223372036854775807 := by have := HX.out; unfold IsInt at this; omega
    have hn2 : -9223372036854775808 ≤ e + 1 := by have := HF.out; unfold Fine at this; omega
    go_enter Try.func11, Try.ntmps11
    go_wp2
    go_region
    go_wp2
    go_ret
    refine ⟨by simp [entryErr, hc], ?_, (Only.refl _ _).drew.set _ _⟩
    rw [q1.out]
    exact Mt.setE H.out (e + 1)

theorem bytes_calls (w : World) (M : Nat) (mE mB e b n : Int) (h : Mt w M mE mB e b) (hx : IsInt mB) (hf : Fine b) (hi : IsInt n) :
    Calls Try.prog 10 #[.pointer (some ⟨M, 0, none⟩), .int .i64 n] w fun x w' => x = .returned (.int .i64 (bytesErr mB b n)) ∧ Mt w' M mE mB e (bytesNext mB b n) ∧ Only M w w' := by
  have c1 := Blk.cell h 1
  have c3 := Blk.cell h 3
  simp [meterCells] at c1 c3
  have f3 := Blk.free h 3
  have H := Lib.hid h
  unfold IsInt at hx hi
  unfold Fine at hf
  have HF := Lib.hid hf
  have HX := Lib.hid hx
  have HI := Lib.hid hi
  clear h hf hx hi
  by_cases hc : n < 0
  · have q1 := Lib.hid (show bytesErr mB b n = 11 from if_pos hc)
    have q2 := Lib.hid (show bytesNext mB b n = b from if_pos hc)
    go_enter Try.func10, Try.ntmps10
    go_wp2
    go_ret
    exact ⟨by rw [q1.out]; rfl, by rw [q2.out]; exact H.out, Only.refl _ _⟩
  by_cases hd : mB < b
  · have q1 := Lib.hid (show bytesErr mB b n = 201 from (if_neg hc).trans (if_pos hd))
    have q2 := Lib.hid (show bytesNext mB b n = b from (if_neg hc).trans (if_pos hd))
    have d1 : decide (mB < b) = true := by simp [hd]
    go_enter Try.func10, Try.ntmps10
    go_wp2
    go_quiet (fail)
    all_goals go_wp2
    all_goals go_ret
    all_goals exact ⟨by rw [q1.out]; rfl, by rw [q2.out]; exact Blk.drawn H.out ⟨_, rfl⟩, Only.drawn ⟨_, rfl⟩⟩
  have k1 : mB - b ≤ 9223372036854775807 := by have := HX.out; have := HF.out; omega
  have k2 : -9223372036854775808 ≤ mB - b := by have := HX.out; have := HF.out; omega
  by_cases hg : mB - b < n
  · have q1 := Lib.hid (show bytesErr mB b n = 201 from (if_neg hc).trans ((if_neg hd).trans (if_pos hg)))
    have q2 := Lib.hid (show bytesNext mB b n = b from (if_neg hc).trans ((if_neg hd).trans (if_pos hg)))
    have d1 : decide (mB < b) = false := by simp [hd]
    go_enter Try.func10, Try.ntmps10
    go_wp2
    go_quiet (fail)
    all_goals go_wp2
    all_goals go_ret
    all_goals exact ⟨by rw [q1.out]; rfl, by rw [q2.out]; exact Blk.drawn H.out ⟨_, rfl⟩, Only.drawn ⟨_, rfl⟩⟩
  · have q1 := Lib.hid (show bytesErr mB b n = 0 from (if_neg hc).trans ((if_neg hd).trans (if_neg hg)))
    have q2 := Lib.hid (show bytesNext mB b n = b + n from (if_neg hc).trans ((if_neg hd).trans (if_neg hg)))
    have k3 : b + n ≤ 9223372036854775807 := by have := HX.out; omega
    have k4 : -9223372036854775808 ≤ b + n := by have := HF.out; omega
    have d1 : decide (mB < b) = false := by simp [hd]
    go_enter Try.func10, Try.ntmps10
    go_wp2
    go_quiet (fail)
    all_goals go_wp2
    all_goals go_ret
    all_goals refine ⟨by rw [q1.out]; rfl, ?_, (Only.drawn ⟨_, rfl⟩).set _ _⟩
    all_goals rw [q2.out]
    all_goals exact Mt.setB (Blk.drawn H.out ⟨_, rfl⟩) (b + n)
end Go.Proofs.Ytejeepmcoafdcaa
