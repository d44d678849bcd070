/-
  The walk of perms.Text. Conditions: the arguments are ints.
-/
import Derived.Test.YtbkclmpopofebaaDoorTextPlain
import Derived.Test.YtbkclmpopofebaaDoorLaw
import Derived.WalkSpells
import Derived.Lib.Hide
import Derived.WalkLawsBesides
namespace Go.Proofs.YtbkclmpopofebaaDoor
open Go.RowKit

def badText (w : World) (e : Ending) (w' : World) : Prop := e = .returned (.tuple #[.string ⟨#[]⟩, .int .i64 120]) ∧ w = w'
def goodText (l : List UInt8) (w : World) (e : Ending) (w' : World) : Prop := e = .returned (.tuple #[.string ⟨l.toArray⟩, .int .i64 0]) ∧ Below w.heap.size w w'

theorem text_bad (kd m : Int) (hm : -9223372036854775808 ≤ m ∧ m ≤ 9223372036854775807) (h : ¬ (1 ≤ kd ∧ kd ≤ 5 ∧ 0 ≤ m ∧ m ≤ 4095)) (w : World) :
    Calls Tryd.prog 8 #[.int .i64 kd, .int .i64 m] w (badText w) := by
  by_cases h1 : kd < 1
  · go_enter Tryd.func8, Tryd.ntmps8
    go_wp2
    go_ret2
    exact ⟨rfl, rfl⟩
  · by_cases h2 : 5 < kd
    · go_enter Tryd.func8, Tryd.ntmps8
      go_wp2
      go_ret2
      exact ⟨rfl, rfl⟩
    · have h3 : ¬ bits .andNot .i64 m 4095 = 0 := by rw [valid_iff hm]; omega
      clear h
      go_enter Tryd.func8, Tryd.ntmps8
      go_wp2
      go_ret2
      exact ⟨rfl, rfl⟩

set_option maxHeartbeats 2000000 in
theorem text_good (kd m : Int) (hk1 : 1 ≤ kd) (hk2 : kd ≤ 5) (hm1 : 0 ≤ m) (hm2 : m ≤ 4095) (w : World) :
    Calls Tryd.prog 8 #[.int .i64 kd, .int .i64 m] w (goodText (textL kd m) w) := by
  have hv : bits .andNot .i64 m 4095 = 0 := (valid_iff (by omega)).2 ⟨hm1, hm2⟩
  have h5 : kd.toNat - 1 < 5 := by omega
  have hkb : ((⟨#[45, 100, 108, 104, 63]⟩ : ByteArray)[kd.toNat - 1]'h5) = kb kd := by
    rcases (show kd = 1 ∨ kd = 2 ∨ kd = 3 ∨ kd = 4 ∨ kd = 5 by omega) with rfl | rfl | rfl | rfl | rfl <;> rfl
  have HK := Lib.hid hkb; clear hkb
  go_enter Tryd.func8, Tryd.ntmps8
  go_wp2
  go_loopw [27] (fun i wr => ∃ k : Nat, k ≤ 9 ∧ i = .int .i64 k ∧ wr = w.alloc (.cells (bytesArr (tL (kb kd) m k)) 37)) (fun i _ => 9 - (intOf i).toNat)
  case atStart => exact ⟨0, by omega, rfl, by rw [tL_zero, ← HK.out]; rfl⟩
  case round =>
    obtain ⟨k, hk, rfl, rfl⟩ := hrel
    by_cases hlt : k < 9
    · have ht := shr_test (m := m) k hm1 hm2
      have g1 := bytesArr_getD (tL (kb kd) m k) (9 - k) (by rw [tL_len]; omega)
      have g2 : ((bytesArr (tL (kb kd) m k)).setIfInBounds (9 - k) (.int .u8 45))[9 - k]? = some (.int .u8 45) := bytesArr_set_get (tL (kb kd) m k) (9 - k) 45 (by rw [tL_len]; omega)
      cases hb : bt m k
      · rw [hb] at ht
        have HB := Lib.hid hb; clear hb
        go_wp2
        refine ⟨⟨k + 1, by omega, by go_num, ?_⟩, by simp [intOf]; omega⟩
        exact congrArg (fun a => w.alloc (.cells a 37)) (tL_set (kb kd) m k hlt 45 (lb_no HB.out))
      · rw [hb] at ht
        have HB := Lib.hid hb; clear hb
        go_wp2
        refine ⟨⟨k + 1, by omega, by go_num, ?_⟩, by simp [intOf]; omega⟩
        exact congrArg (fun a => w.alloc (.cells a 37)) (tL_set (kb kd) m k hlt _ ((rwx_get k (by omega)).trans (lb_yes HB.out)))
    · have : k = 9 := by omega
      subst this
      go_wp2
      go_loopw [46] (fun i wr => ∃ k : Nat, k ≤ 3 ∧ i = .int .i64 k ∧ wr = w.alloc (.cells (bytesArr (sL (kb kd) m k)) 37)) (fun i _ => 3 - (intOf i).toNat)
      case atStart => exact ⟨0, by omega, rfl, by rw [tL_end]⟩
      case round =>
        obtain ⟨k, hk, rfl, rfl⟩ := hrel
        by_cases hlt : k < 3
        · rcases (show k = 0 ∨ k = 1 ∨ k = 2 by omega) with rfl | rfl | rfl
          · have ix : ∀ w1 : World, (Instr.index 38 (.agg #[.int .i64 2048, .int .i64 1024, .int .i64 512]) (.int .i64 0)).run Tryd.prog w1 = .ok (.int .i64 2048) w1 := fun _ => by kernel_rfl
            cases hb : bt m 11
            · have ht : bits .and .i64 m 2048 = 0 := (and_test 11 (by omega)).2 hb
              have HB := Lib.hid hb; clear hb
              go_wp2
              refine ⟨⟨1, by omega, by go_num, ?_⟩, by simp [intOf]⟩
              exact congrArg (fun a => w.alloc (.cells (bytesArr a) 37)) (sL_no (kb kd) m 0 (by omega) HB.out)
            · have ht : (bits .and .i64 m 2048 == 0) = false := by
                have := mt (and_test (x := m) 11 (by omega)).1 (by rw [hb]; simp)
                simpa using this
              cases hx : bt m 6
              · have g := sL_at (kb kd) m 0 (by omega) 45 (lb_no hx).symm
                have HB := Lib.hid hb; clear hb
                have HX := Lib.hid hx; clear hx
                simp only [Nat.reduceAdd, Nat.reduceMul] at g
                go_wp2
                refine ⟨⟨1, by omega, by go_num, ?_⟩, by simp [intOf]⟩
                exact congrArg (fun a => w.alloc (.cells a 37)) (sL_set (kb kd) m 0 (by omega) 83 (by simp only [sp, Nat.reduceSub, Nat.reduceMul]; rw [HB.out, HX.out]; rfl))
              · have g := sL_at (kb kd) m 0 (by omega) 120 (lb_yes hx).symm
                have HB := Lib.hid hb; clear hb
                have HX := Lib.hid hx; clear hx
                simp only [Nat.reduceAdd, Nat.reduceMul] at g
                go_wp2
                refine ⟨⟨1, by omega, by go_num, ?_⟩, by simp [intOf]⟩
                exact congrArg (fun a => w.alloc (.cells a 37)) (sL_set (kb kd) m 0 (by omega) 115 (by simp only [sp, Nat.reduceSub, Nat.reduceMul]; rw [HB.out, HX.out]; rfl))
          · have ix : ∀ w1 : World, (Instr.index 38 (.agg #[.int .i64 2048, .int .i64 1024, .int .i64 512]) (.int .i64 1)).run Tryd.prog w1 = .ok (.int .i64 1024) w1 := fun _ => by kernel_rfl
            cases hb : bt m 10
            · have ht : bits .and .i64 m 1024 = 0 := (and_test 10 (by omega)).2 hb
              have HB := Lib.hid hb; clear hb
              go_wp2
              refine ⟨⟨2, by omega, by go_num, ?_⟩, by simp [intOf]⟩
              exact congrArg (fun a => w.alloc (.cells (bytesArr a) 37)) (sL_no (kb kd) m 1 (by omega) HB.out)
            · have ht : (bits .and .i64 m 1024 == 0) = false := by
                have := mt (and_test (x := m) 10 (by omega)).1 (by rw [hb]; simp)
                simpa using this
              cases hx : bt m 3
              · have g := sL_at (kb kd) m 1 (by omega) 45 (lb_no hx).symm
                have HB := Lib.hid hb; clear hb
                have HX := Lib.hid hx; clear hx
                simp only [Nat.reduceAdd, Nat.reduceMul] at g
                go_wp2
                refine ⟨⟨2, by omega, by go_num, ?_⟩, by simp [intOf]⟩
                exact congrArg (fun a => w.alloc (.cells a 37)) (sL_set (kb kd) m 1 (by omega) 83 (by simp only [sp, Nat.reduceSub, Nat.reduceMul]; rw [HB.out, HX.out]; rfl))
              · have g := sL_at (kb kd) m 1 (by omega) 120 (lb_yes hx).symm
                have HB := Lib.hid hb; clear hb
                have HX := Lib.hid hx; clear hx
                simp only [Nat.reduceAdd, Nat.reduceMul] at g
                go_wp2
                refine ⟨⟨2, by omega, by go_num, ?_⟩, by simp [intOf]⟩
                exact congrArg (fun a => w.alloc (.cells a 37)) (sL_set (kb kd) m 1 (by omega) 115 (by simp only [sp, Nat.reduceSub, Nat.reduceMul]; rw [HB.out, HX.out]; rfl))
          · have ix : ∀ w1 : World, (Instr.index 38 (.agg #[.int .i64 2048, .int .i64 1024, .int .i64 512]) (.int .i64 2)).run Tryd.prog w1 = .ok (.int .i64 512) w1 := fun _ => by kernel_rfl
            cases hb : bt m 9
            · have ht : bits .and .i64 m 512 = 0 := (and_test 9 (by omega)).2 hb
              have HB := Lib.hid hb; clear hb
              go_wp2
              refine ⟨⟨3, by omega, by go_num, ?_⟩, by simp [intOf]⟩
              exact congrArg (fun a => w.alloc (.cells (bytesArr a) 37)) (sL_no (kb kd) m 2 (by omega) HB.out)
            · have ht : (bits .and .i64 m 512 == 0) = false := by
                have := mt (and_test (x := m) 9 (by omega)).1 (by rw [hb]; simp)
                simpa using this
              cases hx : bt m 0
              · have g := sL_at (kb kd) m 2 (by omega) 45 (lb_no hx).symm
                have HB := Lib.hid hb; clear hb
                have HX := Lib.hid hx; clear hx
                simp only [Nat.reduceAdd, Nat.reduceMul] at g
                go_wp2
                refine ⟨⟨3, by omega, by go_num, ?_⟩, by simp [intOf]⟩
                exact congrArg (fun a => w.alloc (.cells a 37)) (sL_set (kb kd) m 2 (by omega) 84 (by simp only [sp, Nat.reduceSub, Nat.reduceMul]; rw [HB.out, HX.out]; rfl))
              · have g := sL_at (kb kd) m 2 (by omega) 120 (lb_yes hx).symm
                have HB := Lib.hid hb; clear hb
                have HX := Lib.hid hx; clear hx
                simp only [Nat.reduceAdd, Nat.reduceMul] at g
                go_wp2
                refine ⟨⟨3, by omega, by go_num, ?_⟩, by simp [intOf]⟩
                exact congrArg (fun a => w.alloc (.cells a 37)) (sL_set (kb kd) m 2 (by omega) 116 (by simp only [sp, Nat.reduceSub, Nat.reduceMul]; rw [HB.out, HX.out]; rfl))
        · have : k = 3 := by omega
          subst this
          have hconv := conv_block (P := Tryd.prog) w 37 39 9 5 (sL (kb kd) m 3) 10 10 (sL_len _ _ _) Tryd.underlying39 Tryd.underlying5 Tryd.underlying9
          have hz := bytesArr_size (sL (kb kd) m 3)
          rw [sL_len] at hz
          go_wp2
          go_ret2
          exact ⟨rfl, (Below.refl _ _).alloc (Nat.le_refl _) _⟩

end Go.Proofs.YtbkclmpopofebaaDoor
