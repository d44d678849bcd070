/-
  The walk of the reference's Text. Conditions: the arguments are ints.
-/
import Derived.Test.YtbkclmpopofebaaText
import Derived.Test.YtbkclmpopofebaaOwn
namespace Go.Proofs.Ytbkclmpopofebaa
open Go.RowKit

theorem Try.info5 : (Try.prog.info? 5).map (fun i => (i.zero, i.size, i.bytes)) = some (some (.int .u8 0), 1, 1) := by kernel_rfl

theorem refText_bad (kd m : Int) (h : ¬ (1 ≤ kd ∧ kd ≤ 5 ∧ 0 ≤ m ∧ m ≤ 4095)) (w : World) :
    Calls Try.prog 14 #[.int .i64 kd, .int .i64 m] w (badText w) := by
  rcases (show kd < 1 ∨ 5 < kd ∨ ((¬ kd < 1 ∧ ¬ 5 < kd) ∧ m < 0) ∨ ((¬ kd < 1 ∧ ¬ 5 < kd) ∧ ¬ m < 0 ∧ 4095 < m) by omega) with h1 | h1 | ⟨⟨h1, h2⟩, h3⟩ | ⟨⟨h1, h2⟩, h3, h4⟩
  all_goals
    clear h
    go_enter Try.func14, Try.ntmps14
    go_wp2
    go_ret2
    exact ⟨rfl, rfl⟩

set_option maxHeartbeats 4000000 in
theorem refText_good (kd m : Int) (hk1 : 1 ≤ kd) (hk2 : kd ≤ 5) (hm1 : 0 ≤ m) (hm2 : m ≤ 4095) (w : World) :
    Calls Try.prog 14 #[.int .i64 kd, .int .i64 m] w (goodText (textL kd m) w) := by
  have h5 : kd.toNat - 1 < 5 := by omega
  have hkb : ((⟨#[45, 100, 108, 104, 63]⟩ : ByteArray)[kd.toNat - 1]'h5) = kb kd := by
    rcases (show kd = 1 ∨ kd = 2 ∨ kd = 3 ∨ kd = 4 ∨ kd = 5 by omega) with rfl | rfl | rfl | rfl | rfl <;> rfl
  have HK := Lib.hid hkb; clear hkb
  go_enter Try.func14, Try.ntmps14
  go_wp2_with (at_builtin; refine wpList_push _ rfl (.tmp 29) (.tmp 33) 36 rfl w.heap.size 5 (.int .u8 0) 1 encB Try.underlying36 Try.info5 rfl _ [] ((⟨#[45, 100, 108, 104, 63]⟩ : ByteArray)[kd.toNat - 1]'h5) 0 rfl (own_empty _ _ _ _ (Nat.le_refl _)) rfl _ rfl (by simp) rfl (by omega) (by simp [maxLen]) (by simp) ?_; intro g cap w1 hown hb1)
  have hz1 : w.heap.size < w1.heap.size := hown.len.2.2.2.2 |> fun h => Nat.lt_of_le_of_lt hown.len.2.2.2.1 h
  go_loopw [6, 7, 9] (fun v bit i wr => ∃ (k n g cap : Nat), k ≤ 9 ∧ n = k + 1 ∧ i = .int .i64 k ∧ bit = .int .i64 (bitv k) ∧ v = .slice (some ⟨g, 0, none⟩) n cap ∧ Own wr w.heap.size 5 encB (.slice (some ⟨g, 0, none⟩) n cap) (uL (kb kd) m k) ∧ Below w.heap.size w wr) (fun _ _ i _ => 9 - (intOf i).toNat)
  case atStart => exact ⟨0, 1, g, cap, by omega, rfl, rfl, rfl, rfl, by rw [HK.out] at hown; exact hown, ((Below.refl _ _).alloc (Nat.le_refl _) _).trans hb1⟩
  case round =>
    obtain ⟨k, n, g, cap, hk, hn, rfl, rfl, rfl, hown, hb⟩ := hrel
    have hlen := uL_len (kb kd) m k hk
    have hsz := hb.size
    by_cases hlt : k < 9
    · subst hn
      have ⟨hge, hle⟩ := bitv_le k
      have ht := bitv_test (m := m) k hlt
      cases hbt : bt m (8 - k)
      · rw [hbt] at ht
        have HB := Lib.hid hbt; clear hbt
        have HL := Lib.hid hlen; clear hlen
        go_wp2_with (at_builtin; refine wpList_push _ rfl (.tmp 49) (.tmp 50) 36 rfl w.heap.size 5 (.int .u8 0) 1 encB Try.underlying36 Try.info5 rfl _ (uL (kb kd) m k) 45 (k + 1) rfl hown HL.out _ rfl rfl rfl (by omega) (by simp [maxLen]; omega) hsz ?_; intro g2 cap2 w2 hown2 hb2)
        refine ⟨⟨k + 1, k + 1 + 1, g2, cap2, by omega, rfl, by go_num, by rw [← bitv_succ], rfl, ?_, hb.trans hb2⟩, by simp [intOf]; omega⟩
        rw [uL_succ (kb kd) m k hlt 45 (lb_no HB.out)] at hown2
        exact hown2
      · rw [hbt] at ht
        have HB := Lib.hid hbt; clear hbt
        have HL := Lib.hid hlen; clear hlen
        go_wp2_with (at_builtin; refine wpList_push _ rfl (.tmp 43) (.tmp 47) 36 rfl w.heap.size 5 (.int .u8 0) 1 encB Try.underlying36 Try.info5 rfl _ (uL (kb kd) m k) ((⟨#[114, 119, 120, 114, 119, 120, 114, 119, 120]⟩ : ByteArray)[k]'hlt) (k + 1) rfl hown HL.out _ rfl rfl rfl (by omega) (by simp [maxLen]; omega) hsz ?_; intro g2 cap2 w2 hown2 hb2)
        refine ⟨⟨k + 1, k + 1 + 1, g2, cap2, by omega, rfl, by go_num, by rw [← bitv_succ], rfl, ?_, hb.trans hb2⟩, by simp [intOf]; omega⟩
        rw [uL_succ (kb kd) m k hlt _ ((rwx_get9 k hlt).trans (lb_yes HB.out))] at hown2
        exact hown2
    · have e9 : k = 9 := by omega
      subst e9
      have e10 : n = 10 := by omega
      subst e10
      clear hn hlen hk hlt
      have hg := hown.len.2.2.2.2
      have hBg := hown.len.2.2.2.1
      rw [uL_end] at hown
      obtain ⟨wo, rfl⟩ : ∃ wo : World, wo = wr := ⟨_, rfl⟩
      go_wp2
      go_loopw [13] (fun i wr => ∃ k : Nat, k ≤ 3 ∧ i = .int .i64 k ∧ Own wr w.heap.size 5 encB (.slice (some ⟨g, 0, none⟩) 10 cap) (sL (kb kd) m k) ∧ wr.cell? ⟨wo.heap.size, 0, none⟩ = some (.int .i64 2048) ∧ wr.cell? ⟨wo.heap.size, 1, none⟩ = some (.int .i64 1024) ∧ wr.cell? ⟨wo.heap.size, 2, none⟩ = some (.int .i64 512) ∧ Below w.heap.size w wr) (fun i _ => 3 - (intOf i).toNat)
      case atStart => exact ⟨0, by omega, rfl, hown.alloc _, by simp [go_sem], by simp [go_sem], by simp [go_sem], hb.alloc (by omega) _⟩
      case round =>
        obtain ⟨k, hk, rfl, hown, hc0, hc1, hc2, hb⟩ := hrel
        have hne : g ≠ wo.heap.size := by omega
        by_cases hlt : k < 3
        · rcases (show k = 0 ∨ k = 1 ∨ k = 2 by omega) with rfl | rfl | rfl
          · cases hbt : bt m 11
            · have ht : bits .and .i64 m 2048 = 0 := (and_test 11 (by omega)).2 hbt
              have HB := Lib.hid hbt; clear hbt
              have HO := Lib.hid hown; clear hown
              go_wp2
              refine ⟨⟨1, by omega, by go_num, ?_, hc0, hc1, hc2, hb⟩, by simp [intOf]⟩
              exact HO.out.keep (sL_no (kb kd) m 0 (by omega) HB.out)
            · have ht : (bits .and .i64 m 2048 == 0) = false := by
                have := mt (and_test (x := m) 11 (by omega)).1 (by rw [hbt]; simp)
                simpa using this
              have hf : wr.frozen? ⟨g, 3, none⟩ = false := hown.free 3
              cases hx : bt m 6
              · have gc : wr.cell? ⟨g, 3, none⟩ = some (.int .u8 45) := by
                  have := hown.cell 3 (by rw [sL_len]; omega)
                  rw [this]
                  exact congrArg (fun b : UInt8 => some (Value.int .u8 (b.toNat : Int))) (sL_at2 (kb kd) m 0 (by omega) 45 (lb_no hx).symm)
                have HB := Lib.hid hbt; clear hbt
                have HX := Lib.hid hx; clear hx
                have HO := Lib.hid hown; clear hown
                go_wp2
                refine ⟨⟨1, by omega, by go_num, ?_, (cell_other _ hne).trans hc0, (cell_other _ hne).trans hc1, (cell_other _ hne).trans hc2, hb.setCell hBg _⟩, by simp [intOf]⟩
                exact (HO.out.store 3 83).keep (sL_set2 (kb kd) m 0 (by omega) 83 (by simp only [sp, Nat.reduceSub, Nat.reduceMul]; rw [HB.out, HX.out]; rfl))
              · have gc : wr.cell? ⟨g, 3, none⟩ = some (.int .u8 120) := by
                  have := hown.cell 3 (by rw [sL_len]; omega)
                  rw [this]
                  exact congrArg (fun b : UInt8 => some (Value.int .u8 (b.toNat : Int))) (sL_at2 (kb kd) m 0 (by omega) 120 (lb_yes hx).symm)
                have HB := Lib.hid hbt; clear hbt
                have HX := Lib.hid hx; clear hx
                have HO := Lib.hid hown; clear hown
                go_wp2
                refine ⟨⟨1, by omega, by go_num, ?_, (cell_other _ hne).trans hc0, (cell_other _ hne).trans hc1, (cell_other _ hne).trans hc2, hb.setCell hBg _⟩, by simp [intOf]⟩
                exact (HO.out.store 3 115).keep (sL_set2 (kb kd) m 0 (by omega) 115 (by simp only [sp, Nat.reduceSub, Nat.reduceMul]; rw [HB.out, HX.out]; rfl))
          · cases hbt : bt m 10
            · have ht : bits .and .i64 m 1024 = 0 := (and_test 10 (by omega)).2 hbt
              have HB := Lib.hid hbt; clear hbt
              have HO := Lib.hid hown; clear hown
              go_wp2
              refine ⟨⟨2, by omega, by go_num, ?_, hc0, hc1, hc2, hb⟩, by simp [intOf]⟩
              exact HO.out.keep (sL_no (kb kd) m 1 (by omega) HB.out)
            · have ht : (bits .and .i64 m 1024 == 0) = false := by
                have := mt (and_test (x := m) 10 (by omega)).1 (by rw [hbt]; simp)
                simpa using this
              have hf : wr.frozen? ⟨g, 6, none⟩ = false := hown.free 6
              cases hx : bt m 3
              · have gc : wr.cell? ⟨g, 6, none⟩ = some (.int .u8 45) := by
                  have := hown.cell 6 (by rw [sL_len]; omega)
                  rw [this]
                  exact congrArg (fun b : UInt8 => some (Value.int .u8 (b.toNat : Int))) (sL_at2 (kb kd) m 1 (by omega) 45 (lb_no hx).symm)
                have HB := Lib.hid hbt; clear hbt
                have HX := Lib.hid hx; clear hx
                have HO := Lib.hid hown; clear hown
                go_wp2
                refine ⟨⟨2, by omega, by go_num, ?_, (cell_other _ hne).trans hc0, (cell_other _ hne).trans hc1, (cell_other _ hne).trans hc2, hb.setCell hBg _⟩, by simp [intOf]⟩
                exact (HO.out.store 6 83).keep (sL_set2 (kb kd) m 1 (by omega) 83 (by simp only [sp, Nat.reduceSub, Nat.reduceMul]; rw [HB.out, HX.out]; rfl))
              · have gc : wr.cell? ⟨g, 6, none⟩ = some (.int .u8 120) := by
                  have := hown.cell 6 (by rw [sL_len]; omega)
                  rw [this]
                  exact congrArg (fun b : UInt8 => some (Value.int .u8 (b.toNat : Int))) (sL_at2 (kb kd) m 1 (by omega) 120 (lb_yes hx).symm)
                have HB := Lib.hid hbt; clear hbt
                have HX := Lib.hid hx; clear hx
                have HO := Lib.hid hown; clear hown
                go_wp2
                refine ⟨⟨2, by omega, by go_num, ?_, (cell_other _ hne).trans hc0, (cell_other _ hne).trans hc1, (cell_other _ hne).trans hc2, hb.setCell hBg _⟩, by simp [intOf]⟩
                exact (HO.out.store 6 115).keep (sL_set2 (kb kd) m 1 (by omega) 115 (by simp only [sp, Nat.reduceSub, Nat.reduceMul]; rw [HB.out, HX.out]; rfl))
          · cases hbt : bt m 9
            · have ht : bits .and .i64 m 512 = 0 := (and_test 9 (by omega)).2 hbt
              have HB := Lib.hid hbt; clear hbt
              have HO := Lib.hid hown; clear hown
              go_wp2
              refine ⟨⟨3, by omega, by go_num, ?_, hc0, hc1, hc2, hb⟩, by simp [intOf]⟩
              exact HO.out.keep (sL_no (kb kd) m 2 (by omega) HB.out)
            · have ht : (bits .and .i64 m 512 == 0) = false := by
                have := mt (and_test (x := m) 9 (by omega)).1 (by rw [hbt]; simp)
                simpa using this
              have hf : wr.frozen? ⟨g, 9, none⟩ = false := hown.free 9
              cases hx : bt m 0
              · have gc : wr.cell? ⟨g, 9, none⟩ = some (.int .u8 45) := by
                  have := hown.cell 9 (by rw [sL_len]; omega)
                  rw [this]
                  exact congrArg (fun b : UInt8 => some (Value.int .u8 (b.toNat : Int))) (sL_at2 (kb kd) m 2 (by omega) 45 (lb_no hx).symm)
                have HB := Lib.hid hbt; clear hbt
                have HX := Lib.hid hx; clear hx
                have HO := Lib.hid hown; clear hown
                go_wp2
                refine ⟨⟨3, by omega, by go_num, ?_, (cell_other _ hne).trans hc0, (cell_other _ hne).trans hc1, (cell_other _ hne).trans hc2, hb.setCell hBg _⟩, by simp [intOf]⟩
                exact (HO.out.store 9 84).keep (sL_set2 (kb kd) m 2 (by omega) 84 (by simp only [sp, Nat.reduceSub, Nat.reduceMul]; rw [HB.out, HX.out]; rfl))
              · have gc : wr.cell? ⟨g, 9, none⟩ = some (.int .u8 120) := by
                  have := hown.cell 9 (by rw [sL_len]; omega)
                  rw [this]
                  exact congrArg (fun b : UInt8 => some (Value.int .u8 (b.toNat : Int))) (sL_at2 (kb kd) m 2 (by omega) 120 (lb_yes hx).symm)
                have HB := Lib.hid hbt; clear hbt
                have HX := Lib.hid hx; clear hx
                have HO := Lib.hid hown; clear hown
                go_wp2
                refine ⟨⟨3, by omega, by go_num, ?_, (cell_other _ hne).trans hc0, (cell_other _ hne).trans hc1, (cell_other _ hne).trans hc2, hb.setCell hBg _⟩, by simp [intOf]⟩
                exact (HO.out.store 9 116).keep (sL_set2 (kb kd) m 2 (by omega) 116 (by simp only [sp, Nat.reduceSub, Nat.reduceMul]; rw [HB.out, HX.out]; rfl))
        · have e3 : k = 3 := by omega
          subst e3
          have hconv := conv_own (P := Try.prog) (src := 36) (dst := 9) hown Try.underlying36 Try.underlying5 Try.underlying9
          go_wp2
          go_ret2
          exact ⟨rfl, hb⟩

end Go.Proofs.Ytbkclmpopofebaa
