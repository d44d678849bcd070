/-
  The walks of the program's and the document's Check of a configuration.
-/
import Derived.Test.YtejeepmcoafdcaaQuotaCfg
import Derived.Test.YtejeepmcoafdcaaChecks
import Derived.Test.YtejeepmcoafdcaaBlk
import Derived.Deep.LoopGhost
namespace Go.Proofs.Ytejeepmcoafdcaa
open Go.RowKit
set_option linter.unusedVariables false

/-- the first list's first fault -/
def firstErr : List ByteArray → Int
  | [] => 0
  | p :: r => if checkErr p.data.toList = 0 then firstErr r else checkErr p.data.toList
theorem firstErr_cons (p : ByteArray) (r : List ByteArray) : firstErr (p :: r) = if checkErr p.data.toList = 0 then firstErr r else checkErr p.data.toList := rfl
theorem firstErr_append : ∀ (a b : List ByteArray), firstErr (a ++ b) = if firstErr a = 0 then firstErr b else firstErr a
  | [], b => by simp [firstErr]
  | p :: r, b => by
    have e3 := firstErr_append r b
    by_cases h : checkErr p.data.toList = 0
    · have e1 : firstErr (p :: r) = firstErr r := by rw [firstErr_cons, if_pos h]
      have e2 : firstErr ((p :: r) ++ b) = firstErr (r ++ b) := by rw [List.cons_append, firstErr_cons, if_pos h]
      rw [e1, e2, e3]
    · have e1 : firstErr (p :: r) = checkErr p.data.toList := by rw [firstErr_cons, if_neg h]
      have e2 : firstErr ((p :: r) ++ b) = checkErr p.data.toList := by rw [List.cons_append, firstErr_cons, if_neg h]
      rw [e1, e2, if_neg h]
theorem firstErr_one (p : ByteArray) : firstErr [p] = checkErr p.data.toList := by
  unfold firstErr
  by_cases h : checkErr p.data.toList = 0
  · rw [if_pos h, h]; rfl
  · rw [if_neg h]
theorem firstErr_next {xs : List ByteArray} {k : Nat} {p : ByteArray} (hp : xs[k]? = some p) (h : firstErr (xs.take k) = 0) : firstErr (xs.take (k + 1)) = checkErr p.data.toList := by
  rw [List.take_add_one, hp, firstErr_append, if_pos h]
  exact firstErr_one p
theorem firstErr_at {xs : List ByteArray} {k : Nat} {p : ByteArray} (hp : xs[k]? = some p) (h : firstErr (xs.take k) = 0) (hc : checkErr p.data.toList ≠ 0) : firstErr xs = checkErr p.data.toList := by
  have := firstErr_append (xs.take (k + 1)) (xs.drop (k + 1))
  rw [List.take_append_drop, firstErr_next hp h, if_neg hc] at this
  exact this
def cfgBs (c : CfgV) : List Bd := [(c.n0, 0, 65536), (c.n1, 0, 1099511627776), (c.n2, 1, 64), (c.n3, 1, 4096), (c.n4, 0, 1048576), (c.n5, 0, 64), (c.n6, 0, 2), (c.n7, 0, 2), (c.n8, 0, 511)]
def cfgErr (c : CfgV) : Int := if (cfgBs c).all inB = true then firstErr (c.inc ++ c.exc) else 202
theorem arr2 : Try.prog.underlying 56 = some (.array 2 22) := by kernel_rfl
theorem run_pair0 (a1 a2 : Option Addr) (n1 c1 n2 c2 : Nat) (w : World) : (Instr.index 56 (.agg #[.slice a1 n1 c1, .slice a2 n2 c2]) (.int .i64 0)).run Try.prog w = .ok (.slice a1 n1 c1) w := by
  simp [Instr.index, run_underlying arr2, asIntOf, go_sem]
theorem run_pair1 (a1 a2 : Option Addr) (n1 c1 n2 c2 : Nat) (w : World) : (Instr.index 56 (.agg #[.slice a1 n1 c1, .slice a2 n2 c2]) (.int .i64 1)).run Try.prog w = .ok (.slice a2 n2 c2) w := by
  simp [Instr.index, run_underlying arr2, asIntOf, go_sem]
theorem rdB_lit (w : World) (bs : List Bd) (T : TypeId) (N : Nat) (hN : N = w.heap.size) (h : bs.length ≤ 1000) :
    RdM (w.alloc (.cells (bs.flatMap encB).toArray T)) 3 encB (.slice (some ⟨N, 0, none⟩) bs.length bs.length) bs := by
  subst hN
  refine ⟨_, bs.length, rfl, Nat.le_refl _, by unfold maxLen; omega, (fun h => by cases h), fun _ => ⟨_, 0, rfl, by simp, fun i hi j hj => ?_⟩⟩
  rw [Nat.zero_add, World.cell?_alloc_at _ _ _ _ rfl]
  rw [List.getElem?_toArray]
  exact flat_get (size := 3) (fun _ => rfl) bs i j hi hj

theorem refIn_calls (w : World) (v lo hi : Int) : Calls Try.prog 25 #[.int .i64 v, .int .i64 lo, .int .i64 hi] w fun e w' => e = .returned (.bool (inB (v, lo, hi))) ∧ w' = w := by
  by_cases h1 : lo ≤ v
  · by_cases h2 : v ≤ hi
    · have e := Lib.hid (show inB (v, lo, hi) = true from by unfold inB; simp only; rw [decide_eq_true h1, decide_eq_true h2]; rfl)
      go_enter Try.func25, Try.ntmps25
      go_wp2
      go_ret
      exact ⟨by rw [e.out]; rfl, rfl⟩
    · have e := Lib.hid (show inB (v, lo, hi) = false from by unfold inB; simp only; rw [decide_eq_false h2, Bool.and_false])
      go_enter Try.func25, Try.ntmps25
      go_wp2
      go_ret
      exact ⟨by rw [e.out]; rfl, rfl⟩
  · have e := Lib.hid (show inB (v, lo, hi) = false from by unfold inB; simp only; rw [decide_eq_false h1, Bool.false_and])
    go_enter Try.func25, Try.ntmps25
    go_wp2
    go_ret
    exact ⟨by rw [e.out]; rfl, rfl⟩

set_option maxHeartbeats 4000000 in
theorem quotaCheck_calls (w : World) (c : CfgV) (h1 : Rd w strE c.v11 c.inc) (h2 : Rd w strE c.v12 c.exc) (hs : ∀ p ∈ c.inc ++ c.exc, p.size ≤ 140737488351232) :
    Calls Try.prog 16 #[c.val] w fun e w' => e = .returned (.int .i64 (cfgErr c)) ∧ Below w.heap.size w w' := by
  obtain ⟨n0, n1, n2, n3, n4, n5, n6, n7, n8, b9, b10, v11, v12, inc, exc⟩ := c
  simp only at h1 h2 hs
  unfold CfgV.val
  simp only
  obtain ⟨ao, c, rfl⟩ := h1.any
  obtain ⟨ao2, c2, rfl⟩ := h2.any
  have R1 := Lib.hid h1
  have R2 := Lib.hid h2
  have S := Lib.hid hs
  clear h1 h2 hs
  go_enter Try.func16, Try.ntmps16
  have l1 : inc.length ≤ 9223372036854775807 := R1.out.len
  have l2 : exc.length ≤ 9223372036854775807 := R2.out.len
  obtain ⟨bs, hbs⟩ : ∃ bs, bs = cfgBs ⟨n0, n1, n2, n3, n4, n5, n6, n7, n8, b9, b10, .slice ao inc.length c, .slice ao2 exc.length c2, inc, exc⟩ := ⟨_, rfl⟩
  obtain ⟨er, her⟩ : ∃ er, er = cfgErr ⟨n0, n1, n2, n3, n4, n5, n6, n7, n8, b9, b10, .slice ao inc.length c, .slice ao2 exc.length c2, inc, exc⟩ := ⟨_, rfl⟩
  have ER := Lib.hid (show er = if bs.all inB = true then firstErr (inc ++ exc) else 202 from by rw [her, hbs]; rfl)
  rw [← her]
  have BS := Lib.hid hbs
  clear hbs her
  generalize hn : inc.length = n at *
  generalize hm : exc.length = m at *
  have HN := Lib.hid hn
  have HM := Lib.hid hm
  clear hn hm
  have WC := Lib.hid (fun (wz : World) (T : TypeId) (N : Nat) (hN : N = wz.heap.size) => show Calls Try.prog 22 #[.slice (some ⟨N, 0, none⟩) 9 9] (wz.alloc (.cells #[.int .i64 n0, .int .i64 0, .int .i64 65536, .int .i64 n1, .int .i64 0, .int .i64 1099511627776, .int .i64 n2, .int .i64 1, .int .i64 64, .int .i64 n3, .int .i64 1, .int .i64 4096, .int .i64 n4, .int .i64 0, .int .i64 1048576, .int .i64 n5, .int .i64 0, .int .i64 64, .int .i64 n6, .int .i64 0, .int .i64 2, .int .i64 n7, .int .i64 0, .int .i64 2, .int .i64 n8, .int .i64 0, .int .i64 511] T)) fun e w' => e = .returned (.bool (bs.all inB)) ∧ Below (wz.alloc (.cells #[.int .i64 n0, .int .i64 0, .int .i64 65536, .int .i64 n1, .int .i64 0, .int .i64 1099511627776, .int .i64 n2, .int .i64 1, .int .i64 64, .int .i64 n3, .int .i64 1, .int .i64 4096, .int .i64 n4, .int .i64 0, .int .i64 1048576, .int .i64 n5, .int .i64 0, .int .i64 64, .int .i64 n6, .int .i64 0, .int .i64 2, .int .i64 n7, .int .i64 0, .int .i64 2, .int .i64 n8, .int .i64 0, .int .i64 511] T)).heap.size (wz.alloc (.cells #[.int .i64 n0, .int .i64 0, .int .i64 65536, .int .i64 n1, .int .i64 0, .int .i64 1099511627776, .int .i64 n2, .int .i64 1, .int .i64 64, .int .i64 n3, .int .i64 1, .int .i64 4096, .int .i64 n4, .int .i64 0, .int .i64 1048576, .int .i64 n5, .int .i64 0, .int .i64 64, .int .i64 n6, .int .i64 0, .int .i64 2, .int .i64 n7, .int .i64 0, .int .i64 2, .int .i64 n8, .int .i64 0, .int .i64 511] T)) w' from by
    have := within_calls _ _ bs (rdB_lit wz bs T N hN (by rw [BS.out]; exact Nat.le_of_ble_eq_true rfl)) (by rw [BS.out]; exact Nat.le_of_ble_eq_true rfl)
    rw [BS.out] at this ⊢
    exact this)
  go_wp2_with fail
  refine (WC.out _ _ _ (by simp)).mono ?_
  rintro e w2 ⟨rfl, hb⟩
  have nb := Blk.below (((Blk.new w #[.int .i64 n0, .int .i64 n1, .int .i64 n2, .int .i64 n3, .int .i64 n4, .int .i64 n5, .int .i64 n6, .int .i64 n7, .int .i64 n8, .bool b9, .bool b10, .slice ao n c, .slice ao2 m c2] 24)).alloc _) hb (by simp; omega)
  have q11 := nb.cell 11
  have q12 := nb.cell 12
  simp at q11 q12
  clear nb
  have XB := Lib.hid (Below.next (((Below.refl _ w).alloc (Nat.le_refl _) _).alloc (by simp) _) hb)
  clear hb WC BS
  cases hall : bs.all inB with
  | false =>
    have AN := Lib.hid (show er = 202 from by rw [ER.out, if_neg (by rw [hall]; decide)])
    go_wp2_with fail
    go_ret
    exact ⟨by rw [AN.out]; rfl, XB.out⟩
  | true =>
    have AN := Lib.hid (show er = firstErr (inc ++ exc) from by rw [ER.out, if_pos hall])
    clear ER hall
    go_wp2_with fail
    clear q11 q12
    go_loopg [4, 6, 7, 43] 2 (fun g s4 s6 s7 s43 wr => ∃ k : Nat, k ≤ 2 ∧ 2 - k ≤ g ∧ s43 = .int .i64 k ∧ (1 ≤ k → firstErr inc = 0) ∧ (2 ≤ k → firstErr exc = 0) ∧ Below w.heap.size w wr)
    case atStart => exact ⟨0, Nat.zero_le _, by omega, rfl, fun h => absurd h (by omega), fun h => absurd h (by omega), XB.out⟩
    case round =>
      obtain ⟨k, hk, hg, rfl, hf1, hf2, hX⟩ := hrel
      have XC := Lib.hid hX
      have F1 := Lib.hid hf1
      have F2 := Lib.hid hf2
      clear hX hf1 hf2 XB
      rename Hid (Below w.heap.size w _) => XB
      obtain rfl | rfl | rfl : k = 0 ∨ k = 1 ∨ k = 2 := by omega
      · clear F1 F2
        have IX := run_pair0 ao ao2 n c m c2 wr
        go_wp2_with fail
        clear IX
        go_loopg [6, 7, 48] n (fun g s6 s7 s48 wr => ∃ j : Nat, j ≤ n ∧ n - j ≤ g ∧ s48 = .int .i64 j ∧ firstErr (inc.take j) = 0 ∧ Below w.heap.size w wr)
        case atStart => exact ⟨0, Nat.zero_le _, by omega, rfl, rfl, XB.out⟩
        case round =>
          obtain ⟨j, hj, hg, rfl, hno, hX⟩ := hrel
          have XB := Lib.hid hX
          clear hX
          have NO := Lib.hid hno
          clear hno
          by_cases hjn : j < n
          · have hkx : j < inc.length := by rw [HN.out]; exact hjn
            obtain ⟨p, hp⟩ : ∃ p, p = inc[j] := ⟨_, rfl⟩
            have PX := Lib.hid (show inc[j]? = some p from by rw [hp, List.getElem?_eq_getElem hkx])
            have RD := Lib.hid (R1.out.below XB.out)
            obtain ⟨⟨b, o, rfl, hcl⟩⟩ : Nonempty (∃ b o, ao = some ⟨b, o, none⟩ ∧ wr.cell? ⟨b, o + j, none⟩ = some (.string p)) := by
              obtain ⟨ao', c', hv, h1, h2, h3, h4⟩ := RD.out
              cases hv
              obtain ⟨b, o, ha, hc⟩ := h4 (fun e => by rw [e] at hkx; simp at hkx)
              exact ⟨b, o, ha, by rw [hc j hkx, hp]⟩
            clear hp hkx
            have h0 : (0 : Int) ≤ (j : Int) := by omega
            have h1 : (j : Int) < (n : Int) := by omega
            have CC := Lib.hid (check_calls wr p (S.out p (List.mem_append_left _ (List.mem_of_getElem? PX.out))))
            go_wp2_with fail
            refine CC.out.mono ?_
            rintro e w2 ⟨rfl, hb⟩
            have X2 := Lib.hid (XB.out.trans (hb.mono XB.out.size))
            clear hb CC
            by_cases hc : checkErr p.data.toList = 0
            · have NX := Lib.hid (show firstErr (inc.take (j + 1)) = 0 from by rw [firstErr_next PX.out NO.out]; exact hc)
              rw [hc]
              clear hc
              go_wp2_with fail
              go_roundg (n - (j + 1))
              case measure => omega
              case rel => exact ⟨j + 1, by omega, by omega, by go_num, NX.out, X2.out⟩
            · have t1 : (checkErr p.data.toList != 0) = true := by simpa [bne] using hc
              have CE := Lib.hid (show firstErr (inc ++ exc) = checkErr p.data.toList from by
                have := firstErr_at PX.out NO.out hc
                rw [firstErr_append, if_neg (by rw [this]; exact hc)]; exact this)
              have HCN := Lib.hid hc
              clear hc
              go_wp2_with fail
              go_ret
              exact ⟨by rw [AN.out, CE.out]; rfl, X2.out⟩
          · obtain rfl : j = n := by omega
            have FE := Lib.hid (show firstErr inc = 0 from by
              have := NO.out
              rw [← HN.out, List.take_length] at this
              exact this)
            clear NO
            go_wp2_with fail
            go_roundg 1
            case measure => omega
            case rel => exact ⟨1, by omega, by omega, by go_num, fun _ => FE.out, fun h => absurd h (by omega), XB.out⟩
      · replace F1 := Lib.hid (F1.out (by omega))
        clear F2
        have IX := run_pair1 ao ao2 n c m c2 wr
        go_wp2_with fail
        clear IX
        go_loopg [6, 7, 48] m (fun g s6 s7 s48 wr => ∃ j : Nat, j ≤ m ∧ m - j ≤ g ∧ s48 = .int .i64 j ∧ firstErr (exc.take j) = 0 ∧ Below w.heap.size w wr)
        case atStart => exact ⟨0, Nat.zero_le _, by omega, rfl, rfl, XB.out⟩
        case round =>
          obtain ⟨j, hj, hg, rfl, hno, hX⟩ := hrel
          have XB := Lib.hid hX
          clear hX
          have NO := Lib.hid hno
          clear hno
          by_cases hjn : j < m
          · have hkx : j < exc.length := by rw [HM.out]; exact hjn
            obtain ⟨p, hp⟩ : ∃ p, p = exc[j] := ⟨_, rfl⟩
            have PX := Lib.hid (show exc[j]? = some p from by rw [hp, List.getElem?_eq_getElem hkx])
            have RD := Lib.hid (R2.out.below XB.out)
            obtain ⟨⟨b, o, rfl, hcl⟩⟩ : Nonempty (∃ b o, ao2 = some ⟨b, o, none⟩ ∧ wr.cell? ⟨b, o + j, none⟩ = some (.string p)) := by
              obtain ⟨ao', c', hv, h1, h2, h3, h4⟩ := RD.out
              cases hv
              obtain ⟨b, o, ha, hc⟩ := h4 (fun e => by rw [e] at hkx; simp at hkx)
              exact ⟨b, o, ha, by rw [hc j hkx, hp]⟩
            clear hp hkx
            have h0 : (0 : Int) ≤ (j : Int) := by omega
            have h1 : (j : Int) < (m : Int) := by omega
            have CC := Lib.hid (check_calls wr p (S.out p (List.mem_append_right _ (List.mem_of_getElem? PX.out))))
            go_wp2_with fail
            refine CC.out.mono ?_
            rintro e w2 ⟨rfl, hb⟩
            have X2 := Lib.hid (XB.out.trans (hb.mono XB.out.size))
            clear hb CC
            by_cases hc : checkErr p.data.toList = 0
            · have NX := Lib.hid (show firstErr (exc.take (j + 1)) = 0 from by rw [firstErr_next PX.out NO.out]; exact hc)
              rw [hc]
              clear hc
              go_wp2_with fail
              go_roundg (m - (j + 1))
              case measure => omega
              case rel => exact ⟨j + 1, by omega, by omega, by go_num, NX.out, X2.out⟩
            · have t1 : (checkErr p.data.toList != 0) = true := by simpa [bne] using hc
              have CE := Lib.hid (show firstErr (inc ++ exc) = checkErr p.data.toList from by
                have := firstErr_at PX.out NO.out hc
                rw [firstErr_append, if_pos F1.out]; exact this)
              have HCN := Lib.hid hc
              clear hc
              go_wp2_with fail
              go_ret
              exact ⟨by rw [AN.out, CE.out]; rfl, X2.out⟩
          · obtain rfl : j = m := by omega
            have FE := Lib.hid (show firstErr exc = 0 from by
              have := NO.out
              rw [← HM.out, List.take_length] at this
              exact this)
            clear NO
            go_wp2_with fail
            go_roundg 0
            case measure => omega
            case rel => exact ⟨2, by omega, by omega, by go_num, fun _ => F1.out, fun _ => FE.out, XB.out⟩
      · have CE := Lib.hid (show firstErr (inc ++ exc) = 0 from by rw [firstErr_append, if_pos (F1.out (by omega))]; exact F2.out (by omega))
        clear F1 F2
        go_wp2_with fail
        go_ret
        exact ⟨by rw [AN.out, CE.out]; rfl, XB.out⟩
end Go.Proofs.Ytejeepmcoafdcaa
