/-
  The walk of the document's Check of a configuration.
-/
import Derived.Test.YtejeepmcoafdcaaQuotaCheck
namespace Go.Proofs.Ytejeepmcoafdcaa
open Go.RowKit
set_option linter.unusedVariables false

set_option maxRecDepth 100000 in
set_option maxHeartbeats 8000000 in
theorem refCfgCheck_calls (w : World) (c : CfgV) (h1 : Rd w strE c.v11 c.inc) (h2 : Rd w strE c.v12 c.exc) (hs : ∀ p ∈ c.inc ++ c.exc, p.size ≤ 140737488351232) :
    Calls Try.prog 18 #[c.val] w fun e w' => e = .returned (.int .i64 (cfgErr c)) ∧ Below w.heap.size w w' := by
  obtain ⟨n0, n1, n2, n3, n4, n5, n6, n7, n8, b9, b10, v11, v12, inc, exc⟩ := c
  simp only at h1 h2 hs
  unfold CfgV.val
  simp only
  obtain ⟨ao, c, rfl⟩ := h1.any
  obtain ⟨ao2, c2, rfl⟩ := h2.any
  have R1 := Lib.hid h1
  have R2 := Lib.hid h2
  have S := Lib.hid hs
  clear h1 h2 hs
  go_enter Try.func18, Try.ntmps18
  have l1 : inc.length ≤ 9223372036854775807 := R1.out.len
  have l2 : exc.length ≤ 9223372036854775807 := R2.out.len
  obtain ⟨er, her⟩ : ∃ er, er = cfgErr ⟨n0, n1, n2, n3, n4, n5, n6, n7, n8, b9, b10, .slice ao inc.length c, .slice ao2 exc.length c2, inc, exc⟩ := ⟨_, rfl⟩
  have ER := Lib.hid (show er = if ([(n0, 0, 65536), (n1, 0, 1099511627776), (n2, 1, 64), (n3, 1, 4096), (n4, 0, 1048576), (n5, 0, 64), (n6, 0, 2), (n7, 0, 2), (n8, 0, 511)] : List Bd).all inB = true then firstErr (inc ++ exc) else 202 from by rw [her]; rfl)
  rw [← her]
  clear her
  generalize hn : inc.length = n at *
  generalize hm : exc.length = m at *
  have HN := Lib.hid hn
  have HM := Lib.hid hm
  clear hn hm
  have XB := Lib.hid ((Below.refl w.heap.size w).alloc (Nat.le_refl _) (.cells #[.int .i64 n0, .int .i64 n1, .int .i64 n2, .int .i64 n3, .int .i64 n4, .int .i64 n5, .int .i64 n6, .int .i64 n7, .int .i64 n8, .bool b9, .bool b10, .slice ao n c, .slice ao2 m c2] 24))
  have NB := Lib.hid (Blk.new w #[.int .i64 n0, .int .i64 n1, .int .i64 n2, .int .i64 n3, .int .i64 n4, .int .i64 n5, .int .i64 n6, .int .i64 n7, .int .i64 n8, .bool b9, .bool b10, .slice ao n c, .slice ao2 m c2] 24)
  obtain ⟨bx, hbx⟩ : ∃ bx : Array Value, bx = #[.int .i64 n0, .int .i64 n1, .int .i64 n2, .int .i64 n3, .int .i64 n4, .int .i64 n5, .int .i64 n6, .int .i64 n7, .int .i64 n8, .bool b9, .bool b10, .slice ao n c, .slice ao2 m c2] := ⟨_, rfl⟩
  have BX := Lib.hid (show bx[11]? = some (.slice ao n c) ∧ bx[12]? = some (.slice ao2 m c2) from by rw [hbx]; exact ⟨rfl, rfl⟩)
  rw [show Blk (w.alloc (.cells #[.int .i64 n0, .int .i64 n1, .int .i64 n2, .int .i64 n3, .int .i64 n4, .int .i64 n5, .int .i64 n6, .int .i64 n7, .int .i64 n8, .bool b9, .bool b10, .slice ao n c, .slice ao2 m c2] 24)) w.heap.size #[.int .i64 n0, .int .i64 n1, .int .i64 n2, .int .i64 n3, .int .i64 n4, .int .i64 n5, .int .i64 n6, .int .i64 n7, .int .i64 n8, .bool b9, .bool b10, .slice ao n c, .slice ao2 m c2] 24 = Blk (w.alloc (.cells #[.int .i64 n0, .int .i64 n1, .int .i64 n2, .int .i64 n3, .int .i64 n4, .int .i64 n5, .int .i64 n6, .int .i64 n7, .int .i64 n8, .bool b9, .bool b10, .slice ao n c, .slice ao2 m c2] 24)) w.heap.size bx 24 from by rw [hbx]] at NB
  clear hbx
  go_wp2_with fail
  refine (refIn_calls _ _ _ _).mono ?_
  rintro e w2 ⟨rfl, rfl⟩
  cases h0 : inB (n0, 0, 65536) with
  | false =>
    have AN := Lib.hid (show er = 202 from by rw [ER.out, if_neg]; simp [h0])
    clear ER h0
    go_wp2_with fail
    go_ret
    exact ⟨by rw [AN.out]; rfl, XB.out⟩
  | true =>
    go_wp2_with fail
    refine (refIn_calls _ _ _ _).mono ?_
    rintro e w2 ⟨rfl, rfl⟩
    cases h1 : inB (n1, 0, 1099511627776) with
    | false =>
      have AN := Lib.hid (show er = 202 from by rw [ER.out, if_neg]; simp [h0, h1])
      clear ER h0 h1
      go_wp2_with fail
      go_ret
      exact ⟨by rw [AN.out]; rfl, XB.out⟩
    | true =>
      go_wp2_with fail
      refine (refIn_calls _ _ _ _).mono ?_
      rintro e w2 ⟨rfl, rfl⟩
      cases h2 : inB (n2, 1, 64) with
      | false =>
        have AN := Lib.hid (show er = 202 from by rw [ER.out, if_neg]; simp [h0, h1, h2])
        clear ER h0 h1 h2
        go_wp2_with fail
        go_ret
        exact ⟨by rw [AN.out]; rfl, XB.out⟩
      | true =>
        go_wp2_with fail
        refine (refIn_calls _ _ _ _).mono ?_
        rintro e w2 ⟨rfl, rfl⟩
        cases h3 : inB (n3, 1, 4096) with
        | false =>
          have AN := Lib.hid (show er = 202 from by rw [ER.out, if_neg]; simp [h0, h1, h2, h3])
          clear ER h0 h1 h2 h3
          go_wp2_with fail
          go_ret
          exact ⟨by rw [AN.out]; rfl, XB.out⟩
        | true =>
          go_wp2_with fail
          refine (refIn_calls _ _ _ _).mono ?_
          rintro e w2 ⟨rfl, rfl⟩
          cases h4 : inB (n4, 0, 1048576) with
          | false =>
            have AN := Lib.hid (show er = 202 from by rw [ER.out, if_neg]; simp [h0, h1, h2, h3, h4])
            clear ER h0 h1 h2 h3 h4
            go_wp2_with fail
            go_ret
            exact ⟨by rw [AN.out]; rfl, XB.out⟩
          | true =>
            go_wp2_with fail
            refine (refIn_calls _ _ _ _).mono ?_
            rintro e w2 ⟨rfl, rfl⟩
            cases h5 : inB (n5, 0, 64) with
            | false =>
              have AN := Lib.hid (show er = 202 from by rw [ER.out, if_neg]; simp [h0, h1, h2, h3, h4, h5])
              clear ER h0 h1 h2 h3 h4 h5
              go_wp2_with fail
              go_ret
              exact ⟨by rw [AN.out]; rfl, XB.out⟩
            | true =>
              go_wp2_with fail
              refine (refIn_calls _ _ _ _).mono ?_
              rintro e w2 ⟨rfl, rfl⟩
              cases h6 : inB (n6, 0, 2) with
              | false =>
                have AN := Lib.hid (show er = 202 from by rw [ER.out, if_neg]; simp [h0, h1, h2, h3, h4, h5, h6])
                clear ER h0 h1 h2 h3 h4 h5 h6
                go_wp2_with fail
                go_ret
                exact ⟨by rw [AN.out]; rfl, XB.out⟩
              | true =>
                go_wp2_with fail
                refine (refIn_calls _ _ _ _).mono ?_
                rintro e w2 ⟨rfl, rfl⟩
                cases h7 : inB (n7, 0, 2) with
                | false =>
                  have AN := Lib.hid (show er = 202 from by rw [ER.out, if_neg]; simp [h0, h1, h2, h3, h4, h5, h6, h7])
                  clear ER h0 h1 h2 h3 h4 h5 h6 h7
                  go_wp2_with fail
                  go_ret
                  exact ⟨by rw [AN.out]; rfl, XB.out⟩
                | true =>
                  go_wp2_with fail
                  refine (refIn_calls _ _ _ _).mono ?_
                  rintro e w2 ⟨rfl, rfl⟩
                  cases h8 : inB (n8, 0, 511) with
                  | false =>
                    have AN := Lib.hid (show er = 202 from by rw [ER.out, if_neg]; simp [h0, h1, h2, h3, h4, h5, h6, h7, h8])
                    clear ER h0 h1 h2 h3 h4 h5 h6 h7 h8
                    go_wp2_with fail
                    go_ret
                    exact ⟨by rw [AN.out]; rfl, XB.out⟩
                  | true =>
                    have AN := Lib.hid (show er = firstErr (inc ++ exc) from by rw [ER.out, if_pos]; simp [h0, h1, h2, h3, h4, h5, h6, h7, h8])
                    clear ER h0 h1 h2 h3 h4 h5 h6 h7 h8
                    go_wp2_with fail
                    go_loopg [3, 4] n (fun g s3 s4 wr => ∃ j : Nat, j ≤ n ∧ n - j ≤ g ∧ s3 = .int .i64 j ∧ firstErr (inc.take j) = 0 ∧ Below w.heap.size w wr ∧ Blk wr w.heap.size bx 24)
                    case atStart => exact ⟨0, Nat.zero_le _, by omega, rfl, rfl, XB.out, NB.out⟩
                    case round =>
                      obtain ⟨j, hj, hg, rfl, hno, hX, hB⟩ := hrel
                      clear XB NB
                      have XB := Lib.hid hX
                      have NB := Lib.hid hB
                      have q11 := NB.out.cell 11
                      have q12 := NB.out.cell 12
                      rw [BX.out.1] at q11
                      rw [BX.out.2] at q12
                      have NO := Lib.hid hno
                      clear hno hX hB
                      by_cases hjn : j < n
                      · have hkx : j < inc.length := by rw [HN.out]; exact hjn
                        obtain ⟨p, hp⟩ : ∃ p, p = inc[j] := ⟨_, rfl⟩
                        have PX := Lib.hid (show inc[j]? = some p from by rw [hp, List.getElem?_eq_getElem hkx])
                        have RD := Lib.hid (R1.out.below XB.out)
                        obtain ⟨⟨b, o, rfl, hcl⟩⟩ : Nonempty (∃ b o, ao = some ⟨b, o, none⟩ ∧ wr.cell? ⟨b, o + j, none⟩ = some (.string p)) := by
                          obtain ⟨ao', c', hv, h1, h2, h3, h4⟩ := RD.out
                          cases hv
                          obtain ⟨b, o, ha, hc⟩ := h4 (fun e => by rw [e] at hkx; simp at hkx)
                          exact ⟨b, o, ha, by rw [hc j hkx, hp]⟩
                        clear hp hkx
                        have h0 : (0 : Int) ≤ (j : Int) := by omega
                        have h1 : (j : Int) < (n : Int) := by omega
                        have CC := Lib.hid (refCheck_calls wr p (S.out p (List.mem_append_left _ (List.mem_of_getElem? PX.out))))
                        go_wp2_with fail
                        refine CC.out.mono ?_
                        rintro e w2 ⟨rfl, hb⟩
                        have X2 := Lib.hid (XB.out.trans (hb.mono XB.out.size))
                        have N2 := Lib.hid (NB.out.below hb NB.out.lt)
                        clear hb CC
                        by_cases hc : checkErr p.data.toList = 0
                        · have NX := Lib.hid (show firstErr (inc.take (j + 1)) = 0 from by rw [firstErr_next PX.out NO.out]; exact hc)
                          rw [hc]
                          clear hc
                          go_wp2_with fail
                          go_roundg (n - (j + 1))
                          case measure => omega
                          case rel => exact ⟨j + 1, by omega, by omega, by go_num, NX.out, X2.out, N2.out⟩
                        · have t1 : (checkErr p.data.toList != 0) = true := by simpa [bne] using hc
                          have CE := Lib.hid (show firstErr (inc ++ exc) = checkErr p.data.toList from by
                            have := firstErr_at PX.out NO.out hc
                            rw [firstErr_append, if_neg (by rw [this]; exact hc)]; exact this)
                          have HCN := Lib.hid hc
                          clear hc
                          go_wp2_with fail
                          go_ret
                          exact ⟨by rw [AN.out, CE.out]; rfl, X2.out⟩
                      · obtain rfl : j = n := by omega
                        have FE := Lib.hid (show firstErr inc = 0 from by
                          have := NO.out
                          rw [← HN.out, List.take_length] at this
                          exact this)
                        clear NO
                        have F1 := Lib.hid FE.out
                        clear FE
                        go_wp2_with fail
                        clear q11 q12
                        go_loopg [5, 6] m (fun g s5 s6 wr => ∃ j : Nat, j ≤ m ∧ m - j ≤ g ∧ s5 = .int .i64 j ∧ firstErr (exc.take j) = 0 ∧ Below w.heap.size w wr ∧ Blk wr w.heap.size bx 24)
                        case atStart => exact ⟨0, Nat.zero_le _, by omega, rfl, rfl, XB.out, NB.out⟩
                        case round =>
                          obtain ⟨j, hj, hg, rfl, hno, hX, hB⟩ := hrel
                          clear XB NB
                          have XB := Lib.hid hX
                          have NB := Lib.hid hB
                          have q11 := NB.out.cell 11
                          have q12 := NB.out.cell 12
                          rw [BX.out.1] at q11
                          rw [BX.out.2] at q12
                          have NO := Lib.hid hno
                          clear hno hX hB
                          by_cases hjn : j < m
                          · have hkx : j < exc.length := by rw [HM.out]; exact hjn
                            obtain ⟨p, hp⟩ : ∃ p, p = exc[j] := ⟨_, rfl⟩
                            have PX := Lib.hid (show exc[j]? = some p from by rw [hp, List.getElem?_eq_getElem hkx])
                            have RD := Lib.hid (R2.out.below XB.out)
                            obtain ⟨⟨b, o, rfl, hcl⟩⟩ : Nonempty (∃ b o, ao2 = some ⟨b, o, none⟩ ∧ wr.cell? ⟨b, o + j, none⟩ = some (.string p)) := by
                              obtain ⟨ao', c', hv, h1, h2, h3, h4⟩ := RD.out
                              cases hv
                              obtain ⟨b, o, ha, hc⟩ := h4 (fun e => by rw [e] at hkx; simp at hkx)
                              exact ⟨b, o, ha, by rw [hc j hkx, hp]⟩
                            clear hp hkx
                            have h0 : (0 : Int) ≤ (j : Int) := by omega
                            have h1 : (j : Int) < (m : Int) := by omega
                            have CC := Lib.hid (refCheck_calls wr p (S.out p (List.mem_append_right _ (List.mem_of_getElem? PX.out))))
                            go_wp2_with fail
                            refine CC.out.mono ?_
                            rintro e w2 ⟨rfl, hb⟩
                            have X2 := Lib.hid (XB.out.trans (hb.mono XB.out.size))
                            have N2 := Lib.hid (NB.out.below hb NB.out.lt)
                            clear hb CC
                            by_cases hc : checkErr p.data.toList = 0
                            · have NX := Lib.hid (show firstErr (exc.take (j + 1)) = 0 from by rw [firstErr_next PX.out NO.out]; exact hc)
                              rw [hc]
                              clear hc
                              go_wp2_with fail
                              go_roundg (m - (j + 1))
                              case measure => omega
                              case rel => exact ⟨j + 1, by omega, by omega, by go_num, NX.out, X2.out, N2.out⟩
                            · have t1 : (checkErr p.data.toList != 0) = true := by simpa [bne] using hc
                              have CE := Lib.hid (show firstErr (inc ++ exc) = checkErr p.data.toList from by
                                have := firstErr_at PX.out NO.out hc
                                rw [firstErr_append, if_pos F1.out]; exact this)
                              have HCN := Lib.hid hc
                              clear hc
                              go_wp2_with fail
                              go_ret
                              exact ⟨by rw [AN.out, CE.out]; rfl, X2.out⟩
                          · obtain rfl : j = m := by omega
                            have FE := Lib.hid (show firstErr exc = 0 from by
                              have := NO.out
                              rw [← HM.out, List.take_length] at this
                              exact this)
                            clear NO
                            have CE := Lib.hid (show firstErr (inc ++ exc) = 0 from by rw [firstErr_append, if_pos F1.out]; exact FE.out)
                            go_wp2_with fail
                            go_ret
                            exact ⟨by rw [AN.out, CE.out]; rfl, XB.out⟩
end Go.Proofs.Ytejeepmcoafdcaa
