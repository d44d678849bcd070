/-
  The walk of the document's Chosen.
-/
import Derived.Test.YtejcpngmllciiaaChosen
namespace Go.Proofs.Ytejcpngmllciiaa
open Go.RowKit
set_option linter.unusedVariables false

theorem good_of {p : ByteArray} (h : checkErr p.data.toList = 0) : Good p := by
  have hl := len_list p
  have h1 : ¬ 4096 < p.size := fun h2 => by unfold checkErr at h; rw [hl, if_pos h2] at h; exact absurd h (by decide)
  refine ⟨by omega, ?_⟩
  unfold checkErr at h
  rw [hl, if_neg h1] at h
  cases hp : parse p.data.toList with
  | none => rw [hp] at h; exact absurd h (by decide)
  | some ts => exact ⟨ts, rfl⟩
theorem good_all : ∀ {xs : List ByteArray}, firstErr xs = 0 → ∀ p ∈ xs, Good p
  | [], _, p, hp => by cases hp
  | x :: r, h, p, hp => by
    rw [firstErr_cons] at h
    by_cases hx : checkErr x.data.toList = 0
    · rw [if_pos hx] at h
      rcases List.mem_cons.1 hp with rfl | hp
      · exact good_of hx
      · exact good_all h p hp
    · rw [if_neg hx] at h
      exact absurd h hx

set_option maxHeartbeats 2000000 in
theorem refChosen_calls (w : World) (v1 v2 : Value) (inc exc : List ByteArray) (t : ByteArray) (h1 : Rd w strE v1 inc) (h2 : Rd w strE v2 exc) (hs : ∀ p ∈ inc ++ exc, p.size ≤ 140737488351232) (ht : t.size ≤ 200) :
    Calls Try.prog 18 #[v1, v2, .string t] w fun e w' => e = .returned (.tuple #[.bool (chosenAns inc exc t.data.toList), .int .i64 (chosenErr inc exc)]) ∧ Below w.heap.size w w' := by
  obtain ⟨ao, c, rfl⟩ := h1.any
  obtain ⟨ao2, c2, rfl⟩ := h2.any
  have R1 := Lib.hid h1
  have R2 := Lib.hid h2
  have S := Lib.hid hs
  clear h1 h2 hs
  go_enter Try.func18, Try.ntmps18
  have n1 : inc.length ≤ 9223372036854775807 := R1.out.len
  have n2 : exc.length ≤ 9223372036854775807 := R2.out.len
  have AE : ∀ x : Int, chosenErr inc exc = x → x ≠ 0 → chosenAns inc exc t.data.toList = false := fun x h1 h2 => by
    unfold chosenAns; rw [if_neg (by rw [h1]; exact h2)]
  have HAE := Lib.hid AE
  clear AE
  have EM := Lib.hid (show inc.isEmpty = decide (inc.length = 0) from by cases inc <;> simp)
  generalize hn : inc.length = n at *
  generalize hm : exc.length = m at *
  have HN := Lib.hid hn
  have HM := Lib.hid hm
  clear hn hm
  go_wp2_with fail
  go_loopg [8, 9] n (fun g si se wr => ∃ k : Nat, k ≤ n ∧ n - k ≤ g ∧ si = .int .i64 k ∧ firstErr (inc.take k) = 0 ∧ Below w.heap.size w wr)
  case atStart => exact ⟨0, Nat.zero_le _, by omega, rfl, rfl, Below.refl _ _⟩
  case round =>
    obtain ⟨k, hk, hg, rfl, hno, hX⟩ := hrel
    have XB := Lib.hid hX
    have NO := Lib.hid hno
    clear hX hno
    by_cases hkn : k < n
    · have hkx : k < inc.length := by rw [HN.out]; exact hkn
      obtain ⟨p, hp⟩ : ∃ p, p = inc[k] := ⟨_, rfl⟩
      have PX := Lib.hid (show inc[k]? = some p from by rw [hp, List.getElem?_eq_getElem hkx])
      have RD := Lib.hid (R1.out.below XB.out)
      obtain ⟨⟨b, o, rfl, hcl⟩⟩ : Nonempty (∃ b o, ao = some ⟨b, o, none⟩ ∧ wr.cell? ⟨b, o + k, none⟩ = some (.string p)) := by
        obtain ⟨ao', c', hv, h1, h2, h3, h4⟩ := RD.out
        cases hv
        obtain ⟨b, o, ha, hc⟩ := h4 (fun e => by rw [e] at hkx; simp at hkx)
        exact ⟨b, o, ha, by rw [hc k hkx, hp]⟩
      clear hp hkx
      have h0 : (0 : Int) ≤ (k : Int) := by omega
      have h1 : (k : Int) < (n : Int) := by omega
      have CC := Lib.hid (refCheck_calls wr p (S.out p (List.mem_append_left _ (List.mem_of_getElem? PX.out))))
      go_wp2_with fail
      refine CC.out.mono ?_
      rintro e w2 ⟨rfl, hb⟩
      have X2 := Lib.hid (XB.out.trans (hb.mono XB.out.size))
      clear hb CC
      by_cases hc : checkErr p.data.toList = 0
      · have NX := Lib.hid (show firstErr (inc.take (k + 1)) = 0 from by rw [firstErr_next PX.out NO.out]; exact hc)
        rw [hc]
        clear hc
        go_wp2_with fail
        go_roundg (n - (k + 1))
        case measure => omega
        case rel => exact ⟨k + 1, by omega, by omega, by go_num, NX.out, X2.out⟩
      · have t1 : (checkErr p.data.toList != 0) = true := by simpa [bne] using hc
        have CE := Lib.hid (show chosenErr inc exc = checkErr p.data.toList from by
          unfold chosenErr
          have := firstErr_at PX.out NO.out hc
          rw [firstErr_append, this, if_neg hc])
        have AE := Lib.hid (HAE.out _ CE.out hc)
        have HCN := Lib.hid hc
        clear hc
        go_wp2_with fail
        go_ret2
        exact ⟨by rw [AE.out, CE.out]; rfl, X2.out⟩
    · obtain rfl : k = n := by omega
      have FE1 := Lib.hid (show firstErr inc = 0 from by
        have := NO.out
        rw [← HN.out, List.take_length] at this
        exact this)
      clear NO
      go_wp2_with fail
      go_loopg [10, 11] m (fun g si se wr => ∃ k : Nat, k ≤ m ∧ m - k ≤ g ∧ si = .int .i64 k ∧ firstErr (exc.take k) = 0 ∧ Below w.heap.size w wr)
      case atStart => exact ⟨0, Nat.zero_le _, by omega, rfl, rfl, XB.out⟩
      case round =>
        obtain ⟨j, hj, hg, rfl, hno, hX⟩ := hrel
        have XB := Lib.hid hX
        have NO := Lib.hid hno
        clear hX hno
        by_cases hjm : j < m
        · have hkx : j < exc.length := by rw [HM.out]; exact hjm
          obtain ⟨p, hp⟩ : ∃ p, p = exc[j] := ⟨_, rfl⟩
          have PX := Lib.hid (show exc[j]? = some p from by rw [hp, List.getElem?_eq_getElem hkx])
          have RD := Lib.hid (R2.out.below XB.out)
          obtain ⟨⟨b, o, rfl, hcl⟩⟩ : Nonempty (∃ b o, ao2 = some ⟨b, o, none⟩ ∧ wr.cell? ⟨b, o + j, none⟩ = some (.string p)) := by
            obtain ⟨ao', c', hv, h1, h2, h3, h4⟩ := RD.out
            cases hv
            obtain ⟨b, o, ha, hc⟩ := h4 (fun e => by rw [e] at hkx; simp at hkx)
            exact ⟨b, o, ha, by rw [hc j hkx, hp]⟩
          clear hp hkx
          have h0 : (0 : Int) ≤ (j : Int) := by omega
          have h1 : (j : Int) < (m : Int) := by omega
          have CC := Lib.hid (refCheck_calls wr p (S.out p (List.mem_append_right _ (List.mem_of_getElem? PX.out))))
          go_wp2_with fail
          refine CC.out.mono ?_
          rintro e w2 ⟨rfl, hb⟩
          have X2 := Lib.hid (XB.out.trans (hb.mono XB.out.size))
          clear hb CC
          by_cases hc : checkErr p.data.toList = 0
          · have NX := Lib.hid (show firstErr (exc.take (j + 1)) = 0 from by rw [firstErr_next PX.out NO.out]; exact hc)
            rw [hc]
            clear hc
            go_wp2_with fail
            go_roundg (m - (j + 1))
            case measure => omega
            case rel => exact ⟨j + 1, by omega, by omega, by go_num, NX.out, X2.out⟩
          · have t1 : (checkErr p.data.toList != 0) = true := by simpa [bne] using hc
            have CE := Lib.hid (show chosenErr inc exc = checkErr p.data.toList from by
              unfold chosenErr
              have := firstErr_at PX.out NO.out hc
              rw [firstErr_append, if_pos FE1.out]; exact this)
            have AE := Lib.hid (HAE.out _ CE.out hc)
            have HCN := Lib.hid hc
            clear hc
            go_wp2_with fail
            go_ret2
            exact ⟨by rw [AE.out, CE.out]; rfl, X2.out⟩
        · obtain rfl : j = m := by omega
          have FE2 := Lib.hid (show firstErr exc = 0 from by
            have := NO.out
            rw [← HM.out, List.take_length] at this
            exact this)
          have CE := Lib.hid (show chosenErr inc exc = 0 from by unfold chosenErr; rw [firstErr_append, if_pos FE1.out]; exact FE2.out)
          have AN := Lib.hid (show chosenAns inc exc t.data.toList = ((decide (k = 0) || hitAny inc t.data.toList) && !hitAny exc t.data.toList) from by
            unfold chosenAns; rw [if_pos CE.out, EM.out])
          have HX := Lib.hid (fun wz (hd : Below w.heap.size w wz) => refHits_calls wz _ exc t (R2.out.below hd) (good_all FE2.out) ht)
          have HI := Lib.hid (refHits_calls wr _ inc t (R1.out.below XB.out) (good_all FE1.out) ht)
          clear NO
          by_cases hk0 : k = 0
          · subst hk0
            have AN2 := Lib.hid (show chosenAns inc exc t.data.toList = !hitAny exc t.data.toList from by rw [AN.out]; simp)
            have HX2 := Lib.hid (HX.out wr XB.out)
            clear AN
            go_wp2_with fail
            refine HX2.out.mono ?_
            rintro e w5 ⟨rfl, hb⟩
            have FIN := Lib.hid (XB.out.trans (hb.mono XB.out.size))
            clear hb
            go_wp2_with fail
            go_ret2
            exact ⟨by rw [AN2.out, CE.out]; rfl, FIN.out⟩
          · have k0 : ((k : Int) == 0) = false := by simp; omega
            have k0' : ¬ (k : Int) = 0 := by omega
            cases hw : hitAny inc t.data.toList with
            | true =>
              rw [hw] at HI
              have AN2 := Lib.hid (show chosenAns inc exc t.data.toList = !hitAny exc t.data.toList from by rw [AN.out, hw]; simp)
              clear AN hw hk0
              go_wp2_with fail
              refine HI.out.mono ?_
              rintro e w4 ⟨rfl, hb⟩
              have X4 := Lib.hid (XB.out.trans (hb.mono XB.out.size))
              have HX2 := Lib.hid (HX.out w4 X4.out)
              clear hb
              go_wp2_with fail
              refine HX2.out.mono ?_
              rintro e w5 ⟨rfl, hb⟩
              have FIN := Lib.hid (X4.out.trans (hb.mono X4.out.size))
              clear hb
              go_wp2_with fail
              go_ret2
              exact ⟨by rw [AN2.out, CE.out]; rfl, FIN.out⟩
            | false =>
              rw [hw] at HI
              have AN2 := Lib.hid (show chosenAns inc exc t.data.toList = false from by rw [AN.out, hw]; simp [hk0])
              clear AN hw hk0
              go_wp2_with fail
              refine HI.out.mono ?_
              rintro e w4 ⟨rfl, hb⟩
              have X4 := Lib.hid (XB.out.trans (hb.mono XB.out.size))
              clear hb
              go_wp2_with fail
              go_ret2
              exact ⟨by rw [AN2.out, CE.out]; rfl, X4.out⟩
end Go.Proofs.Ytejcpngmllciiaa
