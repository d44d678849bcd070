/-
  The walk of the document's Split: every name that is not too long, every two numbers.
-/
import Derived.Test.YthhggganhegfhaaDoorSplit
namespace Go.Proofs.YthhggganhegfhaaDoor
open Go.RowKit
set_option linter.unusedVariables false

theorem dots2_iff (x : ByteArray) : (x.toList == [46, 46]) = decide (x = dots2) := by
  rw [Lib.toList_data]
  by_cases h : x = dots2
  · subst h; rfl
  · rw [decide_eq_false h]
    refine beq_eq_false_iff_ne.2 fun e => h ?_
    rw [← txt_data x, e]; rfl
theorem hasB_snoc (p : ByteArray) (xs : List ByteArray) (x : ByteArray) : hasB p (xs ++ [x]) = (hasB p xs || decide (x = p)) := by
  unfold hasB; rw [List.any_append]; simp
theorem any_snoc (f : ByteArray → Bool) (xs : List ByteArray) (x : ByteArray) : (xs ++ [x]).any f = (xs.any f || f x) := by
  rw [List.any_append]; simp
theorem keptTo_zero (xs : List ByteArray) : keptTo xs 0 = [] := rfl

set_option maxHeartbeats 8000000 in
theorem refSplit_calls (name : ByteArray) (mx md : Int) (w : World) (hz : name.size ≤ 16777216) :
    Calls Tryd.prog 21 #[.string name, .int .i64 mx, .int .i64 md] w (SymAns w (splitP name mx md)) := by
  obtain ⟨R, hR⟩ : ∃ R, R = splitP name mx md := ⟨_, rfl⟩
  rw [← hR]
  have HRR := Lib.hid hR
  clear hR
  by_cases h0 : name.size = 0
  · have he := empty_of h0
    have e : R = ([], 90) := by rw [HRR.out]; unfold splitP; rw [if_pos h0]
    have E := Lib.hid e
    clear e h0
    go_enter Tryd.func21, Tryd.ntmps21
    go_wp2
    go_ret2
    exact SymAns.err 90 E.out (Below.refl _ _)
  · have he := full_of h0
    by_cases hm : mx < (name.size : Int)
    · have e : R = ([], 93) := by rw [HRR.out]; unfold splitP; rw [if_neg h0, if_pos hm]
      have E := Lib.hid e
      clear e h0
      go_enter Tryd.func21, Tryd.ntmps21
      go_wp2
      go_ret2
      exact SymAns.err 93 E.out (Below.refl _ _)
    · have E91 := Lib.hid (show hasNul name = true → R = ([], 91) from fun hn => by rw [HRR.out]; unfold splitP; rw [if_neg h0, if_neg hm, if_pos hn])
      have h00 : 0 < name.size := by omega
      have hgb : name.data.toList.getD 0 0 = name[0] := by
        have h' : 0 < name.data.toList.length := by rw [Array.length_toList]; exact h00
        simp [List.getD, List.getElem?_eq_getElem h']
        rfl
      have E92 := Lib.hid (show hasNul name = false → name[0]'h00 = 47 → R = ([], 92) from fun hn hs => by
        rw [HRR.out]; unfold splitP; rw [if_neg h0, if_neg hm, hn, if_neg (by simp), if_pos (by rw [hgb]; exact hs)])
      have EIN := Lib.hid (show hasNul name = false → name[0]'h00 ≠ 47 → R = splitIn ((pieces name).filter keepB) md from fun hn hs => by
        rw [HRR.out]; unfold splitP; rw [if_neg h0, if_neg hm, hn, if_neg (by simp), if_neg (by rw [hgb]; exact hs)])
      have hlen : (pieces name).length ≤ name.size + 1 := by
        unfold pieces
        rw [List.length_map]
        have := pcs_len name.data.toList
        rw [Array.length_toList] at this
        exact this
      have HP := Lib.hid (fun w2 => refPieces_calls name w2 (by omega))
      clear hgb h0
      generalize pieces name = ps at *
      obtain ⟨pn, hpn⟩ : ∃ pn, pn = ps.length := ⟨_, rfl⟩
      rw [← hpn] at hlen
      have HPN := Lib.hid hpn
      clear hpn
      go_enter Tryd.func21, Tryd.ntmps21
      go_wp2
      go_loopg [8] name.size (fun g s8 wr => ∃ i : Nat, s8 = .int .i64 i ∧ i ≤ name.size ∧ name.size - i ≤ g ∧ wr = w ∧ Hid (∀ j (hj : j < name.size), j < i → name[j]'hj ≠ 0))
      case atStart => exact ⟨0, rfl, Nat.zero_le _, by omega, rfl, Lib.hid fun j _ h => absurd h (Nat.not_lt_zero _)⟩
      case round =>
        obtain ⟨i, rfl, hi, hg, rfl, HN⟩ := hrel
        by_cases hlt : i < name.size
        · by_cases hb : name[i]'hlt = 0
          · have e := E91.out (hasNul_hit hlt hb)
            have E := Lib.hid e
            have hb' : (((name[i]'hlt).toNat : Int) == 0) = true := by rw [hb]; rfl
            clear hb e
            go_wp2
            go_ret2
            exact SymAns.err 91 E.out (Below.refl _ _)
          · have hb' : (((name[i]'hlt).toNat : Int) == 0) = false := beq_eq_false_iff_ne.2 fun e => hb (by
              have : (name[i]'hlt).toNat = 0 := by omega
              exact UInt8.toNat_inj.1 this)
            have HB := Lib.hid hb
            clear hb
            go_wp2
            go_roundg (name.size - (i + 1))
            case measure => omega
            case rel =>
              refine ⟨i + 1, by go_num, by omega, Nat.le_refl _, rfl, Lib.hid fun j hj hk => ?_⟩
              by_cases e : j = i
              · subst e; exact HB.out
              · exact HN.out j hj (by omega)
        · have hnn := hasNul_none (s := name) (fun j hj => HN.out j hj (by omega))
          have HNN := Lib.hid hnn
          clear hnn
          have hge : ¬ ((i : Int) < (name.size : Int)) := by omega
          by_cases hs : name[0]'h00 = 47
          · have e := E92.out HNN.out hs
            have E := Lib.hid e
            have hs' : (((name[0]'h00).toNat : Int) == 47) = true := by rw [hs]; rfl
            clear e hs
            go_wp2
            go_ret2
            exact SymAns.err 92 E.out (Below.refl _ _)
          · have e := EIN.out HNN.out hs
            have EI := Lib.hid e
            have hs' : (((name[0]'h00).toNat : Int) == 47) = false := beq_eq_false_iff_ne.2 fun e => hs (by
              have : (name[0]'h00).toNat = 47 := by omega
              exact UInt8.toNat_inj.1 this)
            clear e hs
            go_wp2_with fail
            refine (HP.out _).mono ?_
            rintro e w2 ⟨NB, cp, rfl, hoP, hbP⟩
            rw [← HPN.out]
            have B2 := Lib.hid hbP
            have hNB : NB < w2.heap.size := (hoP.lt (k := NB) rfl).2
            have CP := Lib.hid (show ∀ k, k < pn → w2.cell? ⟨NB, k, none⟩ = some (strE (ps.getD k ByteArray.empty)) from fun k hk => by
              have hk' : k < ps.length := by rw [← HPN.out]; exact hk
              rw [hoP.cell k hk']
              simp [List.getD, List.getElem?_eq_getElem hk'])
            clear hoP hbP
            go_wp2_with fail
            go_loopg [10, 11, 12, 13] pn (fun g s10 s11 s12 s13 wx => ∃ (k n gg cap : Nat) (b1 b2 : Bool), s10 = .slice (some ⟨gg, 0, none⟩) n cap ∧ s11 = .bool b1 ∧ s12 = .bool b2 ∧ s13 = .int .i64 k ∧ k ≤ pn ∧ pn - k ≤ g ∧ n ≤ k ∧ Hid (n = (keptTo ps k).length) ∧ Hid (b1 = hasB dots2 (keptTo ps k)) ∧ Hid (b2 = (keptTo ps k).any wide) ∧ Hid (SymInv2 wr w2 wx NB (keptTo ps k) (.slice (some ⟨gg, 0, none⟩) n cap)))
            case atStart =>
              refine ⟨0, 0, w2.heap.size, 0, false, false, rfl, rfl, rfl, rfl, Nat.zero_le _, by omega, Nat.le_refl _, Lib.hid rfl, Lib.hid rfl, Lib.hid rfl, Lib.hid ⟨?_, ?_, ?_, ?_, ?_⟩⟩
              · exact own_empty w2 wr.heap.size _ _ B2.out.size
              · exact Below.heap_alloc _ _ _ hNB
              · simp; omega
              · simp [Value.ownBlock]; omega
              · exact B2.out.alloc B2.out.size _
            case round =>
              obtain ⟨k, n, gg, cap, b1, b2, rfl, rfl, rfl, rfl, hk, hg2, hnk, HLN, HB1, HB2, IV⟩ := hrel
              rename World => wx
              have hwr : wr.heap.size ≤ wx.heap.size := IV.out.below.size
              by_cases hlt2 : k < pn
              · have hkp : k < ps.length := by have := HPN.out; omega
                have g1 : wx.cell? ⟨NB, k, none⟩ = some (strE (ps.getD k ByteArray.empty)) := by
                  rw [World.cell?_of_block (w := w2) (a := ⟨NB, k, none⟩) IV.out.blk]
                  exact CP.out k hlt2
                have KS := Lib.hid (fun h => keptTo_skip (xs := ps) hkp h)
                have KK := Lib.hid (fun h => keptTo_keep (xs := ps) hkp h)
                generalize hx : ps.getD k ByteArray.empty = x at g1
                have HX := Lib.hid hx
                rw [hx] at KS KK
                clear hx
                cases q1 : x.toList.isEmpty
                · cases q2 : (x.toList == [46])
                  · have HK := Lib.hid (show keepB x = true by unfold keepB; rw [q1, q2]; rfl)
                    have EK := Lib.hid (KK.out HK.out)
                    have D2 := Lib.hid (dots2_iff x)
                    have fin : ∀ (g2 cap2 : Nat) (w3 : World) (c1 c2 : Bool), c1 = (b1 || decide (x = dots2)) → c2 = (b2 || wide x) → Own w3 wr.heap.size 9 strE (.slice (some ⟨g2, 0, none⟩) (n + 1) cap2) (keptTo ps k ++ [x]) → Below wr.heap.size wx w3 → Apart wx w3 (.slice (some ⟨gg, 0, none⟩) n cap) (.slice (some ⟨g2, 0, none⟩) (n + 1) cap2) →
                        n + 1 = (keptTo ps (k + 1)).length ∧ c1 = hasB dots2 (keptTo ps (k + 1)) ∧ c2 = (keptTo ps (k + 1)).any wide ∧ SymInv2 wr w2 w3 NB (keptTo ps (k + 1)) (.slice (some ⟨g2, 0, none⟩) (n + 1) cap2) := fun g2 cap2 w3 c1 c2 e1 e2 ho hb hap => by
                      have := hap NB IV.out.lt IV.out.ne
                      rw [EK.out]
                      exact ⟨by rw [List.length_append, HLN.out]; rfl, by rw [e1, hasB_snoc, HB1.out], by rw [e2, any_snoc, HB2.out], ho, by rw [this.2]; exact IV.out.blk, Nat.lt_of_lt_of_le IV.out.lt hb.size, this.1, IV.out.below.trans hb⟩
                    have FIN := Lib.hid fin
                    clear fin
                    by_cases hw : x.size ≤ 255
                    · have hz1 : ¬ ((255 : Int) < (x.size : Int)) := by omega
                      have HW := Lib.hid (show wide x = false from decide_eq_false (by omega))
                      clear hw
                      cases q3 : (x.toList == [46, 46])
                      · have HU := Lib.hid (show decide (x = dots2) = false by rw [← D2.out]; exact q3)
                        go_wp2_with (at_builtin; refine wpList_pushG wx rfl (.tmp 65) (.tmp 70) 22 rfl wr.heap.size 9 (.string ⟨#[]⟩) 16 strE Tryd.underlying22 Tryd.info9 rfl _ (keptTo ps k) x n rfl IV.out.own HLN.out.symm _ rfl rfl rfl (by omega) (by unfold maxLen; omega) hwr ?_; intro g2 cap2 w3 hown2 hb2 hap2)
                        have F := FIN.out g2 cap2 w3 b1 b2 (by rw [HU.out]; simp) (by rw [HW.out]; simp) hown2 hb2 hap2
                        have FF := Lib.hid F
                        clear F hown2 hb2 hap2
                        go_roundg (pn - (k + 1))
                        case measure => omega
                        case rel => exact ⟨k + 1, n + 1, g2, cap2, b1, b2, rfl, rfl, rfl, by go_num, by omega, Nat.le_refl _, by omega, Lib.hid FF.out.1, Lib.hid FF.out.2.1, Lib.hid FF.out.2.2.1, Lib.hid FF.out.2.2.2⟩
                      · have HU := Lib.hid (show decide (x = dots2) = true by rw [← D2.out]; exact q3)
                        go_wp2_with (at_builtin; refine wpList_pushG wx rfl (.tmp 65) (.tmp 70) 22 rfl wr.heap.size 9 (.string ⟨#[]⟩) 16 strE Tryd.underlying22 Tryd.info9 rfl _ (keptTo ps k) x n rfl IV.out.own HLN.out.symm _ rfl rfl rfl (by omega) (by unfold maxLen; omega) hwr ?_; intro g2 cap2 w3 hown2 hb2 hap2)
                        have F := FIN.out g2 cap2 w3 true b2 (by rw [HU.out]; simp) (by rw [HW.out]; simp) hown2 hb2 hap2
                        have FF := Lib.hid F
                        clear F hown2 hb2 hap2
                        go_roundg (pn - (k + 1))
                        case measure => omega
                        case rel => exact ⟨k + 1, n + 1, g2, cap2, true, b2, rfl, rfl, rfl, by go_num, by omega, Nat.le_refl _, by omega, Lib.hid FF.out.1, Lib.hid FF.out.2.1, Lib.hid FF.out.2.2.1, Lib.hid FF.out.2.2.2⟩
                    · have hz1 : (255 : Int) < (x.size : Int) := by omega
                      have HW := Lib.hid (show wide x = true from decide_eq_true (by omega))
                      clear hw
                      cases q3 : (x.toList == [46, 46])
                      · have HU := Lib.hid (show decide (x = dots2) = false by rw [← D2.out]; exact q3)
                        go_wp2_with (at_builtin; refine wpList_pushG wx rfl (.tmp 65) (.tmp 70) 22 rfl wr.heap.size 9 (.string ⟨#[]⟩) 16 strE Tryd.underlying22 Tryd.info9 rfl _ (keptTo ps k) x n rfl IV.out.own HLN.out.symm _ rfl rfl rfl (by omega) (by unfold maxLen; omega) hwr ?_; intro g2 cap2 w3 hown2 hb2 hap2)
                        have F := FIN.out g2 cap2 w3 b1 true (by rw [HU.out]; simp) (by rw [HW.out]; simp) hown2 hb2 hap2
                        have FF := Lib.hid F
                        clear F hown2 hb2 hap2
                        go_roundg (pn - (k + 1))
                        case measure => omega
                        case rel => exact ⟨k + 1, n + 1, g2, cap2, b1, true, rfl, rfl, rfl, by go_num, by omega, Nat.le_refl _, by omega, Lib.hid FF.out.1, Lib.hid FF.out.2.1, Lib.hid FF.out.2.2.1, Lib.hid FF.out.2.2.2⟩
                      · have HU := Lib.hid (show decide (x = dots2) = true by rw [← D2.out]; exact q3)
                        go_wp2_with (at_builtin; refine wpList_pushG wx rfl (.tmp 65) (.tmp 70) 22 rfl wr.heap.size 9 (.string ⟨#[]⟩) 16 strE Tryd.underlying22 Tryd.info9 rfl _ (keptTo ps k) x n rfl IV.out.own HLN.out.symm _ rfl rfl rfl (by omega) (by unfold maxLen; omega) hwr ?_; intro g2 cap2 w3 hown2 hb2 hap2)
                        have F := FIN.out g2 cap2 w3 true true (by rw [HU.out]; simp) (by rw [HW.out]; simp) hown2 hb2 hap2
                        have FF := Lib.hid F
                        clear F hown2 hb2 hap2
                        go_roundg (pn - (k + 1))
                        case measure => omega
                        case rel => exact ⟨k + 1, n + 1, g2, cap2, true, true, rfl, rfl, rfl, by go_num, by omega, Nat.le_refl _, by omega, Lib.hid FF.out.1, Lib.hid FF.out.2.1, Lib.hid FF.out.2.2.1, Lib.hid FF.out.2.2.2⟩
                  · have EK := Lib.hid (KS.out (show keepB x = false by unfold keepB; rw [q1, q2]; rfl))
                    go_wp2
                    go_roundg (pn - (k + 1))
                    case measure => omega
                    case rel => exact ⟨k + 1, n, gg, cap, b1, b2, rfl, rfl, rfl, by go_num, by omega, Nat.le_refl _, by omega, Lib.hid (by rw [EK.out]; exact HLN.out), Lib.hid (by rw [EK.out]; exact HB1.out), Lib.hid (by rw [EK.out]; exact HB2.out), Lib.hid (by rw [EK.out]; exact IV.out)⟩
                · have EK := Lib.hid (KS.out (show keepB x = false by unfold keepB; rw [q1]; rfl))
                  go_wp2
                  go_roundg (pn - (k + 1))
                  case measure => omega
                  case rel => exact ⟨k + 1, n, gg, cap, b1, b2, rfl, rfl, rfl, by go_num, by omega, Nat.le_refl _, by omega, Lib.hid (by rw [EK.out]; exact HLN.out), Lib.hid (by rw [EK.out]; exact HB1.out), Lib.hid (by rw [EK.out]; exact HB2.out), Lib.hid (by rw [EK.out]; exact IV.out)⟩
              · have hkn : k = pn := by omega
                have KE := Lib.hid (show keptTo ps k = ps.filter keepB by rw [hkn, HPN.out]; exact keptTo_end ps)
                rw [KE.out] at HLN HB1 HB2 IV
                have EI2 := EI.out
                generalize ps.filter keepB = ys at *
                have EE := Lib.hid EI2
                clear EI2
                have hle : ¬ ((k : Int) < (pn : Int)) := by omega
                cases b1
                · cases b2
                  · by_cases hdp : md < (n : Int)
                    · have E := Lib.hid (show R = ([], 96) by rw [EE.out]; unfold splitIn; rw [← HB1.out, ← HB2.out, ← HLN.out, if_neg (by simp), if_neg (by simp), if_pos hdp])
                      go_wp2
                      go_ret2
                      exact SymAns.err 96 E.out IV.out.below
                    · have E := Lib.hid (show R = (ys, 0) by rw [EE.out]; unfold splitIn; rw [← HB1.out, ← HB2.out, ← HLN.out, if_neg (by simp), if_neg (by simp), if_neg hdp])
                      go_wp2
                      go_ret2
                      rw [E.out]
                      refine ⟨some ⟨gg, 0, none⟩, cap, ?_, ?_, IV.out.below⟩
                      · simp only
                        rw [← HLN.out]
                        rfl
                      · simp only
                        rw [← HLN.out]
                        exact IV.out.own
                  · have E := Lib.hid (show R = ([], 95) by rw [EE.out]; unfold splitIn; rw [← HB1.out, ← HB2.out]; rfl)
                    go_wp2
                    go_ret2
                    exact SymAns.err 95 E.out IV.out.below
                · have E := Lib.hid (show R = ([], 94) by rw [EE.out]; unfold splitIn; rw [← HB1.out]; rfl)
                  go_wp2
                  go_ret2
                  exact SymAns.err 94 E.out IV.out.below
end Go.Proofs.YthhggganhegfhaaDoor
