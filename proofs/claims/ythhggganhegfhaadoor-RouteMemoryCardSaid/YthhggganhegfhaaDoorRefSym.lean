/-
  The walk of the document's Sym: every list, every text that is not too long, every policy.
-/
import Derived.Test.YthhggganhegfhaaDoorSym
import Derived.Test.YthhggganhegfhaaDoorRefPieces
namespace Go.Proofs.YthhggganhegfhaaDoor
open Go.RowKit
set_option linter.unusedVariables false

/-- no NUL among the first bytes -/
theorem noNul_index : ∀ (l : List UInt8), (∀ x ∈ l, x ≠ 0) → Lib.indexByte l 0 = -1
  | [], _ => rfl
  | c :: l, h => by
    have h1 : c ≠ 0 := h c (by simp)
    rw [Lib.indexByte, noNul_index l fun x hx => h x (by simp [hx])]
    simp [h1]
theorem nul_index : ∀ (l : List UInt8) (i : Nat), i < l.length → l.getD i 1 = 0 → 0 ≤ Lib.indexByte l 0
  | [], i, h, _ => by simp at h
  | c :: l, i, h, e => by
    rw [Lib.indexByte]
    by_cases hc : c = 0
    · simp [hc]
    · have hi : i ≠ 0 := by intro hi; subst hi; simp at e; exact hc e
      obtain ⟨j, rfl⟩ : ∃ j, i = j + 1 := ⟨i - 1, by omega⟩
      have := nul_index l j (by simpa using h) (by simpa using e)
      have hn : ¬ (Lib.indexByte l 0 == -1) = true := by simp; omega
      rw [if_neg (by simpa using hc), if_neg hn]
      omega
theorem hasNul_hit {s : ByteArray} {i : Nat} (h : i < s.size) (e : s[i]'h = 0) : hasNul s = true := by
  refine decide_eq_true (nul_index _ i (by rw [Array.length_toList]; exact h) ?_)
  have h' : i < s.data.toList.length := by rw [Array.length_toList]; exact h
  simp [List.getD, List.getElem?_eq_getElem h']
  exact e
theorem hasNul_none {s : ByteArray} (h : ∀ i (hi : i < s.size), s[i]'hi ≠ 0) : hasNul s = false := by
  unfold hasNul
  rw [noNul_index]
  · rfl
  · intro x hx
    obtain ⟨i, hi, rfl⟩ := List.getElem_of_mem hx
    exact h i (by rw [Array.length_toList] at hi; exact hi)

/-- what the loop over the pieces keeps -/
structure SymInv2 (w w2 wr : World) (NB : Nat) (at_ : List ByteArray) (v : Value) : Prop where
  own : Own wr w.heap.size 9 strE v at_
  blk : wr.heap[NB]? = w2.heap[NB]?
  lt : NB < wr.heap.size
  ne : v.ownBlock ≠ some NB
  below : Below w.heap.size w wr

set_option maxHeartbeats 8000000 in
theorem refSym_calls (v : Value) (dir : List ByteArray) (text : ByteArray) (pol mx : Int) (w : World) (h : Rd w strE v dir) (hz : text.size ≤ 16777216) (hd : dir.length ≤ 16777216) :
    Calls Tryd.prog 17 #[v, .string text, .int .i64 pol, .int .i64 mx] w (SymAns w (symP dir text pol mx)) := by
  have HR := Lib.hid h
  obtain ⟨ao0, c0, rfl⟩ := h.any
  obtain ⟨R, hR⟩ : ∃ R, R = symP dir text pol mx := ⟨_, rfl⟩
  rw [← hR]
  have HRR := Lib.hid hR
  clear hR
  by_cases hp : pol = 0 ∨ pol = 1
  · by_cases h0 : text.size = 0
    · have he := empty_of h0
      have e : R = ([], 90) := by rw [HRR.out]; unfold symP; rw [if_neg (fun h => h hp), if_pos h0]
      have E := Lib.hid e
      clear e h0 h
      rcases hp with rfl | rfl
      all_goals go_enter Tryd.func17, Tryd.ntmps17
      all_goals go_wp2
      all_goals go_ret2
      all_goals exact SymAns.err 90 E.out (Below.refl _ _)
    · have he := full_of h0
      by_cases hm : mx < (text.size : Int)
      · have e : R = ([], 93) := by rw [HRR.out]; unfold symP; rw [if_neg (fun h => h hp), if_neg h0, if_pos hm]
        have E := Lib.hid e
        clear e h0 h
        rcases hp with rfl | rfl
        all_goals go_enter Tryd.func17, Tryd.ntmps17
        all_goals go_wp2
        all_goals go_ret2
        all_goals exact SymAns.err 93 E.out (Below.refl _ _)
      · have E91 := Lib.hid (show hasNul text = true → R = ([], 91) from fun hn => by rw [HRR.out]; unfold symP; rw [if_neg (fun h => h hp), if_neg h0, if_neg hm, if_pos hn])
        have E0 := Lib.hid (show hasNul text = false → pol = 0 → R = ([], 0) from fun hn e => by subst e; rw [HRR.out]; unfold symP; rw [if_neg (fun h => h hp), if_neg h0, if_neg hm, hn]; rfl)
        have h00 : 0 < text.size := by omega
        have hgb : text.data.toList.getD 0 0 = text[0] := by
          have h' : 0 < text.data.toList.length := by rw [Array.length_toList]; exact h00
          simp [List.getD, List.getElem?_eq_getElem h']
          rfl
        have E92 := Lib.hid (show hasNul text = false → pol ≠ 0 → text[0]'h00 = 47 → R = ([], 92) from fun hn hpp hs => by
          rw [HRR.out]; unfold symP
          rw [if_neg (fun h => h hp), if_neg h0, if_neg hm, hn, if_neg (by simp), if_neg hpp, if_pos (by rw [hgb]; exact hs)])
        have EIN := Lib.hid (show hasNul text = false → pol ≠ 0 → text[0]'h00 ≠ 47 → R = match climb dir (pieces text) with | some a => (a, 0) | none => ([], 101) from fun hn hpp hs => by
          rw [HRR.out]; unfold symP
          rw [if_neg (fun h => h hp), if_neg h0, if_neg hm, hn, if_neg (by simp), if_neg hpp, if_neg (by rw [hgb]; exact hs)]
          rfl)
        have hlen : (pieces text).length ≤ text.size + 1 := by
          unfold pieces
          rw [List.length_map]
          have := pcs_len text.data.toList
          rw [Array.length_toList] at this
          exact this
        have HP := Lib.hid (fun w2 => refPieces_calls text w2 (by omega))
        have hpz : pol = 0 ∨ pol ≠ 0 := Classical.em _
        rcases hpz with hpz | hpz
        · subst hpz
          clear hgb h0 h hp
          generalize pieces text = ps at *
          generalize hdn : dir.length = dn at *
          go_enter Tryd.func17, Tryd.ntmps17
          go_wp2
          go_loopg [10] text.size (fun g s10 wr => ∃ i : Nat, s10 = .int .i64 i ∧ i ≤ text.size ∧ text.size - i ≤ g ∧ wr = w ∧ Hid (∀ j (hj : j < text.size), j < i → text[j]'hj ≠ 0))
          case atStart => exact ⟨0, rfl, Nat.zero_le _, by omega, rfl, Lib.hid fun j _ h => absurd h (Nat.not_lt_zero _)⟩
          case round =>
            obtain ⟨i, rfl, hi, hg, rfl, HN⟩ := hrel
            by_cases hlt : i < text.size
            · by_cases hb : text[i]'hlt = 0
              · have e := E91.out (hasNul_hit hlt hb)
                have E := Lib.hid e
                have hb' : (((text[i]'hlt).toNat : Int) == 0) = true := by rw [hb]; rfl
                clear hb e
                go_wp2
                go_ret2
                exact SymAns.err 91 E.out (Below.refl _ _)
              · have hb' : (((text[i]'hlt).toNat : Int) == 0) = false := beq_eq_false_iff_ne.2 fun e => hb (by
                  have : (text[i]'hlt).toNat = 0 := by omega
                  exact UInt8.toNat_inj.1 this)
                have HB := Lib.hid hb
                clear hb
                go_wp2
                go_roundg (text.size - (i + 1))
                case measure => omega
                case rel =>
                  refine ⟨i + 1, by go_num, by omega, Nat.le_refl _, rfl, Lib.hid fun j hj hk => ?_⟩
                  by_cases e : j = i
                  · subst e; exact HB.out
                  · exact HN.out j hj (by omega)
            · have hnn := hasNul_none (s := text) (fun j hj => HN.out j hj (by omega))
              have HNN := Lib.hid hnn
              clear hnn
              have hge : ¬ ((i : Int) < (text.size : Int)) := by omega
              have e := E0.out HNN.out (by first | rfl | trivial)
              have E := Lib.hid e
              clear e
              go_wp2
              go_ret2
              exact SymAns.err 0 E.out (Below.refl _ _)
        · obtain rfl : pol = 1 := by omega
          clear hgb h0 hp hpz
          have HN1 := Lib.hid (show (1 : Int) ≠ 0 by decide)
          generalize pieces text = ps at *
          generalize hdn : dir.length = dn at *
          generalize hpn : ps.length = pn at *
          have HPN := Lib.hid hpn
          have HDN := Lib.hid hdn
          clear hpn hdn h
          go_enter Tryd.func17, Tryd.ntmps17
          go_wp2
          go_loopg [10] text.size (fun g s10 wr => ∃ i : Nat, s10 = .int .i64 i ∧ i ≤ text.size ∧ text.size - i ≤ g ∧ wr = w ∧ Hid (∀ j (hj : j < text.size), j < i → text[j]'hj ≠ 0))
          case atStart => exact ⟨0, rfl, Nat.zero_le _, by omega, rfl, Lib.hid fun j _ h => absurd h (Nat.not_lt_zero _)⟩
          case round =>
            obtain ⟨i, rfl, hi, hg, rfl, HN⟩ := hrel
            by_cases hlt : i < text.size
            · by_cases hb : text[i]'hlt = 0
              · have e := E91.out (hasNul_hit hlt hb)
                have E := Lib.hid e
                have hb' : (((text[i]'hlt).toNat : Int) == 0) = true := by rw [hb]; rfl
                clear hb e
                go_wp2
                go_ret2
                exact SymAns.err 91 E.out (Below.refl _ _)
              · have hb' : (((text[i]'hlt).toNat : Int) == 0) = false := beq_eq_false_iff_ne.2 fun e => hb (by
                  have : (text[i]'hlt).toNat = 0 := by omega
                  exact UInt8.toNat_inj.1 this)
                have HB := Lib.hid hb
                clear hb
                go_wp2
                go_roundg (text.size - (i + 1))
                case measure => omega
                case rel =>
                  refine ⟨i + 1, by go_num, by omega, Nat.le_refl _, rfl, Lib.hid fun j hj hk => ?_⟩
                  by_cases e : j = i
                  · subst e; exact HB.out
                  · exact HN.out j hj (by omega)
            · have hnn := hasNul_none (s := text) (fun j hj => HN.out j hj (by omega))
              have HNN := Lib.hid hnn
              clear hnn
              have hge : ¬ ((i : Int) < (text.size : Int)) := by omega
              by_cases hs : text[0]'h00 = 47
              · have e := E92.out HNN.out HN1.out hs
                have E := Lib.hid e
                have hs' : (((text[0]'h00).toNat : Int) == 47) = true := by rw [hs]; rfl
                clear e hs
                go_wp2
                go_ret2
                exact SymAns.err 92 E.out (Below.refl _ _)
              · have e := EIN.out HNN.out HN1.out hs
                have EI := Lib.hid e
                have hs' : (((text[0]'h00).toNat : Int) == 47) = false := beq_eq_false_iff_ne.2 fun e => hs (by
                  have : (text[0]'h00).toNat = 47 := by omega
                  exact UInt8.toNat_inj.1 this)
                clear e hs
                go_wp2_with (at_builtin; refine wpList_push_all _ rfl (.tmp 42) (.tmp 43) 22 rfl wr.heap.size 9 (.string ⟨#[]⟩) 16 strE Tryd.underlying22 Tryd.info9 rfl wr.heap.size 0 0 [] dir _ rfl (own_empty _ _ _ _ (Nat.le_refl _)) rfl (HR.out.alloc _) (fun _ => rfl) (by have := HDN.out; omega) (by unfold maxLen; have := HDN.out; omega) (by simp) ?_; intro g0 cap0 w1 hown hb1)
                have hb1' := ((Below.refl wr.heap.size wr).alloc (Nat.le_refl _) (.cells #[] 9)).trans hb1
                simp only [Nat.zero_add, List.nil_append] at hown
                try simp only [Nat.zero_add]
                rw [HDN.out] at hown
                try rw [HDN.out]
                have O1 := Lib.hid hown
                have B1 := Lib.hid hb1'
                clear hown hb1 hb1'
                go_wp2_with fail
                refine (HP.out _).mono ?_
                rintro e w2 ⟨NB, cp, rfl, hoP, hbP⟩
                rw [HPN.out]
                have I0 := Lib.hid (show SymInv2 wr w2 w2 NB dir (.slice (some ⟨g0, 0, none⟩) dn cap0) from
                  ⟨O1.out.below' hbP, rfl, (hoP.lt (k := NB) rfl).2, fun e => by have h1 := (hoP.lt (k := NB) rfl).1; have h2 := (O1.out.lt (k := g0) rfl).2; simp [Value.ownBlock] at e; omega, Below.next B1.out hbP⟩)
                have CP := Lib.hid (show ∀ k, k < pn → w2.cell? ⟨NB, k, none⟩ = some (strE (ps.getD k ByteArray.empty)) from fun k hk => by
                  have hk' : k < ps.length := by rw [HPN.out]; exact hk
                  rw [hoP.cell k hk']
                  simp [List.getD, List.getElem?_eq_getElem hk'])
                clear hoP hbP
                have hpl : pn ≤ 16777217 := by omega
                go_wp2_with fail
                go_loopg [11, 13] pn (fun g s11 s13 wx => ∃ (at_ : List ByteArray) (k n gg cap : Nat), s11 = .slice (some ⟨gg, 0, none⟩) n cap ∧ s13 = .int .i64 k ∧ k ≤ pn ∧ pn - k ≤ g ∧ n ≤ dn + k ∧ Hid (n = at_.length) ∧ Hid (climb at_ (ps.drop k) = climb dir ps) ∧ Hid (SymInv2 wr w2 wx NB at_ (.slice (some ⟨gg, 0, none⟩) n cap)))
                case atStart => exact ⟨dir, 0, dn, g0, cap0, rfl, rfl, Nat.zero_le _, by omega, by omega, Lib.hid HDN.out.symm, Lib.hid rfl, I0⟩
                case round =>
                  obtain ⟨at_, k, n, gg, cap, rfl, rfl, hk, hg, hnk, HLN, HCL, IV⟩ := hrel
                  rename World => wx
                  have hwr : wr.heap.size ≤ wx.heap.size := IV.out.below.size
                  by_cases hlt : k < pn
                  · have hkp : k < ps.length := by have := HPN.out; omega
                    have g1 : wx.cell? ⟨NB, k, none⟩ = some (strE (ps.getD k ByteArray.empty)) := by
                      rw [World.cell?_of_block (w := w2) (a := ⟨NB, k, none⟩) IV.out.blk]
                      exact CP.out k hlt
                    have HCD := Lib.hid (climb_drop hkp at_)
                    generalize hx : ps.getD k ByteArray.empty = x at g1
                    have HX := Lib.hid hx
                    clear hx
                    cases q1 : x.toList.isEmpty
                    · cases q2 : (x.toList == [46])
                      · have HK := Lib.hid (show keepB x = true by unfold keepB; rw [q1, q2]; rfl)
                        cases q3 : (x.toList == [46, 46])
                        · have HU := Lib.hid (show isUp x = false from q3)
                          go_wp2_with (at_builtin; refine wpList_pushG wx rfl (.tmp 70) (.tmp 75) 22 rfl wr.heap.size 9 (.string ⟨#[]⟩) 16 strE Tryd.underlying22 Tryd.info9 rfl _ at_ x n rfl IV.out.own HLN.out.symm _ rfl rfl rfl (by omega) (by unfold maxLen; omega) hwr ?_; intro g2 cap2 w3 hown2 hb2 hap2)
                          go_roundg (pn - (k + 1))
                          case measure => omega
                          case rel =>
                            refine ⟨at_ ++ [x], k + 1, n + 1, g2, cap2, rfl, by go_num, by omega, Nat.le_refl _, by omega, Lib.hid (by rw [List.length_append, HLN.out]; rfl), Lib.hid ?_, Lib.hid ?_⟩
                            · have e := HCD.out
                              rw [HX.out, HK.out, HU.out] at e
                              rw [← HCL.out, e]
                              simp
                            · have := hap2 NB IV.out.lt IV.out.ne
                              exact ⟨hown2, by rw [this.2]; exact IV.out.blk, Nat.lt_of_lt_of_le IV.out.lt hb2.size, this.1, IV.out.below.trans hb2⟩
                        · have HU := Lib.hid (show isUp x = true from q3)
                          cases n with
                          | zero =>
                            have e : R = ([], 101) := by
                              rw [EI.out, ← HCL.out, HCD.out, HX.out, HK.out, HU.out]
                              have : at_ = [] := List.eq_nil_of_length_eq_zero HLN.out.symm
                              subst this
                              rfl
                            have E := Lib.hid e
                            clear e
                            go_wp2
                            go_ret2
                            exact SymAns.err 101 E.out IV.out.below
                          | succ m =>
                            have ha : at_ ≠ [] := fun e => by have := HLN.out; rw [e] at this; simp at this
                            have hmc : m + 1 ≤ cap := by have := IV.out.own.len; have := HLN.out; omega
                            have h1 : ¬ ((m : Int) + 1 = 0) := by omega
                            have h2 : (0 : Int) ≤ (m : Int) := by omega
                            have h3 : (m : Int) ≤ (cap : Int) := by omega
                            go_wp2
                            go_roundg (pn - (k + 1))
                            case measure => omega
                            case rel =>
                              refine ⟨at_.dropLast, k + 1, m, gg, cap, by first | rfl | (have := HLN.out; simp; omega), by go_num, by omega, Nat.le_refl _, by omega, Lib.hid (by rw [List.length_dropLast]; have := HLN.out; omega), Lib.hid ?_, Lib.hid ?_⟩
                              · have e := HCD.out
                                rw [HX.out, HK.out, HU.out, if_neg ha] at e
                                rw [← HCL.out, e]
                                simp
                              · have := IV.out.own.cut m (by have := HLN.out; omega)
                                rw [show at_.take m = at_.dropLast by rw [List.dropLast_eq_take]; congr 1; have := HLN.out; omega] at this
                                exact ⟨this, IV.out.blk, IV.out.lt, IV.out.ne, IV.out.below⟩
                      · have HK := Lib.hid (show keepB x = false by unfold keepB; rw [q1, q2]; rfl)
                        go_wp2
                        go_roundg (pn - (k + 1))
                        case measure => omega
                        case rel =>
                          refine ⟨at_, k + 1, n, gg, cap, rfl, by go_num, by omega, Nat.le_refl _, by omega, HLN, Lib.hid ?_, IV⟩
                          have e := HCD.out
                          rw [HX.out, HK.out] at e
                          rw [← HCL.out, e]
                          simp
                    · have HK := Lib.hid (show keepB x = false by unfold keepB; rw [q1]; rfl)
                      go_wp2
                      go_roundg (pn - (k + 1))
                      case measure => omega
                      case rel =>
                        refine ⟨at_, k + 1, n, gg, cap, rfl, by go_num, by omega, Nat.le_refl _, by omega, HLN, Lib.hid ?_, IV⟩
                        have e := HCD.out
                        rw [HX.out, HK.out] at e
                        rw [← HCL.out, e]
                        simp
                  · have hkn : k = pn := by omega
                    have e : R = (at_, 0) := by
                      have hc := HCL.out
                      rw [hkn, ← HPN.out, List.drop_length] at hc
                      rw [EI.out, ← hc]
                      rfl
                    have E := Lib.hid e
                    clear e
                    have hle : ¬ ((k : Int) < (pn : Int)) := by omega
                    go_wp2
                    go_ret2
                    rw [E.out]
                    refine ⟨some ⟨gg, 0, none⟩, cap, ?_, ?_, IV.out.below⟩
                    · simp only
                      rw [← HLN.out]
                      rfl
                    · simp only
                      rw [← HLN.out]
                      exact IV.out.own
  · have e : R = ([], 100) := by rw [HRR.out]; unfold symP; rw [if_pos hp]
    have E := Lib.hid e
    have h1 : (pol != 0) = true := bne_iff_ne.2 (fun e => hp (Or.inl e))
    have h2 : (pol != 1) = true := bne_iff_ne.2 (fun e => hp (Or.inr e))
    clear e h hp
    go_enter Tryd.func17, Tryd.ntmps17
    go_wp2
    go_ret2
    exact SymAns.err 100 E.out (Below.refl _ _)
end Go.Proofs.YthhggganhegfhaaDoor
