/-
  TargetRelatives: for every two lists of texts that are together of bulk at most 1048576, TargetRelatives returns true.
-/
import Derived.Test.YthhggganhegfhaaRelative
import Derived.Test.YthhggganhegfhaaRouteJoins
import Derived.ShutString
import Derived.Deep.DeepCutAuto
import Derived.Deep.CutBlock
namespace Go.Proofs.Ythhggganhegfhaa
open Go.ChangeShapes Go.WideShapes Go.ChangeAt Go.RowKit
open Go.ChangeMaps (open_string shut_string)
set_option linter.unusedVariables false

theorem rest_at {w : World} {b o c k : Nat} {xs : List ByteArray} (h1 : xs.length ≤ c) (h2 : c ≤ maxLen) (hk : k ≤ xs.length) (hc : ∀ i (h : i < xs.length), w.cell? ⟨b, o + i, none⟩ = some (strE (xs[i]))) :
    ∀ (a : Nat) (n : Nat), n = (xs.drop k).length → (n = 0 ∨ a = o + k) → Rd w strE (.slice (some ⟨b, a, none⟩) n (c - k)) (xs.drop k) := by
  intro a n hn ha
  subst hn
  refine ⟨some ⟨b, a, none⟩, c - k, rfl, by rw [List.length_drop]; omega, by omega, (fun h => by cases h), fun hne => ⟨b, a, rfl, fun i hi => ?_⟩⟩
  rcases ha with h0 | rfl
  · omega
  · rw [List.length_drop] at hi
    rw [show o + k + i = o + (k + i) by omega, hc (k + i) (by omega)]
    simp

theorem joinB_dots : relB [⟨#[97]⟩, ⟨#[98]⟩] [⟨#[97]⟩, ⟨#[99]⟩] = ⟨#[46, 46, 47, 99]⟩ := by
  have e : dropC [⟨#[97]⟩, ⟨#[98]⟩] [⟨#[97]⟩, ⟨#[99]⟩] = ([⟨#[98]⟩], [⟨#[99]⟩]) := by
    rw [dropC_eq, dropC_ne (by decide)]
  unfold relB relL
  rw [e]
  rw [if_neg (by simp)]
  decide

set_option maxHeartbeats 8000000 in
theorem refRelative_calls (v1 v2 : Value) (f t : List ByteArray) (w : World) (h1 : Rd w strE v1 f) (h2 : Rd w strE v2 t) (hk : 3 * f.length + tbulk t ≤ 4194304) :
    Calls Try.prog 14 #[v1, v2] w fun e w' => e = .returned (.string (relB f t)) ∧ Below w.heap.size w w' := by
  have hrel := relL_tb f t
  obtain ⟨RR, hR⟩ : ∃ RR, RR = relB f t := ⟨_, rfl⟩
  rw [← hR]
  have HR : Hid (RR = (if List.replicate (dropC f t).1.length dotsB ++ (dropC f t).2 = [] then ⟨#[46]⟩ else joinB (List.replicate (dropC f t).1.length dotsB ++ (dropC f t).2))) := Lib.hid hR
  have HT : Hid (tbulk (List.replicate (dropC f t).1.length dotsB ++ (dropC f t).2) ≤ 4194304) := Lib.hid (Nat.le_trans hrel hk)
  clear hR hrel
  have R1 := Lib.hid h1
  have R2 := Lib.hid h2
  have hfl : f.length ≤ 4194304 := by omega
  have htl : t.length ≤ 4194304 := by have := tbulk_len t; omega
  have C1 := Lib.hid h1.cases
  have C2 := Lib.hid h2.cases
  obtain ⟨ao1, c1, rfl⟩ := h1.any
  obtain ⟨ao2, c2, rfl⟩ := h2.any
  clear h1 h2 hk
  obtain ⟨n1, hn1⟩ : ∃ n1, n1 = f.length := ⟨_, rfl⟩
  obtain ⟨n2, hn2⟩ : ∃ n2, n2 = t.length := ⟨_, rfl⟩
  have HN1 := Lib.hid hn1
  have HN2 := Lib.hid hn2
  rw [← hn1] at R1 hfl ⊢
  rw [← hn2] at R2 htl ⊢
  have F1 := Lib.hid (show ∀ k, k < n1 → ∃ b o, ao1 = some ⟨b, o, none⟩ ∧ w.cell? ⟨b, o + k, none⟩ = some (strE (f.getD k ByteArray.empty)) from fun k hk => by
    rcases C1.out with ⟨e, _⟩ | ⟨_, b, o, c, hv, _, _, hc⟩
    · rw [hn1, e] at hk; simp at hk
    · simp only [Value.slice.injEq] at hv
      refine ⟨b, o, hv.1, ?_⟩
      rw [hc k (by omega)]
      simp [List.getD, List.getElem?_eq_getElem (show k < f.length by omega)])
  have F2 := Lib.hid (show ∀ k, k < n2 → ∃ b o, ao2 = some ⟨b, o, none⟩ ∧ w.cell? ⟨b, o + k, none⟩ = some (strE (t.getD k ByteArray.empty)) from fun k hk => by
    rcases C2.out with ⟨e, _⟩ | ⟨_, b, o, c, hv, _, _, hc⟩
    · rw [hn2, e] at hk; simp at hk
    · simp only [Value.slice.injEq] at hv
      refine ⟨b, o, hv.1, ?_⟩
      rw [hc k (by omega)]
      simp [List.getD, List.getElem?_eq_getElem (show k < t.length by omega)])
  have DST := Lib.hid (show ∀ k, k < n1 → k < n2 → f.getD k ByteArray.empty = t.getD k ByteArray.empty → dropC (f.drop k) (t.drop k) = dropC (f.drop (k + 1)) (t.drop (k + 1)) from fun k h1 h2 h => by
    rw [List.drop_eq_getElem_cons (show k < f.length by omega), List.drop_eq_getElem_cons (show k < t.length by omega)]
    simp [List.getD, List.getElem?_eq_getElem (show k < f.length by omega), List.getElem?_eq_getElem (show k < t.length by omega)] at h
    rw [h, dropC_eq])
  have DNE := Lib.hid (show ∀ k, k < n1 → k < n2 → f.getD k ByteArray.empty ≠ t.getD k ByteArray.empty → dropC (f.drop k) (t.drop k) = (f.drop k, t.drop k) from fun k h1 h2 h => by
    rw [List.drop_eq_getElem_cons (show k < f.length by omega), List.drop_eq_getElem_cons (show k < t.length by omega)]
    simp [List.getD, List.getElem?_eq_getElem (show k < f.length by omega), List.getElem?_eq_getElem (show k < t.length by omega)] at h
    rw [dropC_ne h])
  have DE1 := Lib.hid (show dropC (f.drop n1) (t.drop n1) = (f.drop n1, t.drop n1) from by rw [hn1, List.drop_length, dropC_nil])
  have DE2 := Lib.hid (show dropC (f.drop n2) (t.drop n2) = (f.drop n2, t.drop n2) from by rw [hn2, List.drop_length, dropC_nil2])
  clear hn1 hn2 C1
  go_enter Try.func14, Try.ntmps14
  go_upto_block 0 with fail
  go_cut [5] (fun s5 wx => ∃ k : Nat, s5 = .int .i64 k ∧ k ≤ n1 ∧ k ≤ n2 ∧ Hid (dropC f t = (f.drop k, t.drop k)) ∧ Hid (Drawn w wx))
  case first =>
    go_wp2_with fail
    go_loopg [5] n1 (fun g s5 wr => ∃ k : Nat, s5 = .int .i64 k ∧ k ≤ n1 ∧ k ≤ n2 ∧ n1 - k ≤ g ∧ Hid (dropC f t = dropC (f.drop k) (t.drop k)) ∧ Hid (Drawn w wr))
    case atStart => exact ⟨0, rfl, Nat.zero_le _, Nat.zero_le _, by omega, Lib.hid rfl, Lib.hid (Drawn.refl _)⟩
    case round =>
      obtain ⟨k, rfl, hk1, hk2, hg, DC, DW⟩ := hrel
      rename World => wr
      by_cases z1 : k = n1
      · have EE := Lib.hid (show dropC (f.drop k) (t.drop k) = (f.drop k, t.drop k) by rw [z1]; exact DE1.out)
        have FIN := Lib.hid (DC.out.trans EE.out)
        have K1 := Lib.hid hk1
        have K2 := Lib.hid hk2
        clear EE hk1 DC
        obtain rfl : n1 = k := z1.symm
        go_wp2_with fail
        go_region
        go_wp2_with fail
        go_meet
        exact ⟨n1, rfl, K1.out, K2.out, FIN, Lib.hid DW.out.drew⟩
      · have hz1 : (k : Int) < (n1 : Int) := by omega
        by_cases z2 : k = n2
        · have EE := Lib.hid (show dropC (f.drop k) (t.drop k) = (f.drop k, t.drop k) by rw [z2]; exact DE2.out)
          have FIN := Lib.hid (DC.out.trans EE.out)
          have K1 := Lib.hid hk1
          have K2 := Lib.hid hk2
          clear z1 EE hk1 hk2 DC
          obtain rfl : n2 = k := z2.symm
          go_wp2_with fail
          go_region
          go_wp2_with fail
          go_meet
          exact ⟨n2, rfl, K1.out, K2.out, FIN, Lib.hid DW.out.drew⟩
        · have hz2 : (k : Int) < (n2 : Int) := by omega
          obtain ⟨b1, o1, rfl, g1⟩ := F1.out k (by omega)
          obtain ⟨b2, o2, rfl, g2⟩ := F2.out k (by omega)
          rw [← DW.out.cell] at g1 g2
          have DST' := Lib.hid (DST.out k (by omega) (by omega))
          have DNE' := Lib.hid (DNE.out k (by omega) (by omega))
          generalize f.getD k ByteArray.empty = x at g1 DST' DNE'
          generalize t.getD k ByteArray.empty = y at g2 DST' DNE'
          by_cases hxy : x = y
          · have e1 := DST'.out hxy
            have DC2 := Lib.hid (show dropC f t = dropC (f.drop (k + 1)) (t.drop (k + 1)) by rw [DC.out, e1])
            subst hxy
            clear e1 DST' DNE'
            go_wp2_with fail
            go_region
            go_wp2
            go_roundg (n1 - (k + 1))
            case measure => omega
            case rel => exact ⟨k + 1, by go_num, by omega, by omega, Nat.le_refl _, DC2, Lib.hid DW.out.drew⟩
          · have hxy' : (x.toList == y.toList) = false := (Lib.bytes_beq_false_iff _ _).2 hxy
            have FIN := Lib.hid (DC.out.trans (DNE'.out hxy))
            have K1 := Lib.hid hk1
            have K2 := Lib.hid hk2
            clear hxy DST' DNE' DC
            go_wp2_with fail
            go_region
            go_wp2_with fail
            go_meet
            exact ⟨k, rfl, K1.out, K2.out, FIN, Lib.hid DW.out.drew⟩
  case rest =>
    rename World => wr
    obtain ⟨k, rfl, hk1, hk2, DC, DW⟩ := hcut
    clear F1 F2 DST DNE DE1 DE2
    have F : Hid (RR = (if List.replicate (n1 - k) dotsB ++ t.drop k = [] then ⟨#[46]⟩ else joinB (List.replicate (n1 - k) dotsB ++ t.drop k)) ∧ tbulk (List.replicate (n1 - k) dotsB ++ t.drop k) ≤ 4194304) := Lib.hid (by
      have x1 := HR.out
      have x2 := HT.out
      rw [DC.out] at x1 x2
      simp only [List.length_drop] at x1 x2
      rw [← HN1.out] at x1 x2
      exact ⟨x1, x2⟩)
    have L0 := Lib.hid (show Below w.heap.size w wr from DW.out.below _)
    have hws : w.heap.size ≤ wr.heap.size := L0.out.size
    clear DC HR HT
    go_wp2_with fail
    go_loopg [6, 7] n1 (fun g s6 s7 wx => ∃ (i p gg cap : Nat), s6 = .slice (some ⟨gg, 0, none⟩) p cap ∧ s7 = .int .i64 i ∧ k ≤ i ∧ i ≤ n1 ∧ n1 - i ≤ g ∧ Hid (p = i - k) ∧ p ≤ 4194304 ∧ Hid (Own wx w.heap.size 9 strE (.slice (some ⟨gg, 0, none⟩) p cap) (List.replicate p dotsB)) ∧ Hid (Below w.heap.size w wx))
    case atStart => exact ⟨k, 0, wr.heap.size, 0, rfl, rfl, Nat.le_refl _, hk1, by omega, Lib.hid (by omega), by omega, Lib.hid (own_empty wr w.heap.size 9 strE hws), Lib.hid (L0.out.alloc hws _)⟩
    case round =>
      obtain ⟨i, p, gg, cap, rfl, rfl, hki, hi1, hg2, HPK, hpm, OO, OB⟩ := hrel
      rename World => wx
      have hwx : w.heap.size ≤ wx.heap.size := OB.out.size
      by_cases hlt2 : i < n1
      · have hlz : (i : Int) < (n1 : Int) := by omega
        go_wp2_with (at_builtin; refine wpList_push wx rfl (.tmp 39) (.tmp 40) 22 rfl w.heap.size 9 (.string ⟨#[]⟩) 16 strE Try.underlying22 Try.info9 rfl _ (List.replicate p dotsB) dotsB p rfl OO.out (by simp) _ rfl rfl rfl (by omega) (by unfold maxLen; omega) hwx ?_; intro g3 cap3 w3 hown3 hb3)
        go_roundg (n1 - (i + 1))
        case measure => omega
        case rel => exact ⟨i + 1, p + 1, g3, cap3, rfl, by go_num, by omega, by omega, Nat.le_refl _, Lib.hid (by have := HPK.out; omega), by have := HPK.out; omega, Lib.hid (by rw [List.replicate_succ']; exact hown3), Lib.hid (OB.out.trans hb3)⟩
      · have hlz : ¬ ((i : Int) < (n1 : Int)) := by omega
        have F2' : Hid (RR = (if List.replicate p dotsB ++ t.drop k = [] then ⟨#[46]⟩ else joinB (List.replicate p dotsB ++ t.drop k)) ∧ tbulk (List.replicate p dotsB ++ t.drop k) ≤ 4194304) := Lib.hid (by rw [show p = n1 - k by have := HPK.out; omega]; exact F.out)
        have HLT := Lib.hid (show (t.drop k).length = n2 - k by rw [List.length_drop, ← HN2.out])
        obtain ⟨q, hq⟩ : ∃ q, p + (t.drop k).length = q := ⟨_, rfl⟩
        have HQ := Lib.hid hq
        have hlr := Lib.hid (show (List.replicate p dotsB ++ t.drop k).length = q by rw [List.length_append, List.length_replicate]; exact hq)
        have hq2 : q ≤ 8388608 := by have := HLT.out; omega
        clear hq F hki hi1 hlt2
        go_upto_region 9 with fail
        go_cut [1, 6] (fun _ s6 wz => ∃ (g cap : Nat), s6 = .slice (some ⟨g, 0, none⟩) q cap ∧ Hid (Own wz w.heap.size 9 strE (.slice (some ⟨g, 0, none⟩) q cap) (List.replicate p dotsB ++ t.drop k)) ∧ Hid (Below w.heap.size w wz))
        case first =>
          rcases C2.out with ⟨e2, aoz, cz, hvz⟩ | ⟨hp2, bb, oo, cc, hv2, kk, ll, ccl⟩
          · have hk0 : k = 0 := by have := HN2.out; rw [e2] at this; simp at this; omega
            have hn20 : n2 = 0 := by have := HN2.out; rw [e2] at this; simpa using this
            have RT := Lib.hid (show Rd wx strE (.slice ao2 0 c2) (t.drop 0) by have h := R2.out.below OB.out; rw [hn20] at h; exact h)
            clear e2 hvz hk2
            subst hk0
            subst hn20
            go_wp2_with (at_builtin; refine wpList_push_all wx rfl (.tmp 42) (.tmp 45) 22 rfl w.heap.size 9 (.string ⟨#[]⟩) 16 strE Try.underlying22 Try.info9 rfl gg p cap (List.replicate p dotsB) (t.drop 0) _ rfl OO.out rfl (by exact RT.out) (fun _ => rfl) (by have := HLT.out; omega) (by unfold maxLen; have := HLT.out; omega) (by exact OB.out.size) ?_; intro g3 cap3 w3 hown3 hb3; rw [HQ.out] at hown3 ⊢)
            have O3 := Lib.hid hown3
            have L3 := Lib.hid (OB.out.trans hb3)
            clear hown3 hb3
            go_meet
            exact ⟨g3, cap3, rfl, O3, L3⟩
          · simp only [Value.slice.injEq] at hv2
            obtain ⟨rfl, hx2, rfl⟩ := hv2
            have RA := Lib.hid (fun a n h1 h2 => (rest_at (k := k) kk ll (by rw [← HN2.out]; exact hk2) ccl a n h1 h2).below OB.out)
            have i1 : (k : Int) ≤ (n2 : Int) := by omega
            have i4 : n2 ≤ c2 := by have := HN2.out; omega
            have i3 : k ≤ c2 := by omega
            have i2 : (k : Int) ≤ (c2 : Int) := by omega
            have i5 : c2 ≤ 9223372036854775807 := by unfold maxLen at ll; omega
            clear hx2 kk ll ccl hp2
            go_wp2_with (at_builtin; refine wpList_push_all wx rfl (.tmp 42) (.tmp 45) 22 rfl w.heap.size 9 (.string ⟨#[]⟩) 16 strE Try.underlying22 Try.info9 rfl gg p cap (List.replicate p dotsB) (t.drop k) _ rfl OO.out rfl (by first | exact RA.out _ _ (by have := HLT.out; omega) (Or.inr rfl) | (split <;> first | exact RA.out _ _ (by have := HLT.out; omega) (Or.inr rfl) | exact RA.out _ _ (by have := HLT.out; omega) (Or.inl (by omega)))) (fun _ => rfl) (by have := HLT.out; omega) (by unfold maxLen; have := HLT.out; omega) (by exact OB.out.size) ?_; intro g3 cap3 w3 hown3 hb3; rw [HQ.out] at hown3 ⊢)
            all_goals
              have O3 := Lib.hid hown3
              have L3 := Lib.hid (OB.out.trans hb3)
              clear hown3 hb3
              go_meet
              exact ⟨g3, cap3, rfl, O3, L3⟩
        case rest =>
          rename World => wz
          obtain ⟨g3, cap3, rfl, O3, L3⟩ := hcut
          by_cases zz : q = 0
          · have zq : ((q : Int) == 0) = true := by rw [zz]; rfl
            have E := Lib.hid (show RR = ⟨#[46]⟩ by
              rw [F2'.out.1, if_pos (List.eq_nil_of_length_eq_zero (by rw [hlr.out]; exact zz))])
            clear zz
            go_wp2_with fail
            go_ret
            exact ⟨by rw [E.out]; rfl, L3.out⟩
          · have zq : ((q : Int) == 0) = false := beq_eq_false_iff_ne.2 (by omega)
            have E := Lib.hid (show RR = joinB (List.replicate p dotsB ++ t.drop k) by
              rw [F2'.out.1, if_neg (fun e => zz (by rw [← hlr.out, e]; rfl))])
            have JC := Lib.hid (fun wz u (hu : Rd wz strE u (List.replicate p dotsB ++ t.drop k)) => refJoin_calls u _ wz hu F2'.out.2)
            rw [← E.out] at JC
            have O4 := Lib.hid O3.out.rd
            clear zz E O3
            go_wp2_with fail
            refine (JC.out _ _ O4.out).mono ?_
            rintro e w4 ⟨rfl, rfl⟩
            go_wp2
            go_ret
            exact ⟨rfl, L3.out⟩

set_option maxHeartbeats 4000000 in
theorem targetRelatives_calls (v1 : Value) (f : List ByteArray) (v2 : Value) (t : List ByteArray) (w : World) (h1 : Rd w strE v1 f) (z1 : f.length * 16 ≤ 140737488351232) (h2 : Rd w strE v2 t) (z2 : t.length * 16 ≤ 140737488351232) (hk : tbulk f + tbulk t ≤ 1048576) :
    Calls Try.prog 5 #[v1, v2] w (Holds w) := by
  have hf := tbulk_len f
  have hA := rd_lit w strE [⟨#[97]⟩, ⟨#[98]⟩] 9 _ rfl (by decide)
  have hB := rd_lit (w.alloc (.cells #[.string ⟨#[97]⟩, .string ⟨#[98]⟩] 9)) strE [⟨#[97]⟩, ⟨#[99]⟩] 9 (w.heap.size + 1) (by simp) (by decide)
  have hc := relative_calls _ _ _ _ _ (hA.alloc (.cells #[.string ⟨#[97]⟩, .string ⟨#[99]⟩] 9)) hB (by decide)
  rw [joinB_dots] at hc
  have HC := Lib.hid hc
  have H1 := Lib.hid h1
  have H2 := Lib.hid h2
  have P1 := Lib.hid (fun wz u v (hu : Rd wz strE u f) (hv : Rd wz strE v t) => relative_calls u v f t wz hu hv (by omega))
  have P2 := Lib.hid (fun wz u v (hu : Rd wz strE u f) (hv : Rd wz strE v t) => refRelative_calls u v f t wz hu hv (by omega))
  generalize relB f t = RR at *
  obtain ⟨ao1, c1, rfl⟩ := h1.any
  obtain ⟨ao2, c2, rfl⟩ := h2.any
  clear h1 h2 hA hB hc hf hk
  have hb0 : Below w.heap.size w ((w.alloc (.cells #[.string ⟨#[97]⟩, .string ⟨#[98]⟩] 9)).alloc (.cells #[.string ⟨#[97]⟩, .string ⟨#[99]⟩] 9)) := ((Below.refl _ _).alloc (Nat.le_refl _) _).alloc (by simp) _
  go_enter Try.func5, Try.ntmps5
  go_wp2_with fail
  refine HC.out.mono ?_
  rintro e w1 ⟨rfl, hd1⟩
  have hb1 := hb0.trans (hd1.mono hb0.size)
  clear hb0 hd1
  go_wp2_with fail
  refine (copyTexts_calls _ f w1 (H1.out.below hb1) (by omega)).mono ?_
  rintro e w2 ⟨g1, k1, rfl, ho1, hb2⟩
  have hbb2 := Below.next hb1 hb2
  go_wp2_with fail
  refine (copyTexts_calls _ t w2 (H2.out.below hbb2) (by omega)).mono ?_
  rintro e w3 ⟨g2, k2, rfl, ho2, hb3⟩
  have hbb3 := Below.next hbb2 hb3
  have R1 := Lib.hid (ho1.rd.below hb3)
  have R2 := Lib.hid ho2.rd
  clear ho1 ho2 hb1 hb2 hb3 hbb2
  go_wp2_with fail
  refine (P1.out w3 _ _ R1.out R2.out).mono ?_
  rintro e w4 ⟨rfl, hb4⟩
  have X1 := Lib.hid (R1.out.below hb4)
  have X2 := Lib.hid (R2.out.below hb4)
  have L4 := Lib.hid (Below.next hbb3 hb4)
  clear hb4 hbb3 R1 R2
  go_wp2_with fail
  refine (P2.out w4 _ _ (H1.out.below L4.out) (H2.out.below L4.out)).mono ?_
  rintro e w5 ⟨rfl, hb5⟩
  have Y1 := Lib.hid (X1.out.below hb5)
  have Y2 := Lib.hid (X2.out.below hb5)
  have L5 := Lib.hid (Below.next L4.out hb5)
  clear hb5
  go_wp2_with fail
  refine (sameTexts_calls _ _ f f w5 Y1.out (H1.out.below L5.out)).mono ?_
  rintro e w6 ⟨rfl, hd6⟩
  have L6 := Lib.hid (L5.out.trans (hd6.below _))
  have Z2 := Lib.hid (Y2.out.drawn hd6)
  clear hd6
  go_wp2_with fail
  refine (sameTexts_calls _ _ t t w6 Z2.out (H2.out.below L6.out)).mono ?_
  rintro e w7 ⟨rfl, hd7⟩
  go_wp2
  go_ret
  exact ⟨by simp, L6.out.trans (hd7.below _)⟩

theorem targetRelatives_core {H : Type} (enc : TypeId × Value → H) (W : World) (base : Nat) (args : Array Value) (ds : List (DataW H)) (before : List MemPlace)
    (hval : ∀ (j : Nat) t v, Try.f5.params[j]? = some t → args[j]? = some v → Value.okWide Try.prog W .any base t v)
    (hW : DataW.Whole enc Try.prog Try.f5.params.toList [] false W args.toList ds [] before) (hk : Rows.uptoSmall H (ds ++ []) = true)
    (hsz : (DataW.weightsEach Try.prog (Try.f5.params.toList ++ []) (ds ++ [])).all (· ≤ reachBytes) = true) (hsh : W.ShapedOpen Try.prog) :
    Calls Try.prog 5 args W (Holds W) := by
  obtain ⟨p, q, hA0, hV, rfl, _, _⟩ := hW
  have hA : DataW.TrodAll enc Try.prog W 0 (fun _ => true) true Try.f5.params.toList args.toList ds p := hA0
  rw [Try.params5] at hA hval hsz
  obtain ⟨v0, vs0, d0, ds0, p0, q0, hargs, rfl, rfl, h0, r0⟩ := trodAll_cons hA
  obtain ⟨v1, vs1, d1, ds1, p1, q1, rfl, rfl, rfl, h1, r1⟩ := trodAll_cons r0
  obtain ⟨rfl, rfl, rfl⟩ := trodAll_nil r1
  obtain rfl : args = #[v0, v1] := by cases args; simp_all
  obtain ⟨a0, rd0, td0, ws0⟩ := open_texts (hval 0 _ v0 rfl rfl) h0
  have z0 := texts_bound hsz (j := 0) rfl rfl td0
  obtain ⟨a1, rd1, td1, ws1⟩ := open_texts (hval 1 _ v1 rfl rfl) h1
  have z1 := texts_bound hsz (j := 1) rfl rfl td1
  have bk0 : tbulk a0 ≤ Rows.uptoBulk d0 := tbulk_le td0
  have bk1 : tbulk a1 ≤ Rows.uptoBulk d1 := tbulk_le td1
  have hkk : tbulk a0 + tbulk a1 ≤ 1048576 := by
    have hk2 := of_decide_eq_true hk
    simp only [List.cons_append, List.nil_append, Rows.uptoBulkAll] at hk2
    omega
  exact targetRelatives_calls v0 a0 v1 a1 W rd0 z0 rd1 z1 hkk

set_option maxRecDepth 100000 in
theorem targetRelatives_reads (os : Os) {H : Type} (enc : TypeId × Value → H) : ∃ places, DataW.whole enc Try.prog ((World.holding Try.prog os ⟨#[], #[], []⟩).forCall (fun _ _ => 0) ⟨#[], #[.slice none 0 0, .slice none 0 0], []⟩).memory Try.f5.params.toList Rows.targetRelativesSpec.vars false (#[.slice none 0 0, .slice none 0 0] : Array Value).toList 8 = some ([.nil, .nil], [], places) :=
  ⟨[], by kernel_rfl⟩
set_option maxRecDepth 100000 in
theorem targetRelatives_lifted (os : Os) (started : os.Started) (H : Type) (enc : TypeId × Value → H) (F : Stop.Interp) :
    ReturnsInHanded {} Try.checked os 5 .any ((Rows.OpenSpec.upto Rows.targetRelativesSpec).preRow enc Try.prog Try.f5 Rows.targetRelativesUptoRow.domain false Rows.targetRelativesUptoRow.laid) (((Rows.OpenSpec.upto Rows.targetRelativesSpec).at F).post enc Try.prog Try.f5 false true false false) := by
  obtain ⟨places, hx⟩ := targetRelatives_reads os enc
  refine returnsInHanded_of_row (C := Try.checked) (s := Rows.OpenSpec.upto Rows.targetRelativesSpec) own started (by kernel_rfl) Try.func5
    (witness_row_at (enc := enc) (C := Try.checked) false (World.holding Try.prog os ⟨#[], #[], []⟩) #[.slice none 0 0, .slice none 0 0] rfl (by kernel_rfl) (by kernel_rfl) (by kernel_rfl)
      (OpenSpec.preRow_of_cond 8 hx (by kernel_rfl) (fun k hk => by cases hk; kernel_rfl) (by kernel_rfl) (laidMetH_nil _ _))) ?_
  intro W base args ds gs before hval hW _ hcond hsz hL hsh _
  obtain rfl : gs = [] := by
    obtain ⟨p, q, hA0, hV, _⟩ := hW
    exact (trodVars_none hV).1
  obtain ⟨d0, d1, rfl⟩ : ∃ d0 d1, ds = [d0, d1] := by
    obtain ⟨p, q, hA0, _⟩ := hW
    have hA : DataW.TrodAll enc Try.prog W 0 (fun _ => true) true Try.f5.params.toList args.toList ds p := hA0
    rw [Try.params5] at hA
    obtain ⟨v0, vs0, d0, ds0, p0, q0, _, rfl, _, _, r0⟩ := trodAll_cons hA
    obtain ⟨v1, vs1, d1, ds1, p1, q1, _, rfl, _, _, r1⟩ := trodAll_cons r0
    obtain ⟨_, rfl, _⟩ := trodAll_nil r1
    exact ⟨_, _, rfl⟩
  refine (targetRelatives_core enc W base args _ before hval hW (hcond _ rfl) hsz hsh).mono fun e W' ⟨he, hb⟩ => ?_
  subst he
  exact ⟨_, rfl, law_post hW rfl (fun t ht => by rw [Try.params5] at ht; simp only [List.mem_cons, List.not_mem_nil, or_false] at ht; rcases ht with rfl | rfl <;> exact ⟨by kernel_rfl, of_decide_eq_true (by kernel_rfl)⟩) rfl rfl rfl rfl hb⟩
theorem targetRelatives_saidUpto : Rows.TargetRelativesUptoSaid :=
  OpenClaim.holds_of_cond 5 Try.f5 rfl rfl rfl rfl rfl rfl rfl ⟨rfl, rfl, rfl, rfl, rfl⟩ rfl rfl rfl rfl rfl (by kernel_rfl) Try.func5 (by kernel_rfl)
    (of_decide_eq_true (by kernel_rfl)) (by unfold Func.isWrapper; first | (rw [if_pos (by decide +kernel)]; kernel_rfl) | (rw [if_neg (by decide +kernel)]; exact ⟨rfl, rfl⟩))
    (fun os started H enc _ F => by rw [OpenClaim.pre_eq_preRow]; exact targetRelatives_lifted os started H enc F)
end Go.Proofs.Ythhggganhegfhaa
