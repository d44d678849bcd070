/-
  The walk of the document's hits: does one of the patterns match the text or a beginning ahead of a stroke?
-/
import Derived.Test.YtejcpngmllciiaaRefMatch
import Derived.Test.YtejcpngmllciiaaHits
import Derived.Test.YtejcpngmllciiaaCopySame
namespace Go.Proofs.Ytejcpngmllciiaa
open Go.RowKit
set_option linter.unusedVariables false

/-- the plain answers -/
def hitP (p l : List UInt8) : Bool := match parse p with | none => false | some ts => hitB (fun k => row ts l ts.length k) l
def hitAny (xs : List ByteArray) (l : List UInt8) : Bool := xs.any fun p => hitP p.data.toList l
def Good (p : ByteArray) : Prop := p.size ≤ 4096 ∧ ∃ ts, parse p.data.toList = some ts

theorem prefix_calls (w : World) (N : Nat) (v : Value) (ts : List Tok) (t : ByteArray) (i : Nat) (h : OwnM w N 58 257 encP v ts) (hk : Kinds ts) (hn : ts.length ≤ 5000) (ht : t.size ≤ 200) (hi : i ≤ t.size) :
    Calls Try.prog 25 #[v, .string (t.extract 0 i)] w fun e w' => e = .returned (.bool (row ts t.data.toList ts.length i)) ∧ Below w.heap.size w w' := by
  have hsz : (t.extract 0 i).size = i := by rw [ByteArray.size_extract]; omega
  have hrow : row ts (t.extract 0 i).data.toList ts.length (t.extract 0 i).size = row ts t.data.toList ts.length i := by
    rw [hsz]
    refine row_take _ _ fun k hk => ?_
    unfold bt
    rw [ByteArray.data_extract, Array.toList_extract]
    simp [List.getD, List.extract, hk]
  have := matches_calls w N v ts (t.extract 0 i) h hk hn (by omega)
  rw [hrow] at this
  exact this

set_option maxHeartbeats 2000000 in
theorem refHits_calls (w : World) (v : Value) (xs : List ByteArray) (t : ByteArray) (h : Rd w strE v xs) (hg : ∀ p ∈ xs, Good p) (ht : t.size ≤ 200) :
    Calls Try.prog 27 #[v, .string t] w fun e w' => e = .returned (.bool (hitAny xs t.data.toList)) ∧ Below w.heap.size w w' := by
  obtain ⟨ao, c, rfl⟩ := h.any
  have R0 := Lib.hid h
  have G := Lib.hid hg
  clear h hg
  go_enter Try.func27, Try.ntmps27
  go_wp2_with fail
  have hln : xs.length ≤ 9223372036854775807 := R0.out.len
  generalize hn : xs.length = n at *
  have HN := Lib.hid hn
  clear hn
  go_loopg [5, 6, 7, 8] n (fun g s5 s6 s7 s8 wr => ∃ k : Nat, k ≤ n ∧ n - k ≤ g ∧ s5 = .int .i64 k ∧ (xs.take k).any (fun p => hitP p.data.toList t.data.toList) = false ∧ Below w.heap.size w wr)
  case atStart => exact ⟨0, Nat.zero_le _, by omega, rfl, rfl, Below.refl _ _⟩
  case round =>
    obtain ⟨k, hk, hg, rfl, hno, hX⟩ := hrel
    have XB := Lib.hid hX
    have NO := Lib.hid hno
    clear hX hno
    by_cases hkn : k < n
    · have hkx : k < xs.length := by rw [HN.out]; exact hkn
      obtain ⟨p, hp⟩ : ∃ p, p = xs[k] := ⟨_, rfl⟩
      have GP := Lib.hid (G.out p (by rw [hp]; exact List.getElem_mem _))
      have RD := Lib.hid (R0.out.below XB.out)
      obtain ⟨⟨b, o, rfl, hcl⟩⟩ : Nonempty (∃ b o, ao = some ⟨b, o, none⟩ ∧ wr.cell? ⟨b, o + k, none⟩ = some (.string p)) := by
        obtain ⟨ao', c', hv, h1, h2, h3, h4⟩ := RD.out
        cases hv
        obtain ⟨b, o, ha, hc⟩ := h4 (fun e => by rw [e] at hkx; simp at hkx)
        exact ⟨b, o, ha, by rw [hc k hkx, hp]⟩
      have PX := Lib.hid (show xs[k]? = some p from by rw [hp, List.getElem?_eq_getElem hkx])
      clear hp hkx
      obtain ⟨ts, hts⟩ := GP.out.2
      have TS := Lib.hid hts
      clear hts
      have h0 : (0 : Int) ≤ (k : Int) := by omega
      have h1 : (k : Int) < (n : Int) := by omega
      go_wp2_with fail
      refine (read_calls wr p (by have := GP.out.1; omega) GP.out.1).mono ?_
      rintro e w2 ⟨hb, hm⟩
      rw [TS.out] at hm
      obtain ⟨v, rfl, hv⟩ := hm
      have X2 := Lib.hid (XB.out.trans (hb.mono XB.out.size))
      have V := Lib.hid hv
      have PK := Lib.hid (show ts.length ≤ 5000 ∧ Kinds ts from by
        have h1 := parse_len TS.out
        have h2 := GP.out.1
        rw [len_list] at h1
        exact ⟨by omega, h1.2⟩)
      have NE := Lib.hid (show w.heap.size ≤ wr.heap.size from XB.out.size)
      clear hb hv
      generalize wr.heap.size = N at V NE
      go_wp2_with fail
      go_loopg [8] (t.size + 1) (fun g s8 wz => ∃ i : Nat, i ≤ t.size + 1 ∧ t.size + 1 - i ≤ g ∧ s8 = .int .i64 i ∧ hitTo (fun k => row ts t.data.toList ts.length k) t.data.toList i = false ∧ (i = t.size + 1 → row ts t.data.toList ts.length t.size = false) ∧ OwnM wz N 58 257 encP v ts ∧ Below w.heap.size w wz)
      case atStart => exact ⟨0, Nat.zero_le _, by omega, rfl, rfl, fun h => absurd h (by omega), V.out, X2.out⟩
      case round =>
        obtain ⟨i, hi, hg2, rfl, hno2, hno3, hv, hX⟩ := hrel
        have VV := Lib.hid hv
        have XC := Lib.hid hX
        have NO2 := Lib.hid hno2
        have NO3 := Lib.hid hno3
        clear hv hX hno2 hno3 V X2
        by_cases hit : i < t.size
        · have i0 : (0 : Int) ≤ (i : Int) := by omega
          have i1 : (i : Int) < (t.size : Int) := by omega
          have i2 : (i : Int) ≤ (t.size : Int) := by omega
          have i3 : ((i : Int) == (t.size : Int)) = false := by simp; omega
          have hbt := bt_get t i hit
          by_cases h47 : bt t.data.toList i = 47
          · have HB := Lib.hid h47
            rw [h47] at hbt
            clear h47
            have MC := Lib.hid (prefix_calls wr _ v ts t i VV.out PK.out.2 PK.out.1 ht (by omega))
            have HT2 := Lib.hid ht
            cases hr : row ts t.data.toList ts.length i with
            | true =>
              rw [hr] at MC
              have AN := Lib.hid (show hitAny xs t.data.toList = true from by
                refine List.any_eq_true.2 ⟨p, List.mem_of_getElem? PX.out, ?_⟩
                unfold hitP
                rw [TS.out]
                simp only
                unfold hitB
                rw [(hitTo_iff _ _ _).2 ⟨i, by rw [len_list]; exact hit, HB.out, hr⟩, Bool.true_or])
              clear hr
              go_wp2_with fail
              refine MC.out.mono ?_
              rintro e w5 ⟨rfl, hb⟩
              have FIN := Lib.hid (XC.out.trans (hb.mono XC.out.size))
              clear hb
              go_wp2_with fail
              go_ret
              exact ⟨by rw [AN.out]; rfl, FIN.out⟩
            | false =>
              rw [hr] at MC
              have NX := Lib.hid (show hitTo (fun k => row ts t.data.toList ts.length k) t.data.toList (i + 1) = false from by unfold hitTo; rw [NO2.out, hr]; simp)
              clear hr
              go_wp2_with fail
              refine MC.out.mono ?_
              rintro e w5 ⟨rfl, hb⟩
              have FIN := Lib.hid (XC.out.trans (hb.mono XC.out.size))
              have V5 := Lib.hid (VV.out.keep (w' := w5) fun g m cc hv => by subst hv; exact hb.block g VV.out.len.2.2.2.2)
              clear hb
              go_wp2_with fail
              go_roundg (t.size + 1 - (i + 1))
              case measure => omega
              case rel => exact ⟨i + 1, by omega, by omega, by go_num, NX.out, fun h => absurd h (by omega), V5.out, FIN.out⟩
          · have t4 : (((bt t.data.toList i : Nat) : Int) == 47) = false := by simp; omega
            have NX := Lib.hid (show hitTo (fun k => row ts t.data.toList ts.length k) t.data.toList (i + 1) = false from by unfold hitTo; rw [NO2.out]; simp [h47])
            replace h47 := Lib.hid h47
            go_wp2_with fail
            go_roundg (t.size + 1 - (i + 1))
            case measure => omega
            case rel => exact ⟨i + 1, by omega, by omega, by go_num, NX.out, fun h => absurd h (by omega), VV.out, XC.out⟩
        · by_cases hie : i = t.size
          · have i0 : (0 : Int) ≤ (i : Int) := by omega
            have i2 : (i : Int) ≤ (t.size : Int) := by omega
            have i3 : ((i : Int) == (t.size : Int)) = true := by simp; omega
            have HIE := Lib.hid hie
            clear hie hit
            have MC := Lib.hid (prefix_calls wr _ v ts t i VV.out PK.out.2 PK.out.1 ht (Nat.le_of_eq HIE.out))
            cases hr : row ts t.data.toList ts.length i with
            | true =>
              rw [hr] at MC
              have AN := Lib.hid (show hitAny xs t.data.toList = true from by
                refine List.any_eq_true.2 ⟨p, List.mem_of_getElem? PX.out, ?_⟩
                unfold hitP
                rw [TS.out]
                simp only
                unfold hitB
                rw [len_list, ← HIE.out]
                simp only [hr, Bool.or_true])
              clear hr
              go_wp2_with fail
              refine MC.out.mono ?_
              rintro e w5 ⟨rfl, hb⟩
              have FIN := Lib.hid (XC.out.trans (hb.mono XC.out.size))
              clear hb
              go_wp2_with fail
              go_ret
              exact ⟨by rw [AN.out]; rfl, FIN.out⟩
            | false =>
              rw [hr] at MC
              have NX := Lib.hid (show row ts t.data.toList ts.length t.size = false from by rw [← HIE.out]; exact hr)
              have NX2 := Lib.hid (show hitTo (fun k => row ts t.data.toList ts.length k) t.data.toList (i + 1) = false from by unfold hitTo; rw [NO2.out, hr]; simp)
              clear hr
              go_wp2_with fail
              refine MC.out.mono ?_
              rintro e w5 ⟨rfl, hb⟩
              have FIN := Lib.hid (XC.out.trans (hb.mono XC.out.size))
              have V5 := Lib.hid (VV.out.keep (w' := w5) fun g m cc hv => by subst hv; exact hb.block g VV.out.len.2.2.2.2)
              clear hb
              go_wp2_with fail
              go_roundg (t.size + 1 - (i + 1))
              case measure => have := HIE.out; omega
              case rel => exact ⟨i + 1, by have := HIE.out; omega, by have := HIE.out; omega, by go_num, NX2.out, fun _ => NX.out, V5.out, FIN.out⟩
          · obtain rfl : i = t.size + 1 := by omega
            have NOK := Lib.hid (show (xs.take (k + 1)).any (fun p => hitP p.data.toList t.data.toList) = false from by
              rw [List.take_add_one, PX.out, List.any_append, NO.out, Bool.false_or]
              simp only [Option.toList, List.any_cons, List.any_nil, Bool.or_false]
              unfold hitP
              rw [TS.out]
              simp only
              unfold hitB
              rw [len_list]
              simp only [NO3.out rfl, Bool.or_false]
              cases hh : hitTo (fun k => row ts t.data.toList ts.length k) t.data.toList t.size with
              | false => rfl
              | true => rw [← NO2.out]; exact (hitTo_up hh _ (Nat.le_succ _)).symm)
            go_wp2_with fail
            go_roundg (n - (k + 1))
            case measure => omega
            case rel => exact ⟨k + 1, by omega, by omega, by go_num, NOK.out, XC.out⟩
    · obtain rfl : k = n := by omega
      have AN := Lib.hid (show hitAny xs t.data.toList = false from by
        have := NO.out
        rw [← HN.out, List.take_length] at this
        exact this)
      go_wp2_with fail
      go_ret
      exact ⟨by rw [AN.out]; rfl, XB.out⟩
end Go.Proofs.Ytejcpngmllciiaa
