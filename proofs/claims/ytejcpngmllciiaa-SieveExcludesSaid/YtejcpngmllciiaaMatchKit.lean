/-
  The document's Match, and the laws' alive and short.
-/
import Derived.Test.YtejcpngmllciiaaRefMatch
import Derived.ShutString
import Derived.SizedLaws
namespace Go.Proofs.Ytejcpngmllciiaa
open Go.ChangeShapes Go.WideShapes Go.ChangeAt Go.RowKit
open Go.ChangeMaps (open_string shut_string)
set_option linter.unusedVariables false

set_option maxHeartbeats 1000000 in
theorem refMatch_calls (w : World) (p t : ByteArray) (hp : p.size ≤ 140737488351232) (ht : t.size ≤ 100000) :
    Calls Try.prog 15 #[.string p, .string t] w fun e w' => e = .returned (.tuple #[.bool (matchAns p.data.toList t.data.toList), .int .i64 (checkErr p.data.toList)]) ∧ Below w.heap.size w w' := by
  have hl := len_list p
  have hlt := len_list t
  have C0 := Lib.hid (refCheck_calls w p hp)
  by_cases hbad : checkErr p.data.toList = 0
  · have h1 : ¬ 4096 < p.size := fun h => by unfold checkErr at hbad; rw [hl, if_pos h] at hbad; exact absurd hbad (by decide)
    have h2 : ∃ ts, parse p.data.toList = some ts := by
      unfold checkErr at hbad
      rw [hl, if_neg h1] at hbad
      cases h : parse p.data.toList with
      | none => rw [h] at hbad; exact absurd hbad (by decide)
      | some ts => exact ⟨ts, rfl⟩
    obtain ⟨ts, hps⟩ := h2
    have pl := parse_len hps
    rw [hl] at pl
    have AN := Lib.hid (show matchAns p.data.toList t.data.toList = row ts t.data.toList ts.length t.size from by
      unfold matchAns; rw [hl, if_neg h1, hps]; simp only [matchB]; rw [hlt])
    have PS := Lib.hid hps
    have PL := Lib.hid pl
    have HP4 := Lib.hid h1
    have CE := Lib.hid hbad
    have HT := Lib.hid ht
    clear hps pl h1 ht hl hlt hbad
    go_enter Try.func15, Try.ntmps15
    go_wp2_with fail
    refine C0.out.mono ?_
    rintro e w1 ⟨rfl, hb⟩
    rw [CE.out]
    have X1 := Lib.hid hb
    clear hb
    go_wp2_with fail
    refine (read_calls w1 p hp (by have := HP4.out; omega)).mono ?_
    rintro e w2 ⟨hb, hm⟩
    rw [PS.out] at hm
    obtain ⟨v, rfl, hv⟩ := hm
    have X2 := Lib.hid (X1.out.trans (hb.mono X1.out.size))
    have V := Lib.hid hv
    clear hb hv
    go_wp2_with fail
    refine (matches_calls w2 _ v ts t V.out PL.out.2 (by have := PL.out.1; have := HP4.out; omega) HT.out).mono ?_
    rintro e w3 ⟨rfl, hb⟩
    have X3 := Lib.hid (X2.out.trans (hb.mono X2.out.size))
    clear hb
    go_wp2_with fail
    go_ret2
    exact ⟨by rw [AN.out, CE.out]; rfl, X3.out⟩
  · have t1 : (checkErr p.data.toList != 0) = true := by simpa [bne] using hbad
    have AN := Lib.hid (show matchAns p.data.toList t.data.toList = false from by
      unfold checkErr at hbad
      unfold matchAns
      rw [hl] at hbad ⊢
      by_cases h : 4096 < p.size
      · rw [if_pos h]
      · rw [if_neg h] at hbad ⊢
        cases h : parse p.data.toList with
        | none => rfl
        | some ts => rw [h] at hbad; exact absurd rfl hbad)
    have HB := Lib.hid hbad
    clear hbad hl hlt
    generalize checkErr p.data.toList = er at t1 C0 HB ⊢
    go_enter Try.func15, Try.ntmps15
    go_wp2_with fail
    refine C0.out.mono ?_
    rintro e w1 ⟨rfl, hb⟩
    have X1 := Lib.hid hb
    clear hb
    go_wp2_with fail
    go_ret2
    exact ⟨by rw [AN.out]; rfl, X1.out⟩

theorem ac1 : matchAns [97, 42, 99] [97, 98, 98, 99] = true := by decide +kernel
theorem ac2 : matchAns [97, 42, 99] [97, 47, 99] = false := by decide +kernel
theorem ac3 : checkErr [97, 42, 99] = 0 := by decide +kernel

/-- alive answers true -/
theorem alive_calls (w : World) : Calls Try.prog 12 #[] w fun e w' => e = .returned (.bool true) ∧ Below w.heap.size w w' := by
  have C0 := Lib.hid (match_calls w ⟨#[97, 42, 99]⟩ ⟨#[97, 98, 98, 99]⟩ (by decide) (by decide))
  have C1 := Lib.hid (fun w => match_calls w ⟨#[97, 42, 99]⟩ ⟨#[97, 47, 99]⟩ (by decide) (by decide))
  have E1 : matchAns (ByteArray.mk #[97, 42, 99]).data.toList (ByteArray.mk #[97, 98, 98, 99]).data.toList = true := ac1
  have E2 : matchAns (ByteArray.mk #[97, 42, 99]).data.toList (ByteArray.mk #[97, 47, 99]).data.toList = false := ac2
  have E3 : checkErr (ByteArray.mk #[97, 42, 99]).data.toList = 0 := ac3
  rw [E1, E3] at C0
  rw [E2, E3] at C1
  clear E1 E2 E3
  go_enter Try.func12, Try.ntmps12
  go_wp2_with fail
  refine C0.out.mono ?_
  rintro e w1 ⟨rfl, hb⟩
  have X1 := Lib.hid hb
  clear hb
  go_wp2_with fail
  refine (C1.out w1).mono ?_
  rintro e w2 ⟨rfl, hb⟩
  have X2 := Lib.hid (X1.out.trans (hb.mono X1.out.size))
  clear hb
  go_wp2_with fail
  all_goals go_ret
  all_goals exact ⟨rfl, X2.out⟩

theorem short_calls (w : World) (p t : ByteArray) : Calls Try.prog 13 #[.string p, .string t] w fun e w' => e = .returned (.bool (decide (p.size ≤ 5000) && decide (t.size ≤ 200))) ∧ w' = w := by
  by_cases h1 : p.size ≤ 5000
  · have g1 : (p.size : Int) ≤ 5000 := by omega
    by_cases h2 : t.size ≤ 200
    · have g2 : (t.size : Int) ≤ 200 := by omega
      go_enter Try.func13, Try.ntmps13
      go_wp2
      go_ret
      exact ⟨by simp [h1, h2], rfl⟩
    · have g2 : ¬ (t.size : Int) ≤ 200 := by omega
      go_enter Try.func13, Try.ntmps13
      go_wp2
      go_ret
      exact ⟨by simp, rfl⟩
  · have g1 : ¬ (p.size : Int) ≤ 5000 := by omega
    go_enter Try.func13, Try.ntmps13
    go_wp2
    go_ret
    exact ⟨by simp, rfl⟩
end Go.Proofs.Ytejcpngmllciiaa
