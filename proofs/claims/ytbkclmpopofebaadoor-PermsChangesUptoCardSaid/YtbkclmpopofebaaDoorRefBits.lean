/-
  The walk of the document's bits: every who and every text of letters that is not too long.
-/
import Derived.Test.YtbkclmpopofebaaDoorClausePlain
import Derived.WalkSpells
import Derived.WalkLawsBesides
import Derived.Deep.LoopGhost
namespace Go.Proofs.YtbkclmpopofebaaDoor
open Go.RowKit
set_option linter.unusedVariables false

theorem byte_eq {c : UInt8} {n : Nat} (hn : n < 256) (h : c = UInt8.ofNat n) : (((c.toNat : Nat) : Int) == (n : Int)) = true := by
  subst h
  have : (UInt8.ofNat n).toNat = n := by simp; omega
  rw [this]; simp
theorem byte_not {c : UInt8} {n : Nat} (hn : n < 256) (h : ¬ c = UInt8.ofNat n) : (((c.toNat : Nat) : Int) == (n : Int)) = false := by
  refine beq_eq_false_iff_ne.2 fun e => h ?_
  have : c.toNat = n := by omega
  rw [← this]; simp

theorem passR_ok (k : Nat) : ∀ (l : List UInt8) (a : Int), bor a 0 = a → bor (passR k a l) 0 = passR k a l
  | [], a, h => h
  | c :: l, a, h => passR_ok k l _ (bor_zero _ _)
theorem stepR_ok {who : Int} {k : Nat} {l : List UInt8} {a : Int} (h : bor a 0 = a) : bor (stepR who k l a) 0 = stepR who k l a := by
  unfold stepR
  split
  · exact passR_ok k l a h
  · exact h
theorem pass_steps (k : Nat) (a : Int) (ha : bor a 0 = a) (s : ByteArray) : ∃ P : Nat → Int, P 0 = a ∧ P s.size = passR k a s.data.toList ∧ (∀ j, bits .or .i64 (P j) 0 = P j) ∧
    ∀ j (h : j < s.size) (c : UInt8), s[j]'h = c → bits .or .i64 (P j) (letR k c) = P (j + 1) := by
  have hlen : s.data.toList.length = s.size := Array.length_toList
  refine ⟨fun j => passR k a (s.data.toList.take j), rfl, by show passR k a (s.data.toList.take _) = _; rw [List.take_of_length_le (by omega)], fun j => passR_ok k _ _ ha, fun j h c e => ?_⟩
  have hj : j < s.data.toList.length := by omega
  have e1 : s.data.toList[j]'hj = s[j]'h := rfl
  show bits .or .i64 (passR k a (s.data.toList.take j)) _ = passR k a (s.data.toList.take (j + 1))
  rw [List.take_add_one, List.getElem?_eq_getElem hj, e1, e]
  unfold passR bor
  rw [Option.toList_some, List.foldl_append]; rfl
theorem who_bits {who : Int} (hw : 0 ≤ who ∧ who ≤ 7) : (bits .and .i64 who 1 == 0) = !hasR who 0 ∧ (bits .and .i64 (who / 2) 1 == 0) = !hasR who 1 ∧ (bits .and .i64 (who / 4) 1 == 0) = !hasR who 2 := by
  rcases (show who = 0 ∨ who = 1 ∨ who = 2 ∨ who = 3 ∨ who = 4 ∨ who = 5 ∨ who = 6 ∨ who = 7 by omega) with rfl | rfl | rfl | rfl | rfl | rfl | rfl | rfl <;> decide

set_option maxHeartbeats 8000000 in
theorem bits_calls (who : Int) (s : ByteArray) (hw : 0 ≤ who ∧ who ≤ 7) (hl : ∀ c ∈ s.data.toList, isLet c = true) (hs : s.size ≤ 16777216) (w : World) :
    Calls Tryd.prog 12 #[.int .i64 who, .string s] w fun e w' => e = .returned (.int .i64 (bitsR who s.data.toList)) ∧ w' = w := by
  obtain ⟨acc, A0, A1, A2, A3, AZ⟩ : ∃ acc : Nat → Int, acc 0 = 0 ∧ acc 1 = stepR who 0 s.data.toList (acc 0) ∧ acc 2 = stepR who 1 s.data.toList (acc 1) ∧ acc 3 = stepR who 2 s.data.toList (acc 2) ∧ bitsR who s.data.toList = acc 3 := by
    refine ⟨fun k => match k with
      | 0 => 0
      | 1 => stepR who 0 s.data.toList 0
      | 2 => stepR who 1 s.data.toList (stepR who 0 s.data.toList 0)
      | _ => bitsR who s.data.toList, rfl, rfl, rfl, rfl, rfl⟩
  rw [AZ]
  have Z0 : bor (acc 0) 0 = acc 0 := by rw [A0]; decide
  have Z1 : bor (acc 1) 0 = acc 1 := by rw [A1]; exact stepR_ok Z0
  have Z2 : bor (acc 2) 0 = acc 2 := by rw [A2]; exact stepR_ok Z1
  obtain ⟨q0, q1, q2⟩ := who_bits hw
  have LL := Lib.hid (show ∀ j (h : j < s.size), isLet (s[j]'h) = true from fun j h => hl _ (by
    have hj : j < s.data.toList.length := by rw [show s.data.toList.length = s.size from Array.length_toList]; exact h
    have e1 : s.data.toList[j]'hj = s[j]'h := rfl
    rw [← e1]; exact List.getElem_mem hj))
  have P0 := Lib.hid (pass_steps 0 (acc 0) Z0 s)
  have N0 := Lib.hid (show ∀ b, hasR who 0 = b → acc 1 = if b then passR 0 (acc 0) s.data.toList else acc 0 from fun b h => by rw [A1]; unfold stepR; rw [h])
  have P1 := Lib.hid (pass_steps 1 (acc 1) Z1 s)
  have N1 := Lib.hid (show ∀ b, hasR who 1 = b → acc 2 = if b then passR 1 (acc 1) s.data.toList else acc 1 from fun b h => by rw [A2]; unfold stepR; rw [h])
  have P2 := Lib.hid (pass_steps 2 (acc 2) Z2 s)
  have N2 := Lib.hid (show ∀ b, hasR who 2 = b → acc 3 = if b then passR 2 (acc 2) s.data.toList else acc 2 from fun b h => by rw [A3]; unfold stepR; rw [h])
  have A0' := Lib.hid A0
  clear A0 A1 A2 A3 AZ Z0 Z1 Z2 hl hw
  obtain ⟨b0, hb0⟩ : ∃ b, hasR who 0 = b := ⟨_, rfl⟩
  have M0 := Lib.hid (N0.out b0 hb0)
  rw [hb0] at q0
  obtain ⟨b1, hb1⟩ : ∃ b, hasR who 1 = b := ⟨_, rfl⟩
  have M1 := Lib.hid (N1.out b1 hb1)
  rw [hb1] at q1
  obtain ⟨b2, hb2⟩ : ∃ b, hasR who 2 = b := ⟨_, rfl⟩
  have M2 := Lib.hid (N2.out b2 hb2)
  rw [hb2] at q2
  clear hb0 N0 hb1 N1 hb2 N2
  generalize s.data.toList = l at *
  go_enter Tryd.func12, Tryd.ntmps12
  go_wp2_with fail
  go_loopg [5, 6] 3 (fun g s5 s6 wr => ∃ k : Nat, s5 = .int .i64 (acc k) ∧ s6 = .int .i64 k ∧ k ≤ 3 ∧ g = 3 - k ∧ wr = w)
  case atStart => exact ⟨0, by rw [A0'.out], rfl, by omega, by omega, rfl⟩
  case round =>
    obtain ⟨k, rfl, rfl, hk, hg, rfl⟩ := hrel
    obtain ⟨w5, hw5⟩ : ∃ w5, w5 = wr := ⟨_, rfl⟩
    subst hw5
    rcases (show k = 0 ∨ k = 1 ∨ k = 2 ∨ k = 3 by omega) with rfl | rfl | rfl | rfl
    · clear q1 q2
      cases b0 with
      | false =>
        have E := Lib.hid (show acc 1 = acc 0 from M0.out)
        have q : (bits .and .i64 who 1 == 0) = true := q0
        clear q0
        go_wp2
        go_roundg 2
        case measure => omega
        case rel => exact ⟨1, by rw [E.out], rfl, by omega, by omega, rfl⟩
      | true =>
        have q : (bits .and .i64 who 1 == 0) = false := q0
        obtain ⟨P, p0, pn, pz, ps⟩ := P0.out
        have E := Lib.hid (show acc 1 = P s.size from M0.out.trans pn.symm)
        have PZ := Lib.hid pz
        have PS := Lib.hid ps
        have P0' := Lib.hid p0
        clear q0 p0 pn pz ps
        go_wp2_with fail
        go_loopg [5, 7] s.size (fun g s5 s7 wr => ∃ j : Nat, s5 = .int .i64 (P j) ∧ s7 = .int .i64 j ∧ j ≤ s.size ∧ s.size - j ≤ g ∧ wr = w5)
        case atStart => exact ⟨0, by rw [P0'.out], rfl, by omega, by omega, rfl⟩
        case round =>
          obtain ⟨j, rfl, rfl, hj, hg', rfl⟩ := hrel
          by_cases hlt : j < s.size
          · have hlj := LL.out j hlt
            have PJ := Lib.hid (PS.out j hlt)
            have ZJ := Lib.hid (PZ.out j)
            rcases let_cases hlj with e | e | e | e | e
            · have k114 : (((s[j]'hlt).toNat : Int) == 114) = true := by rw [e]; rfl
              have ST := Lib.hid (show bits .or .i64 (P j) 256 = P (j + 1) from PJ.out 114 e)
              clear e hlj PJ ZJ
              go_wp2
              go_roundg (s.size - (j + 1))
              case measure => omega
              case rel => exact ⟨j + 1, by rw [← ST.out], by go_num, by omega, Nat.le_refl _, rfl⟩
            · have k114 : (((s[j]'hlt).toNat : Int) == 114) = false := by rw [e]; rfl
              have k119 : (((s[j]'hlt).toNat : Int) == 119) = true := by rw [e]; rfl
              have ST := Lib.hid (show bits .or .i64 (P j) 128 = P (j + 1) from PJ.out 119 e)
              clear e hlj PJ ZJ
              go_wp2
              go_roundg (s.size - (j + 1))
              case measure => omega
              case rel => exact ⟨j + 1, by rw [← ST.out], by go_num, by omega, Nat.le_refl _, rfl⟩
            · have k114 : (((s[j]'hlt).toNat : Int) == 114) = false := by rw [e]; rfl
              have k119 : (((s[j]'hlt).toNat : Int) == 119) = false := by rw [e]; rfl
              have k120 : (((s[j]'hlt).toNat : Int) == 120) = true := by rw [e]; rfl
              have ST := Lib.hid (show bits .or .i64 (P j) 64 = P (j + 1) from PJ.out 120 e)
              clear e hlj PJ ZJ
              go_wp2
              go_roundg (s.size - (j + 1))
              case measure => omega
              case rel => exact ⟨j + 1, by rw [← ST.out], by go_num, by omega, Nat.le_refl _, rfl⟩
            · have k114 : (((s[j]'hlt).toNat : Int) == 114) = false := by rw [e]; rfl
              have k119 : (((s[j]'hlt).toNat : Int) == 119) = false := by rw [e]; rfl
              have k120 : (((s[j]'hlt).toNat : Int) == 120) = false := by rw [e]; rfl
              have k115 : (((s[j]'hlt).toNat : Int) == 115) = true := by rw [e]; rfl
              have ST := Lib.hid (show bits .or .i64 (P j) 2048 = P (j + 1) from PJ.out 115 e)
              clear e hlj PJ ZJ
              go_wp2
              go_roundg (s.size - (j + 1))
              case measure => omega
              case rel => exact ⟨j + 1, by rw [← ST.out], by go_num, by omega, Nat.le_refl _, rfl⟩
            · have k114 : (((s[j]'hlt).toNat : Int) == 114) = false := by rw [e]; rfl
              have k119 : (((s[j]'hlt).toNat : Int) == 119) = false := by rw [e]; rfl
              have k120 : (((s[j]'hlt).toNat : Int) == 120) = false := by rw [e]; rfl
              have k115 : (((s[j]'hlt).toNat : Int) == 115) = false := by rw [e]; rfl
              have k116 : (((s[j]'hlt).toNat : Int) == 116) = true := by rw [e]; rfl
              have ST := Lib.hid (show bits .or .i64 (P j) 512 = P (j + 1) from PJ.out 116 e)
              clear e hlj PJ ZJ
              go_wp2
              go_roundg (s.size - (j + 1))
              case measure => omega
              case rel => exact ⟨j + 1, by rw [← ST.out], by go_num, by omega, Nat.le_refl _, rfl⟩
          · obtain rfl : j = s.size := by omega
            go_wp2
            go_roundg 2
            case measure => omega
            case rel => exact ⟨1, by rw [E.out], rfl, by omega, by omega, rfl⟩
    · clear q0 q2
      cases b1 with
      | false =>
        have E := Lib.hid (show acc 2 = acc 1 from M1.out)
        have q : (bits .and .i64 (who / 2) 1 == 0) = true := q1
        clear q1
        go_wp2
        go_roundg 1
        case measure => omega
        case rel => exact ⟨2, by rw [E.out], rfl, by omega, by omega, rfl⟩
      | true =>
        have q : (bits .and .i64 (who / 2) 1 == 0) = false := q1
        obtain ⟨P, p0, pn, pz, ps⟩ := P1.out
        have E := Lib.hid (show acc 2 = P s.size from M1.out.trans pn.symm)
        have PZ := Lib.hid pz
        have PS := Lib.hid ps
        have P0' := Lib.hid p0
        clear q1 p0 pn pz ps
        go_wp2_with fail
        go_loopg [5, 7] s.size (fun g s5 s7 wr => ∃ j : Nat, s5 = .int .i64 (P j) ∧ s7 = .int .i64 j ∧ j ≤ s.size ∧ s.size - j ≤ g ∧ wr = w5)
        case atStart => exact ⟨0, by rw [P0'.out], rfl, by omega, by omega, rfl⟩
        case round =>
          obtain ⟨j, rfl, rfl, hj, hg', rfl⟩ := hrel
          by_cases hlt : j < s.size
          · have hlj := LL.out j hlt
            have PJ := Lib.hid (PS.out j hlt)
            have ZJ := Lib.hid (PZ.out j)
            rcases let_cases hlj with e | e | e | e | e
            · have k114 : (((s[j]'hlt).toNat : Int) == 114) = true := by rw [e]; rfl
              have ST := Lib.hid (show bits .or .i64 (P j) 32 = P (j + 1) from PJ.out 114 e)
              clear e hlj PJ ZJ
              go_wp2
              go_roundg (s.size - (j + 1))
              case measure => omega
              case rel => exact ⟨j + 1, by rw [← ST.out], by go_num, by omega, Nat.le_refl _, rfl⟩
            · have k114 : (((s[j]'hlt).toNat : Int) == 114) = false := by rw [e]; rfl
              have k119 : (((s[j]'hlt).toNat : Int) == 119) = true := by rw [e]; rfl
              have ST := Lib.hid (show bits .or .i64 (P j) 16 = P (j + 1) from PJ.out 119 e)
              clear e hlj PJ ZJ
              go_wp2
              go_roundg (s.size - (j + 1))
              case measure => omega
              case rel => exact ⟨j + 1, by rw [← ST.out], by go_num, by omega, Nat.le_refl _, rfl⟩
            · have k114 : (((s[j]'hlt).toNat : Int) == 114) = false := by rw [e]; rfl
              have k119 : (((s[j]'hlt).toNat : Int) == 119) = false := by rw [e]; rfl
              have k120 : (((s[j]'hlt).toNat : Int) == 120) = true := by rw [e]; rfl
              have ST := Lib.hid (show bits .or .i64 (P j) 8 = P (j + 1) from PJ.out 120 e)
              clear e hlj PJ ZJ
              go_wp2
              go_roundg (s.size - (j + 1))
              case measure => omega
              case rel => exact ⟨j + 1, by rw [← ST.out], by go_num, by omega, Nat.le_refl _, rfl⟩
            · have k114 : (((s[j]'hlt).toNat : Int) == 114) = false := by rw [e]; rfl
              have k119 : (((s[j]'hlt).toNat : Int) == 119) = false := by rw [e]; rfl
              have k120 : (((s[j]'hlt).toNat : Int) == 120) = false := by rw [e]; rfl
              have k115 : (((s[j]'hlt).toNat : Int) == 115) = true := by rw [e]; rfl
              have ST := Lib.hid (show bits .or .i64 (P j) 1024 = P (j + 1) from PJ.out 115 e)
              clear e hlj PJ ZJ
              go_wp2
              go_roundg (s.size - (j + 1))
              case measure => omega
              case rel => exact ⟨j + 1, by rw [← ST.out], by go_num, by omega, Nat.le_refl _, rfl⟩
            · have k114 : (((s[j]'hlt).toNat : Int) == 114) = false := by rw [e]; rfl
              have k119 : (((s[j]'hlt).toNat : Int) == 119) = false := by rw [e]; rfl
              have k120 : (((s[j]'hlt).toNat : Int) == 120) = false := by rw [e]; rfl
              have k115 : (((s[j]'hlt).toNat : Int) == 115) = false := by rw [e]; rfl
              have k116 : (((s[j]'hlt).toNat : Int) == 116) = true := by rw [e]; rfl
              have ST := Lib.hid (show bits .or .i64 (P j) 512 = P (j + 1) from PJ.out 116 e)
              clear e hlj PJ ZJ
              go_wp2
              go_roundg (s.size - (j + 1))
              case measure => omega
              case rel => exact ⟨j + 1, by rw [← ST.out], by go_num, by omega, Nat.le_refl _, rfl⟩
          · obtain rfl : j = s.size := by omega
            go_wp2
            go_roundg 1
            case measure => omega
            case rel => exact ⟨2, by rw [E.out], rfl, by omega, by omega, rfl⟩
    · clear q0 q1
      cases b2 with
      | false =>
        have E := Lib.hid (show acc 3 = acc 2 from M2.out)
        have q : (bits .and .i64 (who / 4) 1 == 0) = true := q2
        clear q2
        go_wp2
        go_roundg 0
        case measure => omega
        case rel => exact ⟨3, by rw [E.out], rfl, by omega, by omega, rfl⟩
      | true =>
        have q : (bits .and .i64 (who / 4) 1 == 0) = false := q2
        obtain ⟨P, p0, pn, pz, ps⟩ := P2.out
        have E := Lib.hid (show acc 3 = P s.size from M2.out.trans pn.symm)
        have PZ := Lib.hid pz
        have PS := Lib.hid ps
        have P0' := Lib.hid p0
        clear q2 p0 pn pz ps
        go_wp2_with fail
        go_loopg [5, 7] s.size (fun g s5 s7 wr => ∃ j : Nat, s5 = .int .i64 (P j) ∧ s7 = .int .i64 j ∧ j ≤ s.size ∧ s.size - j ≤ g ∧ wr = w5)
        case atStart => exact ⟨0, by rw [P0'.out], rfl, by omega, by omega, rfl⟩
        case round =>
          obtain ⟨j, rfl, rfl, hj, hg', rfl⟩ := hrel
          by_cases hlt : j < s.size
          · have hlj := LL.out j hlt
            have PJ := Lib.hid (PS.out j hlt)
            have ZJ := Lib.hid (PZ.out j)
            rcases let_cases hlj with e | e | e | e | e
            · have k114 : (((s[j]'hlt).toNat : Int) == 114) = true := by rw [e]; rfl
              have ST := Lib.hid (show bits .or .i64 (P j) 4 = P (j + 1) from PJ.out 114 e)
              clear e hlj PJ ZJ
              go_wp2
              go_roundg (s.size - (j + 1))
              case measure => omega
              case rel => exact ⟨j + 1, by rw [← ST.out], by go_num, by omega, Nat.le_refl _, rfl⟩
            · have k114 : (((s[j]'hlt).toNat : Int) == 114) = false := by rw [e]; rfl
              have k119 : (((s[j]'hlt).toNat : Int) == 119) = true := by rw [e]; rfl
              have ST := Lib.hid (show bits .or .i64 (P j) 2 = P (j + 1) from PJ.out 119 e)
              clear e hlj PJ ZJ
              go_wp2
              go_roundg (s.size - (j + 1))
              case measure => omega
              case rel => exact ⟨j + 1, by rw [← ST.out], by go_num, by omega, Nat.le_refl _, rfl⟩
            · have k114 : (((s[j]'hlt).toNat : Int) == 114) = false := by rw [e]; rfl
              have k119 : (((s[j]'hlt).toNat : Int) == 119) = false := by rw [e]; rfl
              have k120 : (((s[j]'hlt).toNat : Int) == 120) = true := by rw [e]; rfl
              have ST := Lib.hid (show bits .or .i64 (P j) 1 = P (j + 1) from PJ.out 120 e)
              clear e hlj PJ ZJ
              go_wp2
              go_roundg (s.size - (j + 1))
              case measure => omega
              case rel => exact ⟨j + 1, by rw [← ST.out], by go_num, by omega, Nat.le_refl _, rfl⟩
            · have k114 : (((s[j]'hlt).toNat : Int) == 114) = false := by rw [e]; rfl
              have k119 : (((s[j]'hlt).toNat : Int) == 119) = false := by rw [e]; rfl
              have k120 : (((s[j]'hlt).toNat : Int) == 120) = false := by rw [e]; rfl
              have k115 : (((s[j]'hlt).toNat : Int) == 115) = true := by rw [e]; rfl
              have ST := Lib.hid (show P j = P (j + 1) from (ZJ.out).symm.trans (PJ.out 115 e))
              clear e hlj PJ ZJ
              go_wp2
              go_roundg (s.size - (j + 1))
              case measure => omega
              case rel => exact ⟨j + 1, by rw [← ST.out], by go_num, by omega, Nat.le_refl _, rfl⟩
            · have k114 : (((s[j]'hlt).toNat : Int) == 114) = false := by rw [e]; rfl
              have k119 : (((s[j]'hlt).toNat : Int) == 119) = false := by rw [e]; rfl
              have k120 : (((s[j]'hlt).toNat : Int) == 120) = false := by rw [e]; rfl
              have k115 : (((s[j]'hlt).toNat : Int) == 115) = false := by rw [e]; rfl
              have k116 : (((s[j]'hlt).toNat : Int) == 116) = true := by rw [e]; rfl
              have ST := Lib.hid (show bits .or .i64 (P j) 512 = P (j + 1) from PJ.out 116 e)
              clear e hlj PJ ZJ
              go_wp2
              go_roundg (s.size - (j + 1))
              case measure => omega
              case rel => exact ⟨j + 1, by rw [← ST.out], by go_num, by omega, Nat.le_refl _, rfl⟩
          · obtain rfl : j = s.size := by omega
            go_wp2
            go_roundg 0
            case measure => omega
            case rel => exact ⟨3, by rw [E.out], rfl, by omega, by omega, rfl⟩
    · go_wp2
      go_ret
      exact ⟨rfl, rfl⟩
end Go.Proofs.YtbkclmpopofebaaDoor
