/-
  The walk of perms.Parse: every string. What it returns is said by the plain function parseP.
-/
import Derived.Test.YtbkclmpopofebaaTriple
import Derived.Test.YtbkclmpopofebaaAlive
import Derived.Deep.QuietTactic
import Derived.BigQuiet
namespace Go.Proofs.Ytbkclmpopofebaa
open Go.RowKit

/-- the world, but for draws -/
def Drawn (w w' : World) : Prop := ∃ q, w' = w.drewN q
theorem Drawn.refl (w : World) : Drawn w w := ⟨0, rfl⟩
theorem Drawn.more {w w' : World} (h : Drawn w w') (n : Nat) : Drawn w (w'.drewN n) := by
  obtain ⟨q, rfl⟩ := h
  exact ⟨q + n, World.drewN_drewN _ _ _⟩
theorem Drawn.below {w w' : World} (h : Drawn w w') : Below w.heap.size w w' := by
  obtain ⟨q, rfl⟩ := h
  induction q with
  | zero => exact Below.refl _ _
  | succ q ih => exact ih.drew
def by' (l : List UInt8) (j : Nat) : Int := ((l.getD j 0).toNat : Int)
def smI (i : Nat) : Int := if i = 2 then 116 else 115
def sbI (i : Nat) : Int := if i = 0 then 2048 else if i = 1 then 1024 else 512
def triAt (l : List UInt8) (i : Nat) : Option (Int × Bool) := tri (by' l (1 + 3 * i)) (by' l (1 + 3 * i + 1)) (by' l (1 + 3 * i + 2)) (smI i)
def pmA (m t : Int) : Int := bits .or .i64 (bits .or .i64 (bits .and .i64 m 3584) (wrap64 (bits .and .i64 m 511 * 8))) t
def pmStep (m t : Int) (s : Bool) (sb : Int) : Int := if s then bits .or .i64 (pmA m t) sb else pmA m t
def pst (l : List UInt8) : Nat → Option Int
  | 0 => some 0
  | i + 1 => (pst l i).bind fun m => (triAt l i).map fun ts => pmStep m ts.1 ts.2 (sbI i)
def kidx (l : List UInt8) : Int := Lib.indexByte [45, 100, 108, 104, 63] (l.getD 0 0)
def parseP (l : List UInt8) : Int × Int × Int :=
  if l.length = 10 ∧ 0 ≤ kidx l then (match pst l 3 with | some m => (kidx l + 1, m, 0) | none => (0, 0, 120)) else (0, 0, 120)
def tup3 (x : Int × Int × Int) : Value := .tuple #[.int .i64 x.1, .int .i64 x.2.1, .int .i64 x.2.2]

theorem pst_none {l : List UInt8} {k : Nat} (h : pst l k = none) : ∀ j, k ≤ j → pst l j = none := by
  intro j hj
  induction j with
  | zero =>
    have : k = 0 := by omega
    subst this; exact h
  | succ j ih =>
    by_cases e : k = j + 1
    · subst e; exact h
    · simp [pst, ih (by omega)]
theorem parseP_none {l : List UInt8} {k : Nat} (hk : k ≤ 3) (h : pst l k = none) : parseP l = (0, 0, 120) := by
  unfold parseP
  rw [pst_none h 3 hk]
  simp
theorem pst_stop {l : List UInt8} {k : Nat} {mo : Int} (h : pst l k = some mo) (ht : triAt l k = none) : pst l (k + 1) = none := by simp [pst, h, ht]
theorem pst_step {l : List UInt8} {k : Nat} {mo t : Int} {s : Bool} (h : pst l k = some mo) (ht : triAt l k = some (t, s)) : pst l (k + 1) = some (pmStep mo t s (sbI k)) := by simp [pst, h, ht]
theorem kidx_le (l : List UInt8) : kidx l ≤ 4 ∧ -1 ≤ kidx l := by
  unfold kidx
  generalize l.getD 0 0 = c
  simp only [Lib.indexByte]
  repeat' split
  all_goals simp
theorem getElem_by (s : ByteArray) (j : Nat) (h : j < s.size) : ((s[j]'h).toNat : Int) = by' s.data.toList j := by
  unfold by'
  have h' : j < s.data.toList.length := by rw [Array.length_toList]; exact h
  rw [List.getD, List.getElem?_eq_getElem h']
  rfl
theorem getElem_extract (s : ByteArray) (a b j : Nat) (hb : b ≤ s.size) (h : j < (s.extract a b).size) : (((s.extract a b)[j]'h).toNat : Int) = by' s.data.toList (a + j) := by
  rw [getElem_by]
  have hj : a + j < b := by rw [ByteArray.size_extract] at h; omega
  unfold by'
  rw [ByteArray.data_extract, Array.toList_extract, List.extract_eq_take_drop]
  simp [List.getD, List.getElem?_take, List.getElem?_drop]
  rw [if_pos (by omega)]

theorem triple_at (s : ByteArray) (h : s.size = 10) (k a b : Nat) (hk : k < 3) (ha : a = 1 + 3 * k) (hb : b = 4 + 3 * k) (w : World) :
    Calls Try.prog 18 #[.string (s.extract a b), .int .u8 (smI k)] w fun e w' => e = .returned (triEnd (triAt s.data.toList k)) ∧ w' = w := by
  subst ha; subst hb
  have hz : (s.extract (1 + 3 * k) (4 + 3 * k)).size = 3 := by rw [ByteArray.size_extract]; omega
  have h1 := triple_calls (s.extract (1 + 3 * k) (4 + 3 * k)) (by omega) (smI k) (by unfold smI; split <;> omega) w
  rw [getElem_extract _ _ _ _ (by omega), getElem_extract _ _ _ _ (by omega), getElem_extract _ _ _ _ (by omega)] at h1
  exact h1

set_option maxHeartbeats 4000000 in
theorem parse_calls (s : ByteArray) (hs64 : s.size ≤ 9223372036854775807) (w : World) :
    Calls Try.prog 15 #[.string s] w fun e w' => e = .returned (tup3 (parseP s.data.toList)) ∧ Drawn w w' := by
  by_cases hs : s.size = 10
  · have hl : s.data.toList.length = 10 := by rw [Array.length_toList]; exact hs
    have hlen : ((s.size : Int) != 10) = false := by simp [hs]
    have h0s : 0 < s.size := by omega
    have h9 : 9 < s.size := by omega
    have h99 : s.size < 11 := by omega
    have hg0 : s[0] = s.data.toList.getD 0 0 := by
      rw [List.getD, List.getElem?_eq_getElem (by omega)]; rfl
    have hkid : Lib.indexByte [45, 100, 108, 104, 63] (s[0]'h0s) = kidx s.data.toList := by unfold kidx; rw [hg0]
    by_cases hki : 0 ≤ kidx s.data.toList
    · have hki2 : ¬ Lib.indexByte [45, 100, 108, 104, 63] (s[0]'h0s) < 0 := by rw [hkid]; omega
      have T : ∀ (k a b : Nat), k < 3 → a = 1 + 3 * k → b = 4 + 3 * k → ∀ w1 : World, Calls Try.prog 18 #[.string (s.extract a b), .int .u8 (smI k)] w1 fun e w' => e = .returned (triEnd (triAt s.data.toList k)) ∧ w' = w1 := triple_at s hs
      have HT := Lib.hid T; clear T
      have HS := Lib.hid hs; clear hs
      have HL := Lib.hid hl; clear hl
      have HG := Lib.hid hg0; clear hg0
      have HK := Lib.hid hkid; clear hkid
      have HI := Lib.hid hki; clear hki
      go_enter Try.func15, Try.ntmps15
      go_wp2_with (go_at_call 17; refine (indexByte_calls _ _ _).mono ?_; rintro e w' ⟨rfl, rfl⟩)
      go_loopw [5, 21] (fun m i wr => ∃ (k : Nat) (mo : Int), k ≤ 3 ∧ i = .int .i64 k ∧ m = .int .i64 mo ∧ Drawn w wr ∧ pst s.data.toList k = some mo) (fun _ i _ => 3 - (intOf i).toNat)
      case atStart => exact ⟨0, 0, by omega, rfl, rfl, Drawn.refl _, rfl⟩
      case round =>
        obtain ⟨k, mo, hk, rfl, rfl, hd, hp⟩ := hrel
        have HP := Lib.hid hp; clear hp
        by_cases hlt : k < 3
        · rcases (show k = 0 ∨ k = 1 ∨ k = 2 by omega) with rfl | rfl | rfl
          · have ix : ∀ w1 : World, (Instr.index 35 (.agg #[.int .i64 2048, .int .i64 1024, .int .i64 512]) (.int .i64 0)).run Try.prog w1 = .ok (.int .i64 2048) w1 := fun _ => by kernel_rfl
            rcases hh : triAt s.data.toList 0 with _ | ⟨t, sp⟩
            · have ht : ∀ w1 : World, Calls Try.prog 18 #[.string (s.extract 1 4), .int .u8 (((⟨#[115, 115, 116]⟩ : ByteArray)[0]'(by decide)).toNat : Int)] w1 fun e w' => e = .returned (.tuple #[.int .i64 0, .bool false, .bool false]) ∧ w' = w1 := fun w1 => by have := HT.out 0 1 4 (by omega) rfl rfl w1; rw [hh] at this; exact this
              have HH := Lib.hid ht; clear ht
              have HX := Lib.hid hh; clear hh
              go_wp2_with fail
              go_quiet ((go_at_call 18; exact Calls.quiet_of_same (HH.out _)))
              go_wp2
              go_ret3
              exact ⟨by rw [parseP_none (k := 0 + 1) (by omega) (pst_stop HP.out HX.out)]; rfl, hd.more _⟩
            · have ht : ∀ w1 : World, Calls Try.prog 18 #[.string (s.extract 1 4), .int .u8 (((⟨#[115, 115, 116]⟩ : ByteArray)[0]'(by decide)).toNat : Int)] w1 fun e w' => e = .returned (.tuple #[.int .i64 t, .bool sp, .bool true]) ∧ w' = w1 := fun w1 => by have := HT.out 0 1 4 (by omega) rfl rfl w1; rw [hh] at this; exact this
              have HH := Lib.hid ht; clear ht
              have HX := Lib.hid hh; clear hh
              cases sp
              all_goals
                go_wp2_with fail
                go_quiet ((go_at_call 18; exact Calls.quiet_of_same (HH.out _)))
                go_wp2
                refine ⟨⟨0 + 1, _, by omega, by go_num, rfl, hd.more _, ?_⟩, by simp [intOf]⟩
                exact pst_step HP.out HX.out
          · have ix : ∀ w1 : World, (Instr.index 35 (.agg #[.int .i64 2048, .int .i64 1024, .int .i64 512]) (.int .i64 1)).run Try.prog w1 = .ok (.int .i64 1024) w1 := fun _ => by kernel_rfl
            rcases hh : triAt s.data.toList 1 with _ | ⟨t, sp⟩
            · have ht : ∀ w1 : World, Calls Try.prog 18 #[.string (s.extract 4 7), .int .u8 (((⟨#[115, 115, 116]⟩ : ByteArray)[1]'(by decide)).toNat : Int)] w1 fun e w' => e = .returned (.tuple #[.int .i64 0, .bool false, .bool false]) ∧ w' = w1 := fun w1 => by have := HT.out 1 4 7 (by omega) rfl rfl w1; rw [hh] at this; exact this
              have HH := Lib.hid ht; clear ht
              have HX := Lib.hid hh; clear hh
              go_wp2_with fail
              go_quiet ((go_at_call 18; exact Calls.quiet_of_same (HH.out _)))
              go_wp2
              go_ret3
              exact ⟨by rw [parseP_none (k := 1 + 1) (by omega) (pst_stop HP.out HX.out)]; rfl, hd.more _⟩
            · have ht : ∀ w1 : World, Calls Try.prog 18 #[.string (s.extract 4 7), .int .u8 (((⟨#[115, 115, 116]⟩ : ByteArray)[1]'(by decide)).toNat : Int)] w1 fun e w' => e = .returned (.tuple #[.int .i64 t, .bool sp, .bool true]) ∧ w' = w1 := fun w1 => by have := HT.out 1 4 7 (by omega) rfl rfl w1; rw [hh] at this; exact this
              have HH := Lib.hid ht; clear ht
              have HX := Lib.hid hh; clear hh
              cases sp
              all_goals
                go_wp2_with fail
                go_quiet ((go_at_call 18; exact Calls.quiet_of_same (HH.out _)))
                go_wp2
                refine ⟨⟨1 + 1, _, by omega, by go_num, rfl, hd.more _, ?_⟩, by simp [intOf]⟩
                exact pst_step HP.out HX.out
          · have ix : ∀ w1 : World, (Instr.index 35 (.agg #[.int .i64 2048, .int .i64 1024, .int .i64 512]) (.int .i64 2)).run Try.prog w1 = .ok (.int .i64 512) w1 := fun _ => by kernel_rfl
            rcases hh : triAt s.data.toList 2 with _ | ⟨t, sp⟩
            · have ht : ∀ w1 : World, Calls Try.prog 18 #[.string (s.extract 7 10), .int .u8 (((⟨#[115, 115, 116]⟩ : ByteArray)[2]'(by decide)).toNat : Int)] w1 fun e w' => e = .returned (.tuple #[.int .i64 0, .bool false, .bool false]) ∧ w' = w1 := fun w1 => by have := HT.out 2 7 10 (by omega) rfl rfl w1; rw [hh] at this; exact this
              have HH := Lib.hid ht; clear ht
              have HX := Lib.hid hh; clear hh
              go_wp2_with fail
              go_quiet ((go_at_call 18; exact Calls.quiet_of_same (HH.out _)))
              go_wp2
              go_ret3
              exact ⟨by rw [parseP_none (k := 2 + 1) (by omega) (pst_stop HP.out HX.out)]; rfl, hd.more _⟩
            · have ht : ∀ w1 : World, Calls Try.prog 18 #[.string (s.extract 7 10), .int .u8 (((⟨#[115, 115, 116]⟩ : ByteArray)[2]'(by decide)).toNat : Int)] w1 fun e w' => e = .returned (.tuple #[.int .i64 t, .bool sp, .bool true]) ∧ w' = w1 := fun w1 => by have := HT.out 2 7 10 (by omega) rfl rfl w1; rw [hh] at this; exact this
              have HH := Lib.hid ht; clear ht
              have HX := Lib.hid hh; clear hh
              cases sp
              all_goals
                go_wp2_with fail
                go_quiet ((go_at_call 18; exact Calls.quiet_of_same (HH.out _)))
                go_wp2
                refine ⟨⟨2 + 1, _, by omega, by go_num, rfl, hd.more _, ?_⟩, by simp [intOf]⟩
                exact pst_step HP.out HX.out
        · have e3 : k = 3 := by omega
          subst e3
          have hb1 := (kidx_le s.data.toList).1
          have hb2 := HI.out
          rw [← HK.out] at hb1 hb2
          have hi := indexByte_calls ⟨#[45, 100, 108, 104, 63]⟩ ((s[0]'h0s).toNat : Int) wr
          go_wp2_with (go_at_call 17; refine hi.mono ?_; clear hi; rintro e w' ⟨rfl, rfl⟩)
          go_ret3
          refine ⟨?_, hd⟩
          have e1 : parseP s.data.toList = (kidx s.data.toList + 1, mo, 0) := by
            unfold parseP
            rw [if_pos ⟨HL.out, HI.out⟩, HP.out]
          rw [e1, ← HK.out]
          rfl
    · have hki2 : Lib.indexByte [45, 100, 108, 104, 63] (s[0]'h0s) < 0 := by rw [hkid]; omega
      have e1 : parseP s.data.toList = (0, 0, 120) := by
        unfold parseP
        rw [if_neg (fun h => hki h.2)]
      have HE := Lib.hid e1; clear e1
      clear hs hl hg0 hkid hki
      go_enter Try.func15, Try.ntmps15
      go_wp2_with (go_at_call 17; refine (indexByte_calls _ _ _).mono ?_; rintro e w' ⟨rfl, rfl⟩)
      go_ret3
      exact ⟨by rw [HE.out]; rfl, Drawn.refl _⟩
  · have hlen : ((s.size : Int) != 10) = true := by simp; omega
    have hl : ¬ s.data.toList.length = 10 := by rw [Array.length_toList]; exact hs
    have e1 : parseP s.data.toList = (0, 0, 120) := by
      unfold parseP
      rw [if_neg (fun h => hl h.1)]
    have HE := Lib.hid e1; clear e1
    clear hs hl
    go_enter Try.func15, Try.ntmps15
    go_wp2
    go_ret3
    exact ⟨by rw [HE.out]; rfl, Drawn.refl _⟩
end Go.Proofs.Ytbkclmpopofebaa
