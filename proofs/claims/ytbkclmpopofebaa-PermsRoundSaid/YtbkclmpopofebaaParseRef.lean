/-
  The walk of the reference's Parse: every string. What it returns is said by the plain function parseR.
-/
import Derived.Test.YtbkclmpopofebaaParseWalk
import Derived.Lib.SlicesS
namespace Go.Proofs.Ytbkclmpopofebaa
open Go.RowKit

def kinds5 : List UInt8 := [45, 100, 108, 104, 63]
def rk (l : List UInt8) : Nat → Int
  | 0 => 0
  | k + 1 => bif by' l 0 == by' kinds5 k then (k : Int) + 1 else rk l k
def spI (k : Nat) : Int := ((2048 / 2 ^ (k / 3) : Nat) : Int)
def rstep (k : Nat) (c m : Int) : Int :=
  bif c != 45 then
    (bif k % 3 == 2 then
      (bif c != 120 then bits .or .i64 (bif (c == 120 || c == 115) || c == 116 then bits .or .i64 m (bitv k) else m) (spI k)
       else (bif (c == 120 || c == 115) || c == 116 then bits .or .i64 m (bitv k) else m))
     else bits .or .i64 m (bitv k))
  else m
def rm (l : List UInt8) : Nat → Int
  | 0 => 0
  | k + 1 => rstep k (by' l (k + 1)) (rm l k)
def parseR (l : List UInt8) : Int × Int × Int :=
  if l.length = 10 ∧ 1 ≤ rk l 5 ∧ textL (rk l 5) (rm l 9) = l then (rk l 5, rm l 9, 0) else (0, 0, 120)

theorem or3 {a b c : Bool} (h : (a = true ∨ b = true) ∨ c = true) : ((a || b) || c) = true := by simpa using h
theorem rm_succ (l : List UInt8) (k : Nat) : rm l (k + 1) = rstep k (by' l (k + 1)) (rm l k) := rfl
theorem rk_le (l : List UInt8) (k : Nat) : 0 ≤ rk l k ∧ rk l k ≤ k := by
  induction k with
  | zero => simp [rk]
  | succ k ih =>
    simp only [rk]
    cases by' l 0 == by' kinds5 k
    · simp only [cond_false]; omega
    · simp only [cond_true]; omega

set_option maxHeartbeats 8000000 in
theorem refParse_loops (s : ByteArray) (hs : s.size = 10) (str : ByteArray) (c : Int) (x : Int × Int × Int) (w : World)
    (hT : ∀ w1 : World, Calls Try.prog 14 #[.int .i64 (rk s.data.toList 5), .int .i64 (rm s.data.toList 9)] w1 fun e w' => (e = .returned (.tuple #[.string str, .int .i64 c])) ∧ Below w1.heap.size w1 w')
    (hres : (c = 120 ∧ x = (0, 0, 120)) ∨ (c = 0 ∧ str = s ∧ x = (rk s.data.toList 5, rm s.data.toList 9, 0)) ∨ (c = 0 ∧ ¬ str = s ∧ x = (0, 0, 120))) :
    Calls Try.prog 16 #[.string s] w fun e w' => e = .returned (tup3 x) ∧ Below w.heap.size w w' := by
  have HR := Lib.hid hres; clear hres
  have hlen : ((s.size : Int) != 10) = false := by simp [hs]
  have h9 : 9 < s.size := by omega
  have h99 : s.size < 11 := by omega
  have h0s : 0 < s.size := by omega
  have HS := Lib.hid hs; clear hs
  go_enter Try.func16, Try.ntmps16
  go_wp2
  go_loopw [5, 6] (fun kd i wr => ∃ (k : Nat) (iv : Int), k ≤ 5 ∧ iv = (k : Int) + 1 ∧ i = .int .i64 iv ∧ kd = .int .i64 (rk s.data.toList k) ∧ Drawn w wr) (fun _ i _ => 6 - (intOf i).toNat)
  case atStart => exact ⟨0, 1, by omega, rfl, rfl, rfl, Drawn.refl _⟩
  case round =>
    obtain ⟨k, iv, hk, hiv, rfl, rfl, hd⟩ := hrel
    by_cases hlt : k < 5
    · subst hiv
      rcases (show k = 0 ∨ k = 1 ∨ k = 2 ∨ k = 3 ∨ k = 4 by omega) with rfl | rfl | rfl | rfl | rfl
      · have e0 := getElem_by s 0 h0s
        have e1 := getElem_by ⟨#[45, 100, 108, 104, 63]⟩ 0 hlt
        have HE := Lib.hid (And.intro e0 e1); clear e0 e1
        cases hb : (((s[0]'h0s).toNat : Int) == (((⟨#[45, 100, 108, 104, 63]⟩ : ByteArray)[0]'hlt).toNat : Int))
        all_goals
          have HB := Lib.hid hb
          go_wp2_with fail
          go_quiet (fail)
          clear hb
          go_wp2
          refine ⟨⟨0 + 1, _, by omega, rfl, rfl, ?_, hd.more _⟩, by simp [intOf]⟩
          have h1 := HB.out
          rw [HE.out.1, HE.out.2] at h1
          refine congrArg _ ?_
          simp only [rk, kinds5]
          rw [h1]
          rfl
      · have e0 := getElem_by s 0 h0s
        have e1 := getElem_by ⟨#[45, 100, 108, 104, 63]⟩ 1 hlt
        have HE := Lib.hid (And.intro e0 e1); clear e0 e1
        cases hb : (((s[0]'h0s).toNat : Int) == (((⟨#[45, 100, 108, 104, 63]⟩ : ByteArray)[1]'hlt).toNat : Int))
        all_goals
          have HB := Lib.hid hb
          go_wp2_with fail
          go_quiet (fail)
          clear hb
          go_wp2
          refine ⟨⟨1 + 1, _, by omega, rfl, rfl, ?_, hd.more _⟩, by simp [intOf]⟩
          have h1 := HB.out
          rw [HE.out.1, HE.out.2] at h1
          refine congrArg _ ?_
          simp only [rk, kinds5]
          rw [h1]
          rfl
      · have e0 := getElem_by s 0 h0s
        have e1 := getElem_by ⟨#[45, 100, 108, 104, 63]⟩ 2 hlt
        have HE := Lib.hid (And.intro e0 e1); clear e0 e1
        cases hb : (((s[0]'h0s).toNat : Int) == (((⟨#[45, 100, 108, 104, 63]⟩ : ByteArray)[2]'hlt).toNat : Int))
        all_goals
          have HB := Lib.hid hb
          go_wp2_with fail
          go_quiet (fail)
          clear hb
          go_wp2
          refine ⟨⟨2 + 1, _, by omega, rfl, rfl, ?_, hd.more _⟩, by simp [intOf]⟩
          have h1 := HB.out
          rw [HE.out.1, HE.out.2] at h1
          refine congrArg _ ?_
          simp only [rk, kinds5]
          rw [h1]
          rfl
      · have e0 := getElem_by s 0 h0s
        have e1 := getElem_by ⟨#[45, 100, 108, 104, 63]⟩ 3 hlt
        have HE := Lib.hid (And.intro e0 e1); clear e0 e1
        cases hb : (((s[0]'h0s).toNat : Int) == (((⟨#[45, 100, 108, 104, 63]⟩ : ByteArray)[3]'hlt).toNat : Int))
        all_goals
          have HB := Lib.hid hb
          go_wp2_with fail
          go_quiet (fail)
          clear hb
          go_wp2
          refine ⟨⟨3 + 1, _, by omega, rfl, rfl, ?_, hd.more _⟩, by simp [intOf]⟩
          have h1 := HB.out
          rw [HE.out.1, HE.out.2] at h1
          refine congrArg _ ?_
          simp only [rk, kinds5]
          rw [h1]
          rfl
      · have e0 := getElem_by s 0 h0s
        have e1 := getElem_by ⟨#[45, 100, 108, 104, 63]⟩ 4 hlt
        have HE := Lib.hid (And.intro e0 e1); clear e0 e1
        cases hb : (((s[0]'h0s).toNat : Int) == (((⟨#[45, 100, 108, 104, 63]⟩ : ByteArray)[4]'hlt).toNat : Int))
        all_goals
          have HB := Lib.hid hb
          go_wp2_with fail
          go_quiet (fail)
          clear hb
          go_wp2
          refine ⟨⟨4 + 1, _, by omega, rfl, rfl, ?_, hd.more _⟩, by simp [intOf]⟩
          have h1 := HB.out
          rw [HE.out.1, HE.out.2] at h1
          refine congrArg _ ?_
          simp only [rk, kinds5]
          rw [h1]
          rfl
    · have e5 : k = 5 := by omega
      subst e5
      have e6 : iv = 6 := by omega
      subst e6
      clear hiv
      go_wp2
      obtain ⟨wo, rfl⟩ : ∃ wo : World, wo = wr := ⟨_, rfl⟩
      go_loop [7, 8] (fun m i => ∃ (k : Nat), k ≤ 9 ∧ i = .int .i64 ((k : Int) + 1) ∧ m = .int .i64 (rm s.data.toList k)) (fun _ i => 10 - (intOf i).toNat)
      case atStart => exact ⟨0, by omega, rfl, rfl⟩
      case round =>
        obtain ⟨k, hk, rfl, rfl⟩ := hrel
        by_cases hlt : k < 9
        · have hk1 : k + 1 < s.size := by omega
          have eb := getElem_by s (k + 1) hk1
          have HE := Lib.hid eb; clear eb
          generalize hm : rm s.data.toList k = mo
          have HM := Lib.hid hm; clear hm
          match k, hlt with
          | 0, _ | 1, _ | 2, _ | 3, _ | 4, _ | 5, _ | 6, _ | 7, _ | 8, _ =>
            go_wp2
            all_goals
              refine ⟨⟨_ + 1, ?_, rfl, ?_⟩, by simp [intOf]⟩
              · omega
              · refine congrArg _ ?_
                rw [rm_succ, HM.out, ← HE.out]
                first
                  | (have h3 := or3 (by assumption); simp [rstep, bitv, spI, *]; done)
                  | (simp [rstep, bitv, spI, *]; done)
        · have e9 : k = 9 := by omega
          subst e9
          go_wp2_with fail
          refine (hT _).mono ?_
          rintro e w1 ⟨rfl, hb⟩
          have hbb := Below.next hd.below hb
          rcases HR.out with ⟨rfl, hx⟩ | ⟨rfl, rfl, hx⟩ | ⟨rfl, hne, hx⟩
          · have HX := Lib.hid hx; clear hx
            go_wp2
            go_ret3
            exact ⟨by rw [HX.out]; rfl, hbb⟩
          · have HX := Lib.hid hx; clear hx
            go_wp2
            go_ret3
            exact ⟨by rw [HX.out]; rfl, hbb⟩
          · have HX := Lib.hid hx; clear hx
            have hne' : (str.toList == s.toList) = false := (Lib.bytes_beq_false_iff _ _).2 hne
            go_wp2
            go_ret3
            exact ⟨by rw [HX.out]; rfl, hbb⟩

theorem refParse_short (s : ByteArray) (_hs64 : s.size ≤ 9223372036854775807) (hs : ¬ s.size = 10) (w : World) :
    Calls Try.prog 16 #[.string s] w fun e w' => e = .returned (tup3 (0, 0, 120)) ∧ Below w.heap.size w w' := by
  have hlen : ((s.size : Int) != 10) = true := by simp; omega
  clear hs
  go_enter Try.func16, Try.ntmps16
  go_wp2
  go_ret3
  exact ⟨rfl, Below.refl _ _⟩
end Go.Proofs.Ytbkclmpopofebaa
