/-
  The walk of perms.Change: every mode and every text that is not too long.
-/
import Derived.Test.YtbkclmpopofebaaDoorOne
import Derived.Test.YtbkclmpopofebaaDoorSplitLibK
import Derived.Test.YtbkclmpopofebaaDoorAliveD
namespace Go.Proofs.YtbkclmpopofebaaDoor
open Go.RowKit
set_option linter.unusedVariables false

theorem pcs_le : ∀ (l : List UInt8), ∀ p ∈ pcs l, p.length ≤ l.length
  | [], p, h => by
    have : p = [] := by simpa [pcs] using h
    subst this; exact Nat.le_refl _
  | c :: l, p, h => by
    rw [pcs] at h
    split at h
    · rcases List.mem_cons.1 h with rfl | h
      · simp
      · have := pcs_le l p h; simp only [List.length_cons]; omega
    · split at h
      · rename_i e; exact absurd e (pcs_pos l)
      · rename_i q qs e
        rcases List.mem_cons.1 h with rfl | h
        · have := pcs_le l q (by rw [e]; simp)
          simp only [List.length_cons]; omega
        · have := pcs_le l p (by rw [e]; simp [h])
          simp only [List.length_cons]; omega
theorem valid_mode {m : Int} (hm : -9223372036854775808 ≤ m ∧ m ≤ 9223372036854775807) : (bits .andNot .i64 m 4095 == 0) = decide (R12 m) := by
  by_cases h : R12 m
  · rw [decide_eq_true h, show bits .andNot .i64 m 4095 = 0 from bclr_all h]; rfl
  · rw [decide_eq_false h]
    refine beq_eq_false_iff_ne.2 fun e => h ?_
    rw [bits_andNot] at e
    have e1 : BitVec.ofInt 64 m &&& ~~~ BitVec.ofInt 64 4095 = 0#64 := toInt_inj (by rw [e]; rfl)
    have e2 : BitVec.ofInt 64 m = BitVec.ofInt 64 m &&& BitVec.ofInt 64 4095 := by
      have : BitVec.ofInt 64 m = (BitVec.ofInt 64 m &&& BitVec.ofInt 64 4095) ||| (BitVec.ofInt 64 m &&& ~~~ BitVec.ofInt 64 4095) := by
        rw [← BitVec.and_or_distrib_left, BitVec.or_not_self, BitVec.and_allOnes]
      rw [e1, BitVec.or_zero] at this
      exact this
    have e3 : (BitVec.ofInt 64 m).toNat < 4096 := by
      rw [e2, BitVec.toNat_and]
      exact Nat.lt_of_le_of_lt Nat.and_le_right (by decide)
    have := R12.of e3
    rwa [toInt_ofInt hm] at this
/-- where the changes stand behind j clauses -/
def stC (m : Int) (ps : List (List UInt8)) (j : Nat) : Option Int := if R12 m then chainP m (ps.take j) else none
theorem stC_next {m : Int} {ps : List (List UInt8)} {j : Nat} (h : j < ps.length) : stC m ps (j + 1) = (stC m ps j).bind fun x => oneP x ps[j] := by
  unfold stC
  split
  · rw [List.take_add_one, List.getElem?_eq_getElem h, Option.toList_some, chainP_append]
    congr 1
    funext x
    rw [chainP]
    cases oneP x ps[j] <;> rfl
  · rfl
def ChangeAns (r : Int × Int) (w : World) (e : Ending) (w' : World) : Prop := e = .returned (.tuple #[.int .i64 r.1, .int .i64 r.2]) ∧ Below w.heap.size w w'
theorem changeP_st (m : Int) (l : List UInt8) : changeP m l = match stC m (pcs l) (pcs l).length with
    | some x => (x, 0)
    | none => (0, 120) := by
  unfold changeP stC
  rw [List.take_length]
  by_cases h : R12 m
  · rw [if_pos h, if_pos h]
    cases chainP m (pcs l) <;> rfl
  · rw [if_neg h, if_neg h]

set_option maxHeartbeats 8000000 in
theorem change_calls (m : Int) (s : ByteArray) (w : World) (hm : -9223372036854775808 ≤ m ∧ m ≤ 9223372036854775807) (hs : s.size ≤ 16777216) :
    Calls Tryd.prog 6 #[.int .i64 m, .string s] w (ChangeAns (changeP m s.data.toList) w) := by
  have hlen : s.data.toList.length = s.size := Array.length_toList
  have hSP := split_calls s w (by omega)
  have hv := valid_mode hm
  rw [changeP_st]
  have hps : (pieces s).length = (pcs s.data.toList).length := by unfold pieces; rw [List.length_map]
  have hpl := pcs_len s.data.toList
  have S0 := Lib.hid (show (stC m (pcs s.data.toList) 0) = if R12 m then some m else none from by unfold stC; rfl)
  have SN := Lib.hid (fun j (h : j < (pcs s.data.toList).length) => stC_next (m := m) h)
  have PC := Lib.hid (show ∀ j (h : j < (pcs s.data.toList).length) wz x, Calls Tryd.prog 10 #[.int .i64 x, .string (txt ((pcs s.data.toList)[j]'h))] wz (OneAns (oneP x ((pcs s.data.toList)[j]'h)) wz) from fun j h wz x => by
    have hle := pcs_le _ _ (List.getElem_mem h)
    have hsz : (txt ((pcs s.data.toList)[j]'h)).size = ((pcs s.data.toList)[j]'h).length := by show ((pcs s.data.toList)[j]'h).toArray.size = _; simp
    have := one_calls x (txt ((pcs s.data.toList)[j]'h)) wz (by omega)
    rwa [data_txt] at this)
  unfold pieces at hSP
  generalize pcs s.data.toList = ps at *
  rw [List.length_map] at hSP
  clear hps
  obtain ⟨n, hn⟩ : ∃ n, n = ps.length := ⟨_, rfl⟩
  have HN := Lib.hid hn
  rw [← hn] at hSP hpl
  have SP := Lib.hid hSP
  have hnl : n ≤ 16777217 := by omega
  have VM := Lib.hid hv
  rw [← hn]
  obtain ⟨ANS, hA⟩ : ∃ a : Int × Int, a = match stC m ps n with
    | some x => (x, 0)
    | none => (0, 120) := ⟨_, rfl⟩
  have SA := Lib.hid (show ∀ (o : Bool) x, stC m ps n = (if o then some x else none) → ANS = if o then (x, 0) else (0, 120) from fun o x h => by rw [hA, h]; cases o <;> rfl)
  rw [← hA]
  clear hSP hv hpl hn hlen hm hA
  obtain ⟨ok, hok⟩ : ∃ ok, ok = decide (R12 m) := ⟨_, rfl⟩
  rw [← hok] at VM
  have hbb : (bits .andNot .i64 m 4095 == 0) = ok := VM.out
  have OK0 := Lib.hid hok
  clear VM hok
  go_enter Tryd.func6, Tryd.ntmps6
  go_wp2_with fail
  refine SP.out.mono ?_
  rintro e w1 ⟨rfl, hw1⟩
  have CL := Lib.hid (show ∀ j (h : j < ps.length), w1.cell? ⟨w.heap.size, j, none⟩ = some (.string (txt (ps[j]'h))) from fun j h => by
    rw [hw1, World.cell?_alloc_at _ _ _ _ rfl]
    simp [h])
  have B1 := Lib.hid (show Below w.heap.size w w1 by rw [hw1]; exact (Below.refl _ _).alloc (Nat.le_refl _) _)
  have hlt1 : w.heap.size < w1.heap.size := by rw [hw1]; simp
  clear hw1
  go_wp2_with fail
  go_loopg [0, 6, 15] n (fun g s0 s6 s15 wr => ∃ (j : Nat) (x : Int) (o : Bool), s0 = .int .i64 x ∧ s6 = .bool o ∧ s15 = .int .i64 j ∧ j ≤ n ∧ n - j ≤ g ∧ Hid (stC m ps j = if o then some x else none) ∧ Hid (Below w1.heap.size w1 wr))
  case atStart => exact ⟨0, m, ok, rfl, rfl, rfl, Nat.zero_le _, by omega, Lib.hid (by rw [S0.out, OK0.out]; simp), Lib.hid (Below.refl _ _)⟩
  case round =>
    obtain ⟨j, x, o, rfl, rfl, rfl, hj, hg, ST, BB⟩ := hrel
    rename World => wr
    by_cases hlt : j < n
    · have hjl : j < ps.length := by rw [← HN.out]; exact hlt
      have cl := (BB.out.cell (p := ⟨w.heap.size, j, none⟩) hlt1).trans (CL.out j hjl)
      have sn := SN.out j hjl
      rw [ST.out] at sn
      have pc := PC.out j hjl wr x
      generalize ps[j]'hjl = p at cl sn pc
      clear hjl ST
      cases o with
      | false =>
        have SS := Lib.hid (show stC m ps (j + 1) = none by rw [sn]; rfl)
        clear sn pc
        go_wp2
        go_roundg (n - (j + 1))
        case measure => omega
        case rel => exact ⟨j + 1, x, false, rfl, rfl, by go_num, by omega, Nat.le_refl _, Lib.hid (by rw [SS.out]; rfl), BB⟩
      | true =>
        have SS := Lib.hid (show stC m ps (j + 1) = oneP x p by rw [sn]; rfl)
        unfold OneAns at pc
        generalize oneP x p = r at pc SS
        cases r with
        | none =>
          have PP := Lib.hid pc
          clear sn pc
          go_wp2_with fail
          refine PP.out.mono ?_
          rintro e w5 ⟨rfl, hb5⟩
          have B5 := Lib.hid (Below.next BB.out hb5)
          clear hb5
          go_wp2
          go_roundg (n - (j + 1))
          case measure => omega
          case rel => exact ⟨j + 1, 0, false, rfl, rfl, by go_num, by omega, Nat.le_refl _, Lib.hid (by rw [SS.out]; rfl), B5⟩
        | some y =>
          have PP := Lib.hid pc
          clear sn pc
          go_wp2_with fail
          refine PP.out.mono ?_
          rintro e w5 ⟨rfl, hb5⟩
          have B5 := Lib.hid (Below.next BB.out hb5)
          clear hb5
          go_wp2
          go_roundg (n - (j + 1))
          case measure => omega
          case rel => exact ⟨j + 1, y, true, rfl, rfl, by go_num, by omega, Nat.le_refl _, Lib.hid (by rw [SS.out]; rfl), B5⟩
    · obtain rfl : j = n := by omega
      have BW := Lib.hid (Below.next B1.out BB.out)
      have A := Lib.hid (SA.out o x ST.out)
      clear SA ST
      cases o with
      | false =>
        have A' := Lib.hid (show ANS = (0, 120) from A.out)
        clear A
        go_wp2
        go_ret2
        exact ⟨by rw [A'.out]; rfl, BW.out⟩
      | true =>
        have A' := Lib.hid (show ANS = (x, 0) from A.out)
        clear A
        go_wp2
        go_ret2
        exact ⟨by rw [A'.out]; rfl, BW.out⟩
end Go.Proofs.YtbkclmpopofebaaDoor
