/-
  The walks of the pattern reader's small methods: more, peek, plain; and of the document's item.
-/
import Derived.Test.YtejeepmcoafdcaaBlk
import Derived.Test.YtejeepmcoafdcaaSieve
import Derived.Test.YtejeepmcoafdcaaLaw
import Derived.IntWalk
import Derived.Deep.RegionHeld3
namespace Go.Proofs.Ytejeepmcoafdcaa
open Go.RowKit
set_option linter.unusedVariables false

theorem bt_get (s : ByteArray) (i : Nat) (h : i < s.size) : (s[i]'h).toNat = bt s.data.toList i := by
  unfold bt
  have h' : i < s.data.toList.length := by rw [Array.length_toList]; exact h
  rw [List.getD, List.getElem?_eq_getElem h']
  rfl
theorem len_list (s : ByteArray) : s.data.toList.length = s.size := by rw [Array.length_toList]; rfl

/-- the reader at R -/
def Rdr (w : World) (R : Nat) (s : ByteArray) (at' : Int) (bad : Bool) : Prop := Blk w R #[.string s, .int .i64 at', .bool bad] 68
theorem Rdr.cells {w : World} {R : Nat} {s : ByteArray} {a : Int} {bad : Bool} (h : Rdr w R s a bad) : w.cell? ⟨R, 0, none⟩ = some (.string s) ∧ w.cell? ⟨R, 1, none⟩ = some (.int .i64 a) ∧ w.cell? ⟨R, 2, none⟩ = some (.bool bad) :=
  ⟨Blk.cell h 0, Blk.cell h 1, Blk.cell h 2⟩
theorem Rdr.setAt {w : World} {R : Nat} {s : ByteArray} {a : Int} {bad : Bool} (h : Rdr w R s a bad) (x : Int) : Rdr (w.setCell ⟨R, 1, none⟩ (.int .i64 x)) R s x bad := Blk.set h 1 _
theorem Rdr.setBad {w : World} {R : Nat} {s : ByteArray} {a : Int} {bad : Bool} (h : Rdr w R s a bad) (x : Bool) : Rdr (w.setCell ⟨R, 2, none⟩ (.bool x)) R s a x := Blk.set h 2 _
theorem Rdr.drawn {w w' : World} {R : Nat} {s : ByteArray} {a : Int} {bad : Bool} (h : Rdr w R s a bad) (hd : Drawn w w') : Rdr w' R s a bad := Blk.drawn h hd
theorem Rdr.lt {w : World} {R : Nat} {s : ByteArray} {a : Int} {bad : Bool} (h : Rdr w R s a bad) : R < w.heap.size := Blk.lt h

theorem more_calls (w : World) (R : Nat) (s : ByteArray) (a : Int) (bad : Bool) (h : Rdr w R s a bad) :
    Calls Try.prog 29 #[.pointer (some ⟨R, 0, none⟩)] w fun e w' => e = .returned (.bool (decide (a < s.size) && !bad)) ∧ Drawn w w' := by
  obtain ⟨c0, c1, c2⟩ := h.cells
  clear h
  by_cases hlt : a < s.size
  · have d1 : decide (a < (s.size : Int)) = true := by simp [hlt]
    go_enter Try.func29, Try.ntmps29
    go_wp2
    go_quiet (fail)
    all_goals go_wp2
    all_goals go_ret
    all_goals exact ⟨by simp [d1], ⟨_, rfl⟩⟩
  · have d1 : decide (a < (s.size : Int)) = false := by simp [hlt]
    go_enter Try.func29, Try.ntmps29
    go_wp2
    go_quiet (fail)
    all_goals go_wp2
    all_goals go_ret
    all_goals exact ⟨by simp [d1], ⟨_, rfl⟩⟩

/-- is the byte k behind the place this one? -/
def peekB (s : ByteArray) (i : Nat) (b : Nat) : Bool := decide (i < s.size) && decide (bt s.data.toList i = b)

theorem peek_calls (w : World) (R : Nat) (s : ByteArray) (a : Nat) (bad : Bool) (k b : Int) (kn bn : Nat) (hk : k = kn) (hb : b = bn) (h : Rdr w R s a bad) (hs : s.size ≤ 140737488351232) (ha : a ≤ s.size + 10) (hk' : kn ≤ 10) :
    Calls Try.prog 33 #[.pointer (some ⟨R, 0, none⟩), .int .i64 k, .int .u8 b] w fun e w' => e = .returned (.bool (peekB s (a + kn) bn)) ∧ Drawn w w' := by
  subst hk
  subst hb
  obtain ⟨c0, c1, c2⟩ := h.cells
  clear h
  unfold peekB
  by_cases hlt : a + kn < s.size
  · have hbt := bt_get s (a + kn) hlt
    by_cases hq : bt s.data.toList (a + kn) = bn
    · have PQ := Lib.hid (show (decide (a + kn < s.size) && decide (bt s.data.toList (a + kn) = bn)) = true from by simp [hlt, hq])
      rw [hq] at hbt
      have h1 : (a : Int) + (kn : Int) < (s.size : Int) := by omega
      have h2 : (0 : Int) ≤ (a : Int) + (kn : Int) := by omega
      have h3 : IntKind.i64.wrap ((a : Int) + (kn : Int)) = (a : Int) + (kn : Int) := IntWalk.i64_in _ (by omega)
      have h4 : ((a : Int) + (kn : Int)).toNat = a + kn := by omega
      go_enter Try.func33, Try.ntmps33
      go_wp2
      go_quiet (fail)
      all_goals go_wp2
      all_goals go_ret
      all_goals exact ⟨by rw [PQ.out]; rfl, ⟨_, rfl⟩⟩
    · have PQ := Lib.hid (show (decide (a + kn < s.size) && decide (bt s.data.toList (a + kn) = bn)) = false from by simp [hlt, hq])
      generalize bt s.data.toList (a + kn) = q at *
      have t1 : ((q : Int) == (bn : Int)) = false := by simp; omega
      have h1 : (a : Int) + (kn : Int) < (s.size : Int) := by omega
      have h2 : (0 : Int) ≤ (a : Int) + (kn : Int) := by omega
      have h3 : IntKind.i64.wrap ((a : Int) + (kn : Int)) = (a : Int) + (kn : Int) := IntWalk.i64_in _ (by omega)
      have h4 : ((a : Int) + (kn : Int)).toNat = a + kn := by omega
      replace hq := Lib.hid hq
      go_enter Try.func33, Try.ntmps33
      go_wp2
      go_quiet (fail)
      all_goals go_wp2
      all_goals go_ret
      all_goals exact ⟨by rw [PQ.out]; rfl, ⟨_, rfl⟩⟩
  · have PQ := Lib.hid (show (decide (a + kn < s.size) && decide (bt s.data.toList (a + kn) = bn)) = false from by simp [hlt])
    have h1 : decide ((a : Int) + (kn : Int) < (s.size : Int)) = false := by simp; omega
    have h3 : IntKind.i64.wrap ((a : Int) + (kn : Int)) = (a : Int) + (kn : Int) := IntWalk.i64_in _ (by omega)
    go_enter Try.func33, Try.ntmps33
    go_wp2
    go_quiet (fail)
    all_goals go_wp2
    all_goals go_ret
    all_goals exact ⟨by rw [PQ.out]; rfl, ⟨_, rfl⟩⟩

/-- what plain comes to: a byte and the reader behind it; or the reader is marked bad -/
def PlainEnd (w : World) (R : Nat) (s : ByteArray) (a : Nat) (bad : Bool) (e : Ending) (w' : World) : Prop :=
  Only R w w' ∧ match item s.data.toList a with
    | some (b, j) => e = .returned (.int .u8 (b : Nat)) ∧ Rdr w' R s (j : Nat) bad
    | none => ∃ j : Nat, e = .returned (.int .u8 0) ∧ Rdr w' R s (j : Nat) true ∧ s.size ≤ j ∧ j ≤ a + 2

theorem PlainEnd.good {w w' : World} {R : Nat} {s : ByteArray} {a : Nat} {bad : Bool} {e : Ending} {b j : Nat} {x : Int} (hi : item s.data.toList a = some (b, j)) (he : e = .returned (.int .u8 (b : Nat))) (hr : Rdr w' R s x bad) (hx : x = (j : Nat)) (ho : Only R w w') : PlainEnd w R s a bad e w' := by
  unfold PlainEnd; rw [hi]; subst hx; exact ⟨ho, he, hr⟩
theorem PlainEnd.worse {w w' : World} {R : Nat} {s : ByteArray} {a : Nat} {bad : Bool} {e : Ending} {j : Nat} {x : Int} (hi : item s.data.toList a = none) (he : e = .returned (.int .u8 0)) (hr : Rdr w' R s x true) (hx : x = (j : Nat)) (h1 : s.size ≤ j) (h2 : j ≤ a + 2) (ho : Only R w w') : PlainEnd w R s a bad e w' := by
  unfold PlainEnd; rw [hi]; subst hx; exact ⟨ho, j, he, hr, h1, h2⟩
theorem drawnN (w : World) (q : Nat) : Drawn w (w.drewN q) := ⟨q, rfl⟩
theorem plain_calls (w : World) (R : Nat) (s : ByteArray) (a : Nat) (bad : Bool) (h : Rdr w R s a bad) (hs : s.size ≤ 140737488351232) (ha : a ≤ s.size + 5) :
    Calls Try.prog 36 #[.pointer (some ⟨R, 0, none⟩)] w (PlainEnd w R s a bad) := by
  have hl := len_list s
  have HP := Lib.hid (peek_calls w R s a bad 0 92 0 92 rfl rfl h hs (by omega) (by omega))
  have H := Lib.hid h
  rw [Nat.add_zero] at HP
  clear h
  by_cases h92 : bt s.data.toList a = 92
  · by_cases h0 : a < s.size
    · by_cases h1 : a + 1 < s.size
      · have PK := Lib.hid (show peekB s a 92 = true from by simp [peekB, h0, h92])
        have IT := Lib.hid (show item s.data.toList a = some (bt s.data.toList (a + 1), a + 2) from by unfold item; rw [if_neg (by omega), if_pos h92, if_neg (by omega)])
        have hbt := bt_get s (a + 1) (by omega)
        clear hl
        replace h92 := Lib.hid h92
        go_enter Try.func36, Try.ntmps36
        go_wp2_with fail
        refine HP.out.mono ?_
        rintro e w1 ⟨rfl, hd⟩
        rw [PK.out]
        have hr := H.out.drawn hd
        obtain ⟨c0, c1, c2⟩ := hr.cells
        have f1 := Blk.free hr 1
        have f2 := Blk.free hr 2
        have H1 := Lib.hid hr
        have D1 := Lib.hid (show Only R w w1 from Only.drawn hd)
        clear hr hd
        go_wp2_with fail
        go_quiet (fail)
        all_goals go_wp2_with fail
        all_goals have hq1 : (0 : Int) ≤ (a : Int) + 1 + 1 - 1 := by omega
        all_goals have hq2 : (a : Int) + 1 + 1 - 1 < (s.size : Int) := by omega
        all_goals have hq3 : IntKind.i64.wrap ((a : Int) + 1 + 1 - 1) = (a : Int) + 1 + 1 - 1 := IntWalk.i64_in _ (by omega)
        all_goals have hq4 : ((a : Int) + 1 + 1 - 1).toNat = a + 1 := by omega
        all_goals go_quiet (fail)
        all_goals go_wp2_with fail
        all_goals go_ret
        all_goals exact PlainEnd.good IT.out rfl ((((H1.out.setAt _).drawn (drawnN _ _)).setAt _).drawn (drawnN _ _)) (by omega) ((((D1.out.set 1 _).trans (Only.drawn (drawnN _ _))).set 1 _).trans (Only.drawn (drawnN _ _)))
      · have PK := Lib.hid (show peekB s a 92 = true from by simp [peekB, h0, h92])
        have IT := Lib.hid (show item s.data.toList a = none from by unfold item; rw [if_neg (by omega), if_pos h92, if_pos (by omega)])
        clear hl
        replace h92 := Lib.hid h92
        go_enter Try.func36, Try.ntmps36
        go_wp2_with fail
        refine HP.out.mono ?_
        rintro e w1 ⟨rfl, hd⟩
        rw [PK.out]
        have hr := H.out.drawn hd
        obtain ⟨c0, c1, c2⟩ := hr.cells
        have f1 := Blk.free hr 1
        have f2 := Blk.free hr 2
        have H1 := Lib.hid hr
        have D1 := Lib.hid (show Only R w w1 from Only.drawn hd)
        clear hr hd
        go_wp2_with fail
        go_quiet (fail)
        all_goals go_wp2_with fail
        all_goals go_ret
        all_goals exact PlainEnd.worse (j := a + 1) IT.out rfl (((H1.out.setAt _).drawn (drawnN _ _)).setBad _) (by omega) (by omega) (by omega) (((D1.out.set 1 _).trans (Only.drawn (drawnN _ _))).set 2 _)
    · have PK := Lib.hid (show peekB s a 92 = false from by simp [peekB, h0, h92])
      have IT := Lib.hid (show item s.data.toList a = none from by unfold item; rw [if_pos (by omega)])
      clear hl
      go_enter Try.func36, Try.ntmps36
      go_wp2_with fail
      refine HP.out.mono ?_
      rintro e w1 ⟨rfl, hd⟩
      rw [PK.out]
      have hr := H.out.drawn hd
      obtain ⟨c0, c1, c2⟩ := hr.cells
      have f1 := Blk.free hr 1
      have f2 := Blk.free hr 2
      have H1 := Lib.hid hr
      have D1 := Lib.hid (show Only R w w1 from Only.drawn hd)
      clear hr hd
      go_wp2_with fail
      go_quiet (fail)
      all_goals go_wp2_with fail
      all_goals go_ret
      all_goals exact PlainEnd.worse (j := a) IT.out rfl ((H1.out.drawn (drawnN _ _)).setBad _) (by omega) (by omega) (by omega) ((D1.out.trans (Only.drawn (drawnN _ _))).set 2 _)
  · by_cases h0 : a < s.size
    · have PK := Lib.hid (show peekB s a 92 = false from by simp [peekB, h0, h92])
      have IT := Lib.hid (show item s.data.toList a = some (bt s.data.toList a, a + 1) from by unfold item; rw [if_neg (by omega), if_neg h92])
      have hbt := bt_get s a (by omega)
      clear hl
      replace h92 := Lib.hid h92
      go_enter Try.func36, Try.ntmps36
      go_wp2_with fail
      refine HP.out.mono ?_
      rintro e w1 ⟨rfl, hd⟩
      rw [PK.out]
      have hr := H.out.drawn hd
      obtain ⟨c0, c1, c2⟩ := hr.cells
      have f1 := Blk.free hr 1
      have f2 := Blk.free hr 2
      have H1 := Lib.hid hr
      have D1 := Lib.hid (show Only R w w1 from Only.drawn hd)
      clear hr hd
      go_wp2_with fail
      go_quiet (fail)
      all_goals go_wp2_with fail
      all_goals have hq1 : (0 : Int) ≤ (a : Int) + 1 - 1 := by omega
      all_goals have hq2 : (a : Int) + 1 - 1 < (s.size : Int) := by omega
      all_goals have hq3 : IntKind.i64.wrap ((a : Int) + 1 - 1) = (a : Int) + 1 - 1 := IntWalk.i64_in _ (by omega)
      all_goals have hq4 : ((a : Int) + 1 - 1).toNat = a := by omega
      all_goals go_quiet (fail)
      all_goals go_wp2_with fail
      all_goals go_ret
      all_goals exact PlainEnd.good IT.out rfl (((H1.out.drawn (drawnN _ _)).setAt _).drawn (drawnN _ _)) (by omega) (((D1.out.trans (Only.drawn (drawnN _ _))).set 1 _).trans (Only.drawn (drawnN _ _)))
    · have PK := Lib.hid (show peekB s a 92 = false from by simp [peekB, h0, h92])
      have IT := Lib.hid (show item s.data.toList a = none from by unfold item; rw [if_pos (by omega)])
      clear hl
      go_enter Try.func36, Try.ntmps36
      go_wp2_with fail
      refine HP.out.mono ?_
      rintro e w1 ⟨rfl, hd⟩
      rw [PK.out]
      have hr := H.out.drawn hd
      obtain ⟨c0, c1, c2⟩ := hr.cells
      have f1 := Blk.free hr 1
      have f2 := Blk.free hr 2
      have H1 := Lib.hid hr
      have D1 := Lib.hid (show Only R w w1 from Only.drawn hd)
      clear hr hd
      go_wp2_with fail
      go_quiet (fail)
      all_goals go_wp2_with fail
      all_goals go_ret
      all_goals exact PlainEnd.worse (j := a) IT.out rfl ((H1.out.drawn (drawnN _ _)).setBad _) (by omega) (by omega) (by omega) ((D1.out.trans (Only.drawn (drawnN _ _))).set 2 _)

/-- what item comes to -/
def itemEnd (l : List UInt8) (i : Nat) : Ending := match item l i with
  | some (b, j) => .returned (.tuple #[.int .u8 (b : Nat), .int .i64 (j : Nat)])
  | none => .returned (.tuple #[.int .u8 0, .int .i64 0])
theorem ret_pair {v : Value} {k : IntKind} {x y : Int} (h : x = y) : Ending.returned (.tuple #[v, .int k x]) = .returned (.tuple #[v, .int k y]) := by rw [h]
theorem item_calls (w : World) (s : ByteArray) (x : Int) (i : Nat) (hx : x = i) (hs : s.size ≤ 140737488351232) (hi : i ≤ s.size + 10) :
    Calls Try.prog 32 #[.string s, .int .i64 x] w fun e w' => e = itemEnd s.data.toList i ∧ Drawn w w' := by
  subst hx
  have hl := len_list s
  unfold itemEnd item
  rw [hl]
  by_cases h0 : s.size ≤ i
  · rw [if_pos h0]
    have h0' : (s.size : Int) ≤ (i : Int) := by omega
    clear hl
    go_enter Try.func32, Try.ntmps32
    go_wp2
    go_ret2
    exact ⟨rfl, Drawn.refl _⟩
  · rw [if_neg h0]
    have h0' : (i : Int) < (s.size : Int) := by omega
    have hbt := bt_get s i (Nat.lt_of_not_le h0)
    by_cases h92 : bt s.data.toList i = 92
    · rw [if_pos h92]
      rw [h92] at hbt
      by_cases h1 : s.size ≤ i + 1
      · rw [if_pos h1]
        have h1' : (s.size : Int) ≤ (i : Int) + 1 := by omega
        clear hl h92
        go_enter Try.func32, Try.ntmps32
        go_wp2
        go_ret2
        exact ⟨rfl, Drawn.refl _⟩
      · rw [if_neg h1]
        have h1' : (i : Int) + 1 < (s.size : Int) := by omega
        have hbt1 := bt_get s (i + 1) (Nat.lt_of_not_le h1)
        have hq4 : ((i : Int) + 1).toNat = i + 1 := by omega
        clear hl h92
        go_enter Try.func32, Try.ntmps32
        go_wp2
        go_ret2
        exact ⟨ret_pair (by omega), Drawn.refl _⟩
    · rw [if_neg h92]
      have t1 : (((bt s.data.toList i : Nat) : Int) == 92) = false := by simp; omega
      clear hl
      replace h92 := Lib.hid h92
      go_enter Try.func32, Try.ntmps32
      go_wp2
      go_ret2
      exact ⟨ret_pair (by omega), Drawn.refl _⟩

theorem peek_is (w : World) (R : Nat) (s : ByteArray) (a : Nat) (bad : Bool) (k b : Int) (kn bn : Nat) (r : Bool) (hr : peekB s (a + kn) bn = r) (hk : k = kn) (hb : b = bn) (h : Rdr w R s a bad) (hs : s.size ≤ 140737488351232) (ha : a ≤ s.size + 10) (hk' : kn ≤ 10) :
    Calls Try.prog 33 #[.pointer (some ⟨R, 0, none⟩), .int .i64 k, .int .u8 b] w fun e w' => e = .returned (.bool r) ∧ Drawn w w' := by
  subst hr; exact peek_calls w R s a bad k b kn bn hk hb h hs ha hk'
theorem more_is (w : World) (R : Nat) (s : ByteArray) (a : Nat) (bad : Bool) (r : Bool) (hr : (decide (a < s.size) && !bad) = r) (h : Rdr w R s a bad) :
    Calls Try.prog 29 #[.pointer (some ⟨R, 0, none⟩)] w fun e w' => e = .returned (.bool r) ∧ Drawn w w' := by
  subst hr
  have := more_calls w R s a bad h
  have e : decide ((a : Int) < (s.size : Int)) = decide (a < s.size) := by simp
  rw [e] at this; exact this
/-- plain, in one form: a byte, the place, and whether the reader is bad -/
theorem plain_is (w : World) (R : Nat) (s : ByteArray) (a : Nat) (h : Rdr w R s a false) (hs : s.size ≤ 140737488351232) (ha : a ≤ s.size + 5) :
    Calls Try.prog 36 #[.pointer (some ⟨R, 0, none⟩)] w fun e w' =>
      ∃ (b j : Nat) (bad : Bool), e = .returned (.int .u8 (b : Nat)) ∧ Rdr w' R s (j : Nat) bad ∧ Only R w w' ∧ b < 256 ∧ (bad = false → item s.data.toList a = some (b, j)) ∧ (bad = true → item s.data.toList a = none ∧ s.size ≤ j ∧ j ≤ a + 2) := by
  refine (plain_calls w R s a false h hs ha).mono fun e w' hE => ?_
  unfold PlainEnd at hE
  obtain ⟨ho, hm⟩ := hE
  cases hi : item s.data.toList a with
  | none =>
    rw [hi] at hm
    obtain ⟨j, h1, h2, h3, h4⟩ := hm
    exact ⟨0, j, true, by simpa using h1, h2, ho, by omega, (fun h => by cases h), fun _ => ⟨rfl, h3, h4⟩⟩
  | some x =>
    obtain ⟨b, j⟩ := x
    rw [hi] at hm
    exact ⟨b, j, false, hm.1, hm.2, ho, (item_le hi).2.2, fun _ => rfl, (fun h => by cases h)⟩
end Go.Proofs.Ytejeepmcoafdcaa
