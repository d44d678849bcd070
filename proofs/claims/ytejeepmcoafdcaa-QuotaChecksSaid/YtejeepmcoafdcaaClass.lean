/-
  The walk of the pattern reader's class: a set of bytes between brackets.
-/
import Derived.Test.YtejeepmcoafdcaaBitset
import Derived.Deep.CutBlock
import Derived.Outline
import Derived.Deep.DeepCutAuto
namespace Go.Proofs.Ytejeepmcoafdcaa
open Go.RowKit
set_option linter.unusedVariables false

def tokVal (k : Int) (f : Nat → Bool) : Value := .agg (tokCells k f)
def none0 : Nat → Bool := fun _ => false
theorem word_none (j : Nat) : word none0 j = 0 := (word_eq none0 j 0 (by decide) (fun i _ => by simp [none0])).symm
theorem items_stop {p : List UInt8} {g i n : Nat} {f : Nat → Bool} (hg : 0 < g) (h : ¬ (i < p.length ∧ ¬ bt p i = 93)) : items p g i f n = some (f, n, i) := by
  cases g with
  | zero => omega
  | succ g => unfold items; rw [if_neg h]
theorem items_next {p : List UInt8} {g i n lo hi j : Nat} {f : Nat → Bool} (h1 : i < p.length) (h2 : ¬ bt p i = 93) (hs : span p i = some (lo, hi, j)) : items p (g + 1) i f n = items p g j (mark f lo hi) (n + 1) := by
  rw [items, if_pos ⟨h1, h2⟩, hs]
theorem items_none {p : List UInt8} {g i n : Nat} {f : Nat → Bool} (h1 : i < p.length) (h2 : ¬ bt p i = 93) (hs : span p i = none) : items p (g + 1) i f n = none := by
  rw [items, if_pos ⟨h1, h2⟩, hs]
theorem tok_none (k : Int) : tokCells k none0 = #[.int .i64 k, .int .u64 0, .int .u64 0, .int .u64 0, .int .u64 0] := by
  simp only [tokCells, word_none]; rfl

/-- a set's item, but for the order of its two ends -/
def span0 (p : List UInt8) (i : Nat) : Option (Nat × Nat × Nat) :=
  match item p i with
  | none => none
  | some (lo, next) =>
    if next + 1 < p.length ∧ bt p next = 45 ∧ ¬ bt p (next + 1) = 93 then
      match item p (next + 1) with
      | none => none
      | some (hi, next') => some (lo, hi, next')
    else some (lo, lo, next)
theorem span_span0 (p : List UInt8) (i : Nat) : span p i = match span0 p i with | none => none | some (lo, hi, j) => if hi < lo then none else some (lo, hi, j) := by
  unfold span span0
  cases item p i with
  | none => rfl
  | some x =>
    obtain ⟨lo, next⟩ := x
    dsimp only
    split
    · cases item p (next + 1) with
      | none => rfl
      | some y => rfl
    · simp
theorem span0_le {p : List UInt8} {i lo hi j : Nat} (h : span0 p i = some (lo, hi, j)) : i < j ∧ j ≤ p.length ∧ lo < 256 ∧ hi < 256 := by
  unfold span0 at h
  cases h1 : item p i with
  | none => simp [h1] at h
  | some x =>
    obtain ⟨a, n⟩ := x
    have g1 := item_le h1
    simp only [h1] at h
    split at h
    · cases h2 : item p (n + 1) with
      | none => simp [h2] at h
      | some y =>
        obtain ⟨c, m⟩ := y
        have g2 := item_le h2
        simp only [h2] at h
        cases h; omega
    · cases h; omega

/-- what class comes to -/
def ClassEnd (w : World) (R : Nat) (s : ByteArray) (a : Nat) (e : Ending) (w' : World) : Prop :=
  Only R w w' ∧ match setAt s.data.toList a with
    | some (f, j) => e = .returned (tokVal 0 f) ∧ Rdr w' R s (j : Nat) false
    | none => ∃ (f : Nat → Bool) (j : Nat), e = .returned (tokVal 0 f) ∧ Rdr w' R s (j : Nat) true ∧ j ≤ s.size + 8

/-- what a round of class keeps: T the token -/
def KInv (w wr : World) (R T Z : Nat) (s : ByteArray) (RES : Option ((Nat → Bool) × Nat × Nat)) (g i n : Nat) (f : Nat → Bool) (bad : Bool) : Prop :=
  Rdr wr R s (i : Nat) bad ∧ Blk wr T (tokCells 0 f) 72 ∧ Blk wr Z (tokCells 0 none0) 72 ∧ Only R w wr ∧ n ≤ i ∧
    (bad = false → i ≤ s.size ∧ s.size < i + g ∧ RES = items s.data.toList g i f n) ∧ (bad = true → RES = none ∧ i ≤ s.size + 4)
theorem KInv.drawn {w wr w' : World} {R T Z : Nat} {s : ByteArray} {RES : Option ((Nat → Bool) × Nat × Nat)} {g i n : Nat} {f : Nat → Bool} {bad : Bool} (h : KInv w wr R T Z s RES g i n f bad) (hd : Drawn wr w') : KInv w w' R T Z s RES g i n f bad :=
  ⟨h.1.drawn hd, h.2.1.drawn hd, h.2.2.1.drawn hd, h.2.2.2.1.trans (Only.drawn hd), h.2.2.2.2⟩
/-- what a round hands on -/
def NextOK (s : ByteArray) (RES : Option ((Nat → Bool) × Nat × Nat)) (g j n : Nat) (f : Nat → Bool) : Bool → Prop
  | false => j ≤ s.size ∧ s.size < j + g ∧ RES = items s.data.toList g j f (n + 1) ∧ n + 1 ≤ j
  | true => RES = none ∧ j ≤ s.size + 4 ∧ n + 1 ≤ j
theorem KInv.next {w wr : World} {R T Z : Nat} {s : ByteArray} {RES : Option ((Nat → Bool) × Nat × Nat)} {g j n : Nat} {f : Nat → Bool} {bad : Bool} (h1 : Rdr wr R s (j : Nat) bad) (h2 : Blk wr T (tokCells 0 f) 72) (h3 : Blk wr Z (tokCells 0 none0) 72) (h4 : Only R w wr) (h5 : NextOK s RES g j n f bad) :
    ∃ (i n' : Nat) (f' : Nat → Bool) (bad' : Bool), Value.int IntKind.i64 ((n : Int) + 1) = Value.int IntKind.i64 (n' : Int) ∧ KInv w wr R T Z s RES g i n' f' bad' := by
  refine ⟨j, n + 1, f, bad, by simp, h1, h2, h3, h4, ?_, ?_, ?_⟩
  · cases bad with
    | false => exact h5.2.2.2
    | true => exact h5.2.2
  · intro h; subst h; exact ⟨h5.1, h5.2.1, h5.2.2.1⟩
  · intro h; subst h; exact ⟨h5.1, h5.2.1⟩
/-- the two tokens and all but the reader stay -/
def TZ (w wr : World) (R T Z : Nat) (f : Nat → Bool) : Prop := Blk wr T (tokCells 0 f) 72 ∧ Blk wr Z (tokCells 0 none0) 72 ∧ Only R w wr
theorem TZ.congr {w wr : World} {R T Z : Nat} {f g : Nat → Bool} (h : TZ w wr R T Z f) (he : tokCells 0 f = tokCells 0 g) : TZ w wr R T Z g := by
  unfold TZ at *; rw [← he]; exact h
theorem TZ.only {w wr w' : World} {R T Z : Nat} {f : Nat → Bool} (h : TZ w wr R T Z f) (ho : Only R wr w') (hT : R ≠ T) (hZ : R ≠ Z) : TZ w w' R T Z f :=
  ⟨h.1.only ho hT.symm, h.2.1.only ho hZ.symm, h.2.2.trans ho⟩
/-- behind the items -/
def XInv (w wr : World) (R T Z : Nat) (s : ByteArray) (RES : Option ((Nat → Bool) × Nat × Nat)) (i n : Nat) (f : Nat → Bool) (bad : Bool) : Prop :=
  Rdr wr R s (i : Nat) bad ∧ Blk wr T (tokCells 0 f) 72 ∧ Blk wr Z (tokCells 0 none0) 72 ∧ Only R w wr ∧ i ≤ s.size + 4 ∧
    (bad = false → RES = some (f, n, i) ∧ (i < s.size → bt s.data.toList i = 93)) ∧ (bad = true → RES = none)

set_option maxRecDepth 100000 in
set_option maxHeartbeats 4000000 in
theorem class_calls (w : World) (R : Nat) (s : ByteArray) (a : Nat) (h : Rdr w R s a false) (hs : s.size ≤ 140737488351232) (ha : a ≤ s.size) :
    Calls Try.prog 35 #[.pointer (some ⟨R, 0, none⟩)] w (ClassEnd w R s a) := by
  have hl := len_list s
  have hR := h.lt
  have H := Lib.hid (show Rdr ((w.alloc (.cells (tokCells 0 none0) 72)).alloc (.cells (tokCells 0 none0) 72)) R s a false from Blk.alloc (Blk.alloc h _) _)
  have BT := Lib.hid (show Blk ((w.alloc (.cells (tokCells 0 none0) 72)).alloc (.cells (tokCells 0 none0) 72)) (w.heap.size + 1) (tokCells 0 none0) 72 from by
    have := Blk.new (w.alloc (.cells (tokCells 0 none0) 72)) (tokCells 0 none0) 72
    rwa [World.size_alloc] at this)
  have BZ := Lib.hid (show Blk ((w.alloc (.cells (tokCells 0 none0) 72)).alloc (.cells (tokCells 0 none0) 72)) w.heap.size (tokCells 0 none0) 72 from (Blk.new w _ _).alloc _)
  have OO := Lib.hid (show Only R w ((w.alloc (.cells (tokCells 0 none0) 72)).alloc (.cells (tokCells 0 none0) 72)) from ((Only.refl _ _).alloc _).alloc _)
  rw [tok_none] at H BT BZ OO
  have PK := Lib.hid (peek_calls _ R s a false 0 33 0 33 rfl rfl H.out hs (by omega) (by omega))
  rw [Nat.add_zero] at PK
  clear h
  go_enter Try.func35, Try.ntmps35
  go_wp2_with fail
  refine PK.out.mono ?_
  rintro e w1 ⟨rfl, hd⟩
  have hnb := Lib.hid (show peekB s a 33 = decide (a < s.data.toList.length ∧ bt s.data.toList a = 33) from by rw [hl]; unfold peekB; simp)
  have hSz : R ≠ w.heap.size ∧ R ≠ w.heap.size + 1 := by omega
  have SZ := Lib.hid (show R ≠ w.heap.size ∧ R ≠ w.heap.size + 1 ∧ w.heap.size ≠ w.heap.size + 1 ∧ w.heap.size ≤ w.heap.size ∧ w.heap.size ≤ w.heap.size + 1 from by omega)
  have H1 := Lib.hid (H.out.drawn hd)
  have BT1 := Lib.hid (BT.out.drawn hd)
  have BZ1 := Lib.hid (BZ.out.drawn hd)
  have OO1 := Lib.hid (OO.out.trans (Only.drawn hd))
  obtain ⟨c0, c1, c2⟩ := H1.out.cells
  have f1 := Blk.free H1.out 1
  clear hd H BT BZ OO PK hSz hR
  generalize w.heap.size + 1 = T at *
  generalize hZe : w.heap.size = Z at *
  have ZE := Lib.hid hZe
  clear hZe
  generalize hnb' : peekB s a 33 = nb at *
  clear hnb'
  go_upto_if 11 with fail
  go_cut [] (fun wx => Rdr wx R s ((if nb then a + 1 else a : Nat) : Int) false ∧ Blk wx T (tokCells 0 none0) 72 ∧ Blk wx Z (tokCells 0 none0) 72 ∧ Only R w wx)
  case first =>
    cases nb
    · go_wp2_with fail
      go_meet
      rw [tok_none]
      exact ⟨H1.out, BT1.out, BZ1.out, OO1.out⟩
    · go_wp2_with fail
      go_meet
      rw [tok_none]
      exact ⟨H1.out.setAt _, BT1.out.other _ SZ.out.2.1 _, BZ1.out.other _ SZ.out.1 _, OO1.out.set _ _⟩
  case rest =>
    rename World => w2
    clear H1 BT1 BZ1 OO1 c0 c1 c2 f1
    clear w1
    have hi1 : (if nb then a + 1 else a) ≤ s.size := by
      cases nb
      · simpa using ha
      · have := hnb.out
        rw [hl] at this
        have h2 : a < s.size := (of_decide_eq_true this.symm).1
        simp; omega
    have SA := Lib.hid (show setAt s.data.toList a = (match items s.data.toList (s.size + 1) (if nb then a + 1 else a) none0 0 with | none => none | some (f, n, j) => if s.size ≤ j ∨ n = 0 then none else some (turned nb f, j + 1)) from by
      unfold setAt
      rw [← hnb.out, hl]
      have e1 : (if a < s.size ∧ bt s.data.toList a = 33 then a + 1 else a) = (if nb then a + 1 else a) := by
        have := hnb.out
        rw [hl] at this
        rw [this]
        by_cases h : a < s.size ∧ bt s.data.toList a = 33 <;> simp [h]
      rw [e1]; rfl)
    clear hnb
    have K0 := Lib.hid (show KInv w w2 R T Z s (items s.data.toList (s.size + 1) (if nb then a + 1 else a) none0 0) (s.size + 1) (if nb then a + 1 else a) 0 none0 false from
      ⟨hcut.1, hcut.2.1, hcut.2.2.1, hcut.2.2.2, Nat.zero_le _, fun _ => ⟨hi1, by omega, rfl⟩, fun h => by cases h⟩)
    clear hcut
    generalize items s.data.toList (s.size + 1) (if nb then a + 1 else a) none0 0 = RES at *
    generalize (if nb then a + 1 else a) = i1 at *
    go_upto_block 0 with fail
    go_cut [5] (fun s5 wx => ∃ (i n : Nat) (f : Nat → Bool) (bad : Bool), s5 = .int .i64 n ∧ XInv w wx R T Z s RES i n f bad)
    case first =>
      go_wp2_with fail
      go_loopg [5, 6, 7] (s.size + 1) (fun g s5 s6 s7 wr => ∃ (i n : Nat) (f : Nat → Bool) (bad : Bool), s5 = .int .i64 n ∧ KInv w wr R T Z s RES g i n f bad)
      case atStart => exact ⟨i1, 0, none0, false, rfl, K0.out⟩
      case round =>
        obtain ⟨i, n, f, bad, rfl, hK⟩ := hrel
        clear K0 hi1
        clear i1
        have K := Lib.hid hK
        clear hK
        cases bad with
        | true =>
          have MC := Lib.hid (more_is wr R s i true false (by simp) K.out.1)
          go_wp2_with fail
          refine MC.out.mono ?_
          rintro e w3 ⟨rfl, hd⟩
          have K3 := Lib.hid (K.out.drawn hd)
          clear hd
          go_wp2_with fail
          go_meet
          exact ⟨i, n, f, true, rfl, K3.out.1, K3.out.2.1, K3.out.2.2.1, K3.out.2.2.2.1, (K3.out.2.2.2.2.2.2 rfl).2, (fun h => by cases h), fun _ => (K3.out.2.2.2.2.2.2 rfl).1⟩
        | false =>
          have hq := K.out.2.2.2.2.2.1 rfl
          by_cases hi : i < s.size
          · by_cases h93 : bt s.data.toList i = 93
            · have MC := Lib.hid (more_is wr R s i false true (by simp [hi]) K.out.1)
              have RS := Lib.hid (hq.2.2.trans (items_stop (by omega) (by rw [hl]; simp [h93])))
              clear hq
              replace h93 := Lib.hid h93
              go_wp2_with fail
              refine MC.out.mono ?_
              rintro e w3 ⟨rfl, hd⟩
              have K3 := Lib.hid (K.out.drawn hd)
              clear hd
              go_wp2_with fail
              refine (peek_is w3 R s i false 0 93 0 93 true (by simp [peekB, hi, h93.out]) rfl rfl K3.out.1 hs (by omega) (by omega)).mono ?_
              rintro e w4 ⟨rfl, hd⟩
              have K4 := Lib.hid (K3.out.drawn hd)
              clear hd
              go_wp2_with fail
              go_meet
              exact ⟨i, n, f, false, rfl, K4.out.1, K4.out.2.1, K4.out.2.2.1, K4.out.2.2.2.1, by omega, (fun _ => ⟨RS.out, fun _ => h93.out⟩), (fun h => by cases h)⟩
            · have MC := Lib.hid (more_is wr R s i false true (by simp [hi]) K.out.1)
              clear hq
              replace h93 := Lib.hid h93
              go_wp2_with fail
              refine MC.out.mono ?_
              rintro e w3 ⟨rfl, hd⟩
              have K3 := Lib.hid (K.out.drawn hd)
              clear hd
              go_wp2_with fail
              refine (peek_is w3 R s i false 0 93 0 93 false (by simp [peekB, hi, h93.out]) rfl rfl K3.out.1 hs (by omega) (by omega)).mono ?_
              rintro e w4 ⟨rfl, hd⟩
              have K4 := Lib.hid (K3.out.drawn hd)
              clear hd K3 K MC
              clear w3 wr
              go_wp2_with fail
              refine (plain_is w4 R s i K4.out.1 hs (by omega)).mono ?_
              rintro e w5 ⟨lo, j, bad2, rfl, hr5, ho5, hlo, hb0, hb1⟩
              have V5 := Lib.hid (show TZ w w5 R T Z f from TZ.only ⟨K4.out.2.1, K4.out.2.2.1, K4.out.2.2.2.1⟩ ho5 SZ.out.2.1 SZ.out.1)
              have HR := Lib.hid hr5
              have HB := Lib.hid (And.intro hb0 hb1)
              have hj : j ≤ s.size + 2 := by
                cases bad2 with
                | false => have := (item_le (hb0 rfl)).2.1; rw [hl] at this; omega
                | true => have := (hb1 rfl).2.2; omega
              obtain ⟨c0, c1, c2⟩ := hr5.cells
              have fz1 := Blk.free hr5 1
              have fz2 := Blk.free hr5 2
              have QX := Lib.hid (K4.out.2.2.2.2.2.1 rfl)
              have QN := Lib.hid K4.out.2.2.2.2.1
              clear hr5 ho5 hb0 hb1 K4
              clear w4
              have hcnd : ∃ cnd : Bool, cnd = decide (j + 1 < s.size ∧ bt s.data.toList j = 45 ∧ ¬ bt s.data.toList (j + 1) = 93) := ⟨_, rfl⟩
              obtain ⟨cnd, hcnd⟩ := hcnd
              have HC := Lib.hid hcnd
              clear hcnd
              have P45 := Lib.hid (show ∀ (r : Bool), peekB s (j + 0) 45 = r → ∀ q, Calls Try.prog 33 #[.pointer (some ⟨R, 0, none⟩), .int .i64 0, .int .u8 45] (w5.drewN q) fun e w' => e = .returned (.bool r) ∧ ∃ m, w' = (w5.drewN q).drewN m from
                fun r hr q => peek_is (w5.drewN q) R s j bad2 0 45 0 45 r hr rfl rfl (HR.out.drawn (drawnN _ _)) hs (by omega) (by omega))
              have P93 := Lib.hid (show ∀ (r : Bool), peekB s (j + 1) 93 = r → ∀ q, Calls Try.prog 33 #[.pointer (some ⟨R, 0, none⟩), .int .i64 1, .int .u8 93] (w5.drewN q) fun e w' => e = .returned (.bool r) ∧ ∃ m, w' = (w5.drewN q).drewN m from
                fun r hr q => peek_is (w5.drewN q) R s j bad2 1 93 1 93 r hr rfl rfl (HR.out.drawn (drawnN _ _)) hs (by omega) (by omega))
              have hw1 : IntKind.i64.wrap ((j : Int) + 1) = (j : Int) + 1 := IntWalk.i64_in _ (by omega)
              go_upto_region 10 with fail
              go_cut [50] (fun s50 wx => s50 = .bool cnd ∧ Rdr wx R s (j : Nat) bad2 ∧ TZ w wx R T Z f)
              case first =>
                by_cases q1 : j < s.size ∧ bt s.data.toList j = 45
                · by_cases q2 : j + 1 < s.size
                  · have d1 : decide ((j : Int) + 1 < (s.size : Int)) = true := by simp; omega
                    by_cases q3 : bt s.data.toList (j + 1) = 93
                    · have R1 := Lib.hid (P45.out true (by simp [peekB, q1.1, q1.2]))
                      have R2 := Lib.hid (P93.out true (by simp [peekB, q2, q3]))
                      have CN := Lib.hid (show cnd = false from by rw [HC.out]; simp [q3])
                      clear q1 q3
                      go_quiet (first | (go_at_call_of 33 (Value.int IntKind.u8 45); exact Calls.quiet_of (R1.out _)) | (go_at_call_of 33 (Value.int IntKind.u8 93); exact Calls.quiet_of (R2.out _)))
                      all_goals go_wp2_with fail
                      all_goals go_meet
                      all_goals exact ⟨by rw [CN.out], HR.out.drawn (drawnN _ _), V5.out.only (Only.drawn (drawnN _ _)) SZ.out.2.1 SZ.out.1⟩
                    · have R1 := Lib.hid (P45.out true (by simp [peekB, q1.1, q1.2]))
                      have R2 := Lib.hid (P93.out false (by simp [peekB, q3]))
                      have CN := Lib.hid (show cnd = true from by rw [HC.out]; simp [q3, q1.2]; omega)
                      clear q1 q3
                      go_quiet (first | (go_at_call_of 33 (Value.int IntKind.u8 45); exact Calls.quiet_of (R1.out _)) | (go_at_call_of 33 (Value.int IntKind.u8 93); exact Calls.quiet_of (R2.out _)))
                      all_goals go_wp2_with fail
                      all_goals go_meet
                      all_goals exact ⟨by rw [CN.out], HR.out.drawn (drawnN _ _), V5.out.only (Only.drawn (drawnN _ _)) SZ.out.2.1 SZ.out.1⟩
                  · have d1 : decide ((j : Int) + 1 < (s.size : Int)) = false := by simp; omega
                    have R1 := Lib.hid (P45.out true (by simp [peekB, q1.1, q1.2]))
                    have CN := Lib.hid (show cnd = false from by rw [HC.out]; simp [q2])
                    clear q1
                    go_quiet (first | (go_at_call_of 33 (Value.int IntKind.u8 45); exact Calls.quiet_of (R1.out _)))
                    all_goals go_wp2_with fail
                    all_goals go_meet
                    all_goals exact ⟨by rw [CN.out], HR.out.drawn (drawnN _ _), V5.out.only (Only.drawn (drawnN _ _)) SZ.out.2.1 SZ.out.1⟩
                · have R1 := Lib.hid (P45.out false (by simp only [peekB, Nat.add_zero, Bool.and_eq_false_iff, decide_eq_false_iff_not]; omega))
                  have CN := Lib.hid (show cnd = false from by rw [HC.out]; simp; intro h1 h2; exact absurd ⟨by omega, h2⟩ q1)
                  clear q1
                  go_quiet (first | (go_at_call_of 33 (Value.int IntKind.u8 45); exact Calls.quiet_of (R1.out _)))
                  all_goals go_wp2_with fail
                  all_goals go_meet
                  all_goals exact ⟨by rw [CN.out], HR.out.drawn (drawnN _ _), V5.out.only (Only.drawn (drawnN _ _)) SZ.out.2.1 SZ.out.1⟩
              case rest =>
                clear c0 c1 c2 fz1 fz2 P45 P93 HR V5
                clear w5
                rename World => w6
                obtain ⟨rfl, hr6, hv6⟩ := hcut
                have HR := Lib.hid hr6
                have V6 := Lib.hid hv6
                obtain ⟨c0, c1, c2⟩ := hr6.cells
                have fz1 := Blk.free hr6 1
                clear hr6 hv6
                go_upto_if 50 with fail
                go_cut [7] (fun s7 wx => ∃ (hi j' : Nat) (bad3 : Bool), s7 = .int .u8 (hi : Nat) ∧ Rdr wx R s (j' : Nat) bad3 ∧ TZ w wx R T Z f ∧ hi < 256 ∧ (bad3 = false → span0 s.data.toList i = some (lo, hi, j')) ∧ (bad3 = true → span0 s.data.toList i = none ∧ j' ≤ s.size + 4 ∧ s.size ≤ j'))
                case first =>
                  cases cnd with
                  | false =>
                    go_wp2_with fail
                    go_meet
                    have hc : ¬ (j + 1 < s.data.toList.length ∧ bt s.data.toList j = 45 ∧ ¬ bt s.data.toList (j + 1) = 93) := by rw [hl]; exact of_decide_eq_false HC.out.symm
                    refine ⟨lo, j, bad2, rfl, HR.out, V6.out, hlo, fun h => ?_, fun h => ⟨?_, by omega, (HB.out.2 h).2.1⟩⟩
                    · unfold span0; rw [HB.out.1 h]; simp only; rw [if_neg hc]
                    · unfold span0; rw [(HB.out.2 h).1]
                  | true =>
                    have hc : j + 1 < s.data.toList.length ∧ bt s.data.toList j = 45 ∧ ¬ bt s.data.toList (j + 1) = 93 := by rw [hl]; exact of_decide_eq_true HC.out.symm
                    have hj1 : j + 1 < s.size := by rw [← hl]; exact hc.1
                    have hbf : bad2 = false := by
                      cases bad2 with
                      | false => rfl
                      | true => have := (HB.out.2 rfl).2.1; omega
                    subst hbf
                    have HC1 := Lib.hid hc
                    have IT := Lib.hid (HB.out.1 rfl)
                    clear hc HB HC
                    go_wp2_with fail
                    refine (plain_is _ R s (j + 1) (show Rdr _ R s ((j + 1 : Nat) : Int) false from HR.out.setAt _) hs (by omega)).mono ?_
                    rintro e w7 ⟨hi2, j', bad3, rfl, hr7, ho7, hhi, hb0, hb1⟩
                    have HR7 := Lib.hid hr7
                    have HO7 := Lib.hid ho7
                    have HB7 := Lib.hid (And.intro hb0 hb1)
                    clear hr7 ho7 hb0 hb1
                    go_wp2_with fail
                    go_meet
                    refine ⟨hi2, j', bad3, rfl, HR7.out, (V6.out.only (((Only.refl R w6).set 1 _).trans HO7.out) SZ.out.2.1 SZ.out.1), hhi, fun h => ?_, fun h => ⟨?_, by have := (HB7.out.2 h).2.2; omega, (HB7.out.2 h).2.1⟩⟩
                    · unfold span0; rw [IT.out]; simp only; rw [if_pos HC1.out, HB7.out.1 h]
                    · unfold span0; rw [IT.out]; simp only; rw [if_pos HC1.out, (HB7.out.2 h).1]
                case rest =>
                  clear c0 c1 c2 fz1 HR V6 HB HC hj hw1
                  clear w6 j
                  rename World => w7
                  obtain ⟨hi2, j, bad3, rfl, hr7, hv7, hhi, hb0, hb1⟩ := hcut
                  have HR := Lib.hid hr7
                  have V7 := Lib.hid hv7
                  have HB := Lib.hid (And.intro hb0 hb1)
                  obtain ⟨c0, c1, c2⟩ := hr7.cells
                  have fz2 := Blk.free hr7 2
                  clear hr7 hv7 hb0 hb1
                  have hn : n ≤ i := QN.out
                  have NX : ∃ bad4 : Bool, (bad4 = (bad3 || decide (hi2 < lo))) ∧ ∃ g', gk = g' + 1 ∧ NextOK s RES g' j n (mark f lo hi2) bad4 := by
                    obtain ⟨x1, x2, x3⟩ := QX.out
                    obtain ⟨g', rfl⟩ : ∃ g', gk = g' + 1 := ⟨gk - 1, by omega⟩
                    have hil : i < s.data.toList.length := by rw [hl]; exact hi
                    have fin : ∀ b4 : Bool, b4 = (bad3 || decide (hi2 < lo)) → (b4 = false → j ≤ s.size ∧ s.size < j + g' ∧ RES = items s.data.toList g' j (mark f lo hi2) (n + 1) ∧ n + 1 ≤ j) → (b4 = true → RES = none ∧ j ≤ s.size + 4 ∧ n + 1 ≤ j) → NextOK s RES g' j n (mark f lo hi2) b4 := by
                      intro b4 _ ha hb
                      cases b4 with
                      | false => exact ha rfl
                      | true => exact hb rfl
                    refine ⟨_, rfl, g', rfl, fin _ rfl (fun h => ?_) (fun h => ?_)⟩
                    · have h1 : bad3 = false := by cases bad3 with | false => rfl | true => simp at h
                      have h2 : ¬ hi2 < lo := by intro hx; subst h1; simp [hx] at h
                      have hs0 := HB.out.1 h1
                      have hle := span0_le hs0
                      rw [hl] at hle
                      have hsp : span s.data.toList i = some (lo, hi2, j) := by rw [span_span0, hs0]; simp only; rw [if_neg h2]
                      exact ⟨by omega, by omega, x3.trans (items_next hil h93.out hsp), by omega⟩
                    · by_cases h1 : bad3 = true
                      · have hs0 := HB.out.2 h1
                        exact ⟨x3.trans (items_none hil h93.out (by rw [span_span0, hs0.1])), hs0.2.1, by omega⟩
                      · have h1' : bad3 = false := by cases bad3 with | false => rfl | true => exact absurd rfl h1
                        have h2 : hi2 < lo := by subst h1'; simpa using h
                        have hs0 := HB.out.1 h1'
                        have hle := span0_le hs0
                        rw [hl] at hle
                        exact ⟨x3.trans (items_none hil h93.out (by rw [span_span0, hs0]; simp only; rw [if_pos h2])), by omega, by omega⟩
                  obtain ⟨bad4, hb4, g', rfl, hx0⟩ := NX
                  have HX := Lib.hid hx0
                  clear hx0
                  have AD := Lib.hid (show ∀ wz, Blk wz T (tokCells 0 f) 72 → Calls Try.prog 34 #[.pointer (some ⟨T, 0, none⟩), .int .u8 (lo : Nat), .int .u8 (hi2 : Nat)] wz fun e w' => e = .returned (.tuple #[]) ∧ Blk w' T (tokCells 0 (mark f lo hi2)) 72 ∧ Only T wz w' from fun wz hz => add_calls wz T 0 _ _ f lo hi2 rfl rfl hz hlo hhi)
                  have hcase : (bad3 = true ∧ bad4 = true) ∨ (bad3 = false ∧ hi2 < lo ∧ bad4 = true) ∨ (bad3 = false ∧ lo ≤ hi2 ∧ bad4 = false) := by
                    cases bad3 with
                    | true => left; simpa using hb4
                    | false =>
                      right
                      by_cases h : hi2 < lo
                      · left; simpa [h] using hb4
                      · right; refine ⟨rfl, by omega, ?_⟩; simpa [h] using hb4
                  clear hb4
                  rcases hcase with ⟨rfl, rfl⟩ | ⟨rfl, hlt, rfl⟩ | ⟨rfl, hlt, rfl⟩
                  case' inr.inr => have d5 : decide (hi2 < lo) = false := by simp; omega
                  all_goals
                    go_wp2_with fail
                    refine (AD.out _ (V7.out.1.other _ SZ.out.2.1 _)).mono ?_
                    rintro e w8 ⟨rfl, hb8, ho8⟩
                    have K8 := Lib.hid (And.intro hb8 ho8)
                    clear hb8 ho8
                    go_wp2_with fail
                    go_roundg g'
                    case measure => omega
                    case rel =>
                      exact KInv.next (Blk.only (HR.out.setBad _) K8.out.2 SZ.out.2.1) K8.out.1 ((V7.out.2.1.other _ SZ.out.1 _).only K8.out.2 SZ.out.2.2.1) ((V7.out.2.2.set 2 _).transNew K8.out.2 (by rw [ZE.out]; exact SZ.out.2.2.2.2)) HX.out
          · have MC := Lib.hid (more_is wr R s i false false (by simp [hi]) K.out.1)
            have RS := Lib.hid (hq.2.2.trans (items_stop (by omega) (by rw [hl]; simp [hi])))
            clear hq
            go_wp2_with fail
            refine MC.out.mono ?_
            rintro e w3 ⟨rfl, hd⟩
            have K3 := Lib.hid (K.out.drawn hd)
            clear hd
            go_wp2_with fail
            go_meet
            exact ⟨i, n, f, false, rfl, K3.out.1, K3.out.2.1, K3.out.2.2.1, K3.out.2.2.2.1, by have := (K3.out.2.2.2.2.2.1 rfl).1; omega, (fun _ => ⟨RS.out, fun h => absurd h hi⟩), (fun h => by cases h)⟩
    case rest =>
      rename World => w3
      obtain ⟨i, n, f, bad, rfl, hX⟩ := hcut
      have X := Lib.hid hX
      clear hX K0 hi1
      clear w2 i1
      have hi4 := X.out.2.2.2.2.1
      have hwr : ∃ wrong : Bool, wrong = (decide (n = 0) || !(peekB s i 93)) := ⟨_, rfl⟩
      obtain ⟨wrong, hwr⟩ := hwr
      have HW := Lib.hid hwr
      clear hwr
      have P93 := Lib.hid (peek_is w3 R s i bad 0 93 0 93 (peekB s i 93) rfl rfl rfl X.out.1 hs (by omega) (by omega))
      go_upto_region 15 with fail
      go_cut [81] (fun s81 wx => s81 = .bool wrong ∧ XInv w wx R T Z s RES i n f bad)
      case first =>
        have drawnX : ∀ wx, Drawn w3 wx → XInv w wx R T Z s RES i n f bad := fun wx hd => ⟨X.out.1.drawn hd, X.out.2.1.drawn hd, X.out.2.2.1.drawn hd, X.out.2.2.2.1.trans (Only.drawn hd), X.out.2.2.2.2⟩
        have DX := Lib.hid drawnX
        clear drawnX
        by_cases hn0 : n = 0
        · subst hn0
          have WT := Lib.hid (show wrong = true from by rw [HW.out]; simp)
          go_wp2_with fail
          go_meet
          exact ⟨by rw [WT.out], X.out⟩
        · have WT := Lib.hid (show wrong = !(peekB s i 93) from by rw [HW.out]; simp [hn0])
          have t1 : ((n : Int) == 0) = false := by simp; omega
          replace hn0 := Lib.hid hn0
          go_wp2_with fail
          refine P93.out.mono ?_
          rintro e w4 ⟨rfl, hd⟩
          have X4 := Lib.hid (DX.out _ hd)
          clear hd
          go_wp2_with fail
          go_meet
          exact ⟨by rw [WT.out], X4.out⟩
      case rest =>
        clear P93 X
        clear w3
        rename World => w4
        obtain ⟨rfl, hX⟩ := hcut
        have X := Lib.hid hX
        obtain ⟨c0, c1, c2⟩ := hX.1.cells
        have fz2 := Blk.free hX.1 2
        clear hX
        go_upto_if 81 with fail
        go_cut [] (fun wx => Rdr wx R s (i : Nat) (bad || wrong) ∧ TZ w wx R T Z f)
        case first =>
          cases wrong with
          | false =>
            go_wp2_with fail
            go_meet
            exact ⟨by simpa using X.out.1, X.out.2.1, X.out.2.2.1, X.out.2.2.2.1⟩
          | true =>
            go_wp2_with fail
            go_meet
            exact ⟨by simpa using X.out.1.setBad true, X.out.2.1.other _ SZ.out.2.1 _, X.out.2.2.1.other _ SZ.out.1 _, X.out.2.2.2.1.set _ _⟩
        case rest =>
          have SA2 : match setAt s.data.toList a with | some (f', j) => f' = turned nb f ∧ j = i + 1 ∧ (bad || wrong) = false | none => (bad || wrong) = true := by
            rw [SA.out]
            cases bad with
            | true => rw [X.out.2.2.2.2.2.2 rfl]; simp
            | false =>
              have hres := X.out.2.2.2.2.2.1 rfl
              rw [hres.1]
              simp only [Bool.false_or]
              by_cases hc : s.size ≤ i ∨ n = 0
              · rw [if_pos hc]
                simp only
                rw [HW.out]
                rcases hc with hc | hc
                · have : peekB s i 93 = false := by simp [peekB]; omega
                  rw [this]; simp
                · simp [hc]
              · rw [if_neg hc]
                have h1 : i < s.size := by omega
                refine ⟨rfl, rfl, ?_⟩
                rw [HW.out]
                have : peekB s i 93 = true := by simp [peekB, h1, hres.2 h1]
                rw [this]; simp; omega
          have S2 := Lib.hid SA2
          clear SA2 SA HW X c0 c1 c2 fz2
          clear w4
          rename World => w5
          obtain ⟨hr, hv⟩ := hcut
          have HR := Lib.hid hr
          have V := Lib.hid hv
          obtain ⟨c0, c1, c2⟩ := hr.cells
          have fz1 := Blk.free hr 1
          clear hr hv
          generalize (bad || wrong) = ill at *
          clear bad wrong
          go_upto_if 92 with fail
          go_cut [] (fun wx => Rdr wx R s ((i : Int) + 1) ill ∧ TZ w wx R T Z (fun b => f b != nb))
          case first =>
            cases nb with
            | false =>
              go_wp2_with fail
              go_meet
              have e : (fun b => f b != false) = f := by funext b; simp
              rw [e]
              exact ⟨HR.out.setAt _, V.out.only ((Only.refl _ _).set _ _) SZ.out.2.1 SZ.out.1⟩
            | true =>
              have V6 := Lib.hid (show TZ w (w5.setCell ⟨R, 1, none⟩ (.int .i64 ((i : Int) + 1))) R T Z f from V.out.only ((Only.refl _ _).set _ _) SZ.out.2.1 SZ.out.1)
              have HR6 := Lib.hid (HR.out.setAt ((i : Int) + 1))
              go_wp2_with fail
              go_loopg [8, 93] 4 (fun g s8 s93 wr => ∃ k : Nat, k ≤ 4 ∧ 4 - k ≤ g ∧ s93 = .int .i64 k ∧ Rdr wr R s ((i : Int) + 1) ill ∧ TZ w wr R T Z (mix f k))
              case atStart => exact ⟨0, by omega, by omega, rfl, HR6.out, by rw [mix_zero]; exact V6.out⟩
              case round =>
                obtain ⟨k, hk, hg, rfl, hR7, hV7⟩ := hrel
                have HR7 := Lib.hid hR7
                have V7 := Lib.hid hV7
                clear hR7 hV7 HR6 V6
                by_cases hlt : k < 4
                · have hB := V7.out.1
                  have d1 := Blk.cell hB 1
                  have d2 := Blk.cell hB 2
                  have d3 := Blk.cell hB 3
                  have d4 := Blk.cell hB 4
                  simp [tokCells] at d1 d2 d3 d4
                  have fr := Blk.free hB (1 + k)
                  have cb : wr.cell? ⟨T, 1 + k, none⟩ = some (.int .u64 (word (mix f k) k : Nat)) := by
                    rcases (by omega : k = 0 ∨ k = 1 ∨ k = 2 ∨ k = 3) with e | e | e | e <;> subst e <;> assumption
                  have NB := Lib.hid (show Blk (wr.setCell ⟨T, 1 + k, none⟩ (.int .u64 ((2 ^ 64 - 1 - word (mix f k) k : Nat) : Int))) T (tokCells 0 (mix f (k + 1))) 72 from by
                    rw [← tok_turn 0 f k hlt]; exact Blk.set hB _ _)
                  have hwl := word_lt (mix f k) k
                  generalize word (mix f k) k = W at *
                  clear d1 d2 d3 d4 hB
                  have XM := Lib.hid (bxor_max W hwl)
                  go_wp2_with fail
                  all_goals rw [XM.out]
                  all_goals go_roundg (4 - (k + 1))
                  case measure => omega
                  case rel => exact ⟨k + 1, by omega, by omega, by go_num, Blk.other HR7.out _ (Ne.symm SZ.out.2.1) _, NB.out, V7.out.2.1.other _ (Ne.symm SZ.out.2.2.1) _, V7.out.2.2.transNew ((Only.refl T wr).set _ _) (by rw [ZE.out]; exact SZ.out.2.2.2.2)⟩
                · have e : tokCells 0 (mix f k) = tokCells 0 (fun b => f b != true) := by
                    obtain rfl : k = 4 := by omega
                    exact tok_congr 0 fun b hb => by unfold mix; have : decide (b < 64 * 4) = true := by simp; omega
                                                     rw [this]
                  have V8 := Lib.hid (V7.out.congr e)
                  clear e
                  go_wp2_with fail
                  go_meet
                  exact ⟨HR7.out, V8.out⟩
          case rest =>
            clear c0 c1 c2 fz1 HR V
            clear w5
            rename World => w6
            obtain ⟨hr, hv⟩ := hcut
            obtain ⟨f1, hf1, hTF⟩ : ∃ f1 : Nat → Bool, (fun b => f b != nb) = f1 ∧ (fun b => f1 b && decide (b ≠ 47)) = turned nb f := ⟨_, rfl, rfl⟩
            rw [hf1] at hv
            have TF := Lib.hid hTF
            clear hf1 hTF
            have hB := hv.1
            have hZ := hv.2.1
            have d0 := Blk.cell hB 0
            have d1 := Blk.cell hB 1
            have d2 := Blk.cell hB 2
            have d3 := Blk.cell hB 3
            have d4 := Blk.cell hB 4
            have z0 := Blk.cell hZ 0
            have z1 := Blk.cell hZ 1
            have z2 := Blk.cell hZ 2
            have z3 := Blk.cell hZ 3
            have z4 := Blk.cell hZ 4
            rw [tok_none] at z0 z1 z2 z3 z4
            simp [tokCells] at d0 d1 d2 d3 d4 z0 z1 z2 z3 z4
            have frT : ∀ i, w6.frozen? ⟨T, i, none⟩ = false := fun i => Blk.free hB i
            have frZ : ∀ i, w6.frozen? ⟨Z, i, none⟩ = false := fun i => Blk.free hZ i
            have SW := Lib.hid (stroke_word (word f1 0) (word_lt f1 0))
            have TS := Lib.hid (tok_stroke 0 f1)
            have HR := Lib.hid hr
            have V := Lib.hid hv
            have hTZ : T ≠ Z := Ne.symm SZ.out.2.2.1
            clear hr hv hB hZ
            go_wp2_with fail
            rw [SW.out]
            have hRT := SZ.out.2.1
            have hRZ := SZ.out.1
            have WT : w.heap.size ≤ T := by rw [ZE.out]; exact SZ.out.2.2.2.2
            have WZ : w.heap.size ≤ Z := by rw [ZE.out]; exact Nat.le_refl _
            have FIN : ∀ w9, ((((((w6.setCell ⟨T, 1, none⟩ (.int .u64 ((word f1 0 &&& (2 ^ 64 - 1 - 2 ^ 47) : Nat) : Int))).setCell ⟨Z, 0, none⟩ (.int .i64 0)).setCell ⟨Z, 1, none⟩ (.int .u64 ((word f1 0 &&& (2 ^ 64 - 1 - 2 ^ 47) : Nat) : Int))).setCell ⟨Z, 2, none⟩ (.int .u64 (word f1 1 : Nat))).setCell ⟨Z, 3, none⟩ (.int .u64 (word f1 2 : Nat))).setCell ⟨Z, 4, none⟩ (.int .u64 (word f1 3 : Nat))) = w9 →
                Blk w9 Z (tokCells 0 (turned nb f)) 72 ∧ Rdr w9 R s ((i : Int) + 1) ill ∧ Only R w w9 := by
              intro w9 h9
              subst h9
              refine ⟨?_, ?_, ?_⟩
              · have := (((((V.out.2.1.other ⟨T, 1, none⟩ hTZ (.int .u64 ((word f1 0 &&& (2 ^ 64 - 1 - 2 ^ 47) : Nat) : Int))).set 0 (.int .i64 0)).set 1 (.int .u64 ((word f1 0 &&& (2 ^ 64 - 1 - 2 ^ 47) : Nat) : Int))).set 2 (.int .u64 (word f1 1 : Nat))).set 3 (.int .u64 (word f1 2 : Nat))).set 4 (.int .u64 (word f1 3 : Nat))
                rw [← TF.out, ← TS.out]
                rw [tok_none] at this
                exact this
              · exact (((((Blk.other HR.out _ (Ne.symm hRT) _).other _ (Ne.symm hRZ) _).other _ (Ne.symm hRZ) _).other _ (Ne.symm hRZ) _).other _ (Ne.symm hRZ) _).other _ (Ne.symm hRZ) _
              · exact (((((V.out.2.2.setNew WT _ _).setNew WZ _ _).setNew WZ _ _).setNew WZ _ _).setNew WZ _ _).setNew WZ _ _
            generalize hw9 : World.setCell _ _ _ = w9
            obtain ⟨b9, r9, o9⟩ := FIN _ hw9
            clear FIN hw9
            have y0 := Blk.cell b9 0
            have y1 := Blk.cell b9 1
            have y2 := Blk.cell b9 2
            have y3 := Blk.cell b9 3
            have y4 := Blk.cell b9 4
            simp [tokCells] at y0 y1 y2 y3 y4
            have CE : ClassEnd w R s a (.returned (tokVal 0 (turned nb f))) w9 := by
              unfold ClassEnd
              refine ⟨o9, ?_⟩
              have S2' := S2.out
              cases hset : setAt s.data.toList a with
              | none =>
                rw [hset] at S2'
                exact ⟨turned nb f, i + 1, rfl, by rw [S2'] at r9; exact r9, by omega⟩
              | some x =>
                obtain ⟨f', j⟩ := x
                rw [hset] at S2'
                obtain ⟨rfl, rfl, e3⟩ := S2'
                rw [e3] at r9
                exact ⟨rfl, r9⟩
            refine bodyPost_ret (v := tokVal 0 (turned nb f)) ?_ rfl CE
            simp [results, Try.results35, go_sem, y0, y1, y2, y3, y4, tokVal, tokCells]
end Go.Proofs.Ytejeepmcoafdcaa
