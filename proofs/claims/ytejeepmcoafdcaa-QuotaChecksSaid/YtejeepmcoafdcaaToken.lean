/-
  The walk of the pattern reader's token.
-/
import Derived.Test.YtejeepmcoafdcaaClass
namespace Go.Proofs.Ytejeepmcoafdcaa
open Go.RowKit
set_option linter.unusedVariables false

/-- what token comes to -/
def TokEnd (w : World) (R : Nat) (s : ByteArray) (a : Nat) (e : Ending) (w' : World) : Prop :=
  Only R w w' ∧ match tokAt s.data.toList a with
    | some (t, j) => e = .returned (tokVal ((t.1 : Int) - 1) t.2) ∧ Rdr w' R s (j : Nat) false
    | none => ∃ (k : Int) (f : Nat → Bool) (j : Nat), e = .returned (tokVal k f) ∧ Rdr w' R s (j : Nat) true ∧ j ≤ s.size + 9
theorem TokEnd.good {w w' : World} {R : Nat} {s : ByteArray} {a : Nat} {e : Ending} {t : Nat × (Nat → Bool)} {j : Nat} {x k : Int} {f : Nat → Bool} (ht : tokAt s.data.toList a = some (t, j)) (he : e = .returned (tokVal k f)) (hk : tokCells k f = tokCells ((t.1 : Int) - 1) t.2) (hr : Rdr w' R s x false) (hx : x = (j : Nat)) (ho : Only R w w') : TokEnd w R s a e w' := by
  unfold TokEnd; rw [ht]; subst hx; exact ⟨ho, by rw [he]; unfold tokVal; rw [hk], hr⟩
theorem TokEnd.worse {w w' : World} {R : Nat} {s : ByteArray} {a : Nat} {e : Ending} {j : Nat} {x k : Int} {f : Nat → Bool} (ht : tokAt s.data.toList a = none) (he : e = .returned (tokVal k f)) (hr : Rdr w' R s x true) (hx : x = (j : Nat)) (hj : j ≤ s.size + 9) (ho : Only R w w') : TokEnd w R s a e w' := by
  unfold TokEnd; rw [ht]; subst hx; exact ⟨ho, k, f, j, he, hr, hj⟩

/-- the token, the result, and all but the reader -/
def TK (w wr : World) (R T Z : Nat) (k : Int) (f : Nat → Bool) : Prop := Blk wr T (tokCells k f) 72 ∧ Blk wr Z (tokCells 0 none0) 72 ∧ Only R w wr
theorem TK.only {w wr w' : World} {R T Z : Nat} {k : Int} {f : Nat → Bool} (h : TK w wr R T Z k f) (ho : Only R wr w') (hT : R ≠ T) (hZ : R ≠ Z) : TK w w' R T Z k f :=
  ⟨h.1.only ho hT.symm, h.2.1.only ho hZ.symm, h.2.2.trans ho⟩
theorem TK.kind {w wr : World} {R T Z : Nat} {k : Int} {f : Nat → Bool} (h : TK w wr R T Z k f) (x : Int) (hT : T ≠ Z) (hN : w.heap.size ≤ T) : TK w (wr.setCell ⟨T, 0, none⟩ (.int .i64 x)) R T Z x f :=
  ⟨Blk.set h.1 0 _, h.2.1.other _ hT _, h.2.2.setNew hN _ _⟩
theorem TK.add {w wr w' : World} {R T Z : Nat} {k : Int} {f g : Nat → Bool} (h : TK w wr R T Z k f) (hb : Blk w' T (tokCells k g) 72) (ho : Only T wr w') (hT : T ≠ Z) (hN : w.heap.size ≤ T) : TK w w' R T Z k g :=
  ⟨hb, h.2.1.only ho hT.symm, h.2.2.transNew ho hN⟩
theorem TK.cells {w wr : World} {R T Z : Nat} {k : Int} {f : Nat → Bool} (h : TK w wr R T Z k f) :
    (wr.cell? ⟨T, 0, none⟩ = some (.int .i64 k) ∧ wr.cell? ⟨T, 1, none⟩ = some (.int .u64 (word f 0 : Nat)) ∧ wr.cell? ⟨T, 2, none⟩ = some (.int .u64 (word f 1 : Nat)) ∧ wr.cell? ⟨T, 3, none⟩ = some (.int .u64 (word f 2 : Nat)) ∧ wr.cell? ⟨T, 4, none⟩ = some (.int .u64 (word f 3 : Nat))) ∧
    (wr.cell? ⟨Z, 0, none⟩ = some (.int .i64 0) ∧ wr.cell? ⟨Z, 1, none⟩ = some (.int .u64 0) ∧ wr.cell? ⟨Z, 2, none⟩ = some (.int .u64 0) ∧ wr.cell? ⟨Z, 3, none⟩ = some (.int .u64 0) ∧ wr.cell? ⟨Z, 4, none⟩ = some (.int .u64 0)) ∧
    (∀ i, wr.frozen? ⟨Z, i, none⟩ = false) ∧ ∀ i, wr.frozen? ⟨T, i, none⟩ = false := by
  have hz := h.2.1
  rw [tok_none] at hz
  exact ⟨⟨Blk.cell h.1 0, Blk.cell h.1 1, Blk.cell h.1 2, Blk.cell h.1 3, Blk.cell h.1 4⟩, ⟨Blk.cell hz 0, Blk.cell hz 1, Blk.cell hz 2, Blk.cell hz 3, Blk.cell hz 4⟩, fun i => Blk.free h.2.1 i, fun i => Blk.free h.1 i⟩
/-- the result written -/
theorem TK.fin {w wr w9 : World} {R T Z : Nat} {k x : Int} {f : Nat → Bool} {s : ByteArray} {bad : Bool} (h : TK w wr R T Z k f) (hr : Rdr wr R s x bad) (hZ : R ≠ Z) (hN : w.heap.size ≤ Z)
    (h9 : (((((wr.setCell ⟨Z, 0, none⟩ (.int .i64 k)).setCell ⟨Z, 1, none⟩ (.int .u64 (word f 0 : Nat))).setCell ⟨Z, 2, none⟩ (.int .u64 (word f 1 : Nat))).setCell ⟨Z, 3, none⟩ (.int .u64 (word f 2 : Nat))).setCell ⟨Z, 4, none⟩ (.int .u64 (word f 3 : Nat))) = w9) :
    Blk w9 Z (tokCells k f) 72 ∧ Rdr w9 R s x bad ∧ Only R w w9 := by
  subst h9
  refine ⟨?_, ?_, ?_⟩
  · have := ((((h.2.1.set 0 (.int .i64 k)).set 1 (.int .u64 (word f 0 : Nat))).set 2 (.int .u64 (word f 1 : Nat))).set 3 (.int .u64 (word f 2 : Nat))).set 4 (.int .u64 (word f 3 : Nat))
    rw [tok_none] at this
    exact this
  · exact ((((Blk.other hr _ (Ne.symm hZ) _).other _ (Ne.symm hZ) _).other _ (Ne.symm hZ) _).other _ (Ne.symm hZ) _).other _ (Ne.symm hZ) _
  · exact ((((h.2.2.setNew hN _ _).setNew hN _ _).setNew hN _ _).setNew hN _ _).setNew hN _ _
/-- a whole token written over the token -/
theorem TK.whole {w wr : World} {R T Z : Nat} {k0 k : Int} {f0 f : Nat → Bool} (h : TK w wr R T Z k0 f0) (hT : T ≠ Z) (hN : w.heap.size ≤ T) :
    TK w (((((wr.setCell ⟨T, 0, none⟩ (.int .i64 k)).setCell ⟨T, 1, none⟩ (.int .u64 (word f 0 : Nat))).setCell ⟨T, 2, none⟩ (.int .u64 (word f 1 : Nat))).setCell ⟨T, 3, none⟩ (.int .u64 (word f 2 : Nat))).setCell ⟨T, 4, none⟩ (.int .u64 (word f 3 : Nat))) R T Z k f :=
  ⟨((((h.1.set 0 (.int .i64 k)).set 1 (.int .u64 (word f 0 : Nat))).set 2 (.int .u64 (word f 1 : Nat))).set 3 (.int .u64 (word f 2 : Nat))).set 4 (.int .u64 (word f 3 : Nat)),
   ((((h.2.1.other _ hT _).other _ hT _).other _ hT _).other _ hT _).other _ hT _, ((((h.2.2.setNew hN _ _).setNew hN _ _).setNew hN _ _).setNew hN _ _).setNew hN _ _⟩

set_option maxRecDepth 100000 in
set_option maxHeartbeats 4000000 in
theorem token_calls (w : World) (R : Nat) (s : ByteArray) (a : Nat) (h : Rdr w R s a false) (hs : s.size ≤ 140737488351232) (ha : a < s.size) :
    Calls Try.prog 30 #[.pointer (some ⟨R, 0, none⟩)] w (TokEnd w R s a) := by
  have hl := len_list s
  have hR := h.lt
  have H1 := Lib.hid (show Rdr ((w.alloc (.cells (tokCells 0 none0) 72)).alloc (.cells (tokCells 0 none0) 72)) R s a false from Blk.alloc (Blk.alloc h _) _)
  have V1 := Lib.hid (show TK w ((w.alloc (.cells (tokCells 0 none0) 72)).alloc (.cells (tokCells 0 none0) 72)) R (w.heap.size + 1) w.heap.size 0 none0 from
    ⟨by have := Blk.new (w.alloc (.cells (tokCells 0 none0) 72)) (tokCells 0 none0) 72
        rwa [World.size_alloc] at this, (Blk.new w _ _).alloc _, ((Only.refl _ _).alloc _).alloc _⟩)
  rw [tok_none] at H1 V1
  have SZ := Lib.hid (show R ≠ w.heap.size + 1 ∧ R ≠ w.heap.size ∧ w.heap.size + 1 ≠ w.heap.size ∧ w.heap.size ≤ w.heap.size + 1 ∧ w.heap.size ≤ w.heap.size from by omega)
  have PKS := Lib.hid (show ∀ wz (b : Int) (bn : Nat) (k : Int) (kn : Nat) (r : Bool), Rdr wz R s a false → b = bn → k = kn → kn ≤ 10 → peekB s (a + kn) bn = r → Calls Try.prog 33 #[.pointer (some ⟨R, 0, none⟩), .int .i64 k, .int .u8 b] wz fun e w' => e = .returned (.bool r) ∧ Drawn wz w' from
    fun wz b bn k kn r hz hb hk hkn hr => peek_is wz R s a false k b kn bn r hr hk hb hz hs (by omega) hkn)
  have hB : ∀ b, peekB s (a + 0) b = decide (bt s.data.toList a = b) := fun b => by simp [peekB, ha]
  have HBk := Lib.hid hB
  clear h hB hR
  by_cases h42 : bt s.data.toList a = 42
  · have Q42 := Lib.hid (decide_eq_true h42)
    by_cases hn : a + 1 < s.size ∧ bt s.data.toList (a + 1) = 42
    · have Q1 := Lib.hid (show peekB s (a + 1) 42 = true from by simp only [peekB, hn.1, hn.2, decide_true, Bool.and_self]; skip)
      have TA := Lib.hid (show tokAt s.data.toList a = some ((3, fun _ => false), a + 2) from by unfold tokAt; rw [if_pos h42, hl, if_pos hn])
      clear h42 hn
      go_enter Try.func30, Try.ntmps30
      go_wp2_with fail
      refine (PKS.out _ 42 42 0 0 true H1.out rfl rfl (by omega) (by rw [HBk.out]; exact Q42.out)).mono ?_
      rintro e w2 ⟨rfl, hd⟩
      have H2 := Lib.hid (H1.out.drawn hd)
      have V2 := Lib.hid (V1.out.only (Only.drawn hd) SZ.out.1 SZ.out.2.1)
      clear hd
      generalize hT : w.heap.size + 1 = T at *
      generalize hZ : w.heap.size = Z at *
      have ZE := Lib.hid hZ
      clear hT hZ
      go_wp2_with fail
      refine (PKS.out _ 42 42 1 1 true H2.out rfl rfl (by omega) (by exact Q1.out)).mono ?_
      rintro e w3 ⟨rfl, hd⟩
      have H3 := Lib.hid (H2.out.drawn hd)
      have V3 := Lib.hid (V2.out.only (Only.drawn hd) SZ.out.1 SZ.out.2.1)
      clear hd
      obtain ⟨c0, c1, c2⟩ := H3.out.cells
      have f1 := Blk.free H3.out 1
      obtain ⟨⟨d0, d1, d2, d3, d4⟩, ⟨z0, z1, z2, z3, z4⟩, frZ, frT⟩ := V3.out.cells
      have hTZ := SZ.out.2.2.1
      have hRT := SZ.out.1
      have hRZ := SZ.out.2.1
      go_wp2_with fail
      generalize hw9 : World.setCell _ _ _ = w9
      obtain ⟨b9, r9, o9⟩ := TK.fin ((V3.out.only ((Only.refl R _).set 1 _) hRT hRZ).kind 2 hTZ (by rw [ZE.out]; exact SZ.out.2.2.2.1)) (Blk.other (H3.out.setAt _) _ (Ne.symm hRT) _) SZ.out.2.1 (by rw [ZE.out]; exact SZ.out.2.2.2.2) hw9
      clear hw9
      have y0 := Blk.cell b9 0
      have y1 := Blk.cell b9 1
      have y2 := Blk.cell b9 2
      have y3 := Blk.cell b9 3
      have y4 := Blk.cell b9 4
      simp [tokCells] at y0 y1 y2 y3 y4
      refine bodyPost_ret (v := tokVal 2 none0) ?_ rfl (TokEnd.good TA.out rfl (by rfl) r9 (by omega) o9)
      simp [results, Try.results30, go_sem, y0, y1, y2, y3, y4, tokVal, tokCells]
    · have Q1 := Lib.hid (show peekB s (a + 1) 42 = false from by simp only [peekB, Bool.and_eq_false_iff, decide_eq_false_iff_not]; omega)
      have TA := Lib.hid (show tokAt s.data.toList a = some ((2, fun _ => false), a + 1) from by unfold tokAt; rw [if_pos h42, hl, if_neg hn])
      clear h42 hn
      go_enter Try.func30, Try.ntmps30
      go_wp2_with fail
      refine (PKS.out _ 42 42 0 0 true H1.out rfl rfl (by omega) (by rw [HBk.out]; exact Q42.out)).mono ?_
      rintro e w2 ⟨rfl, hd⟩
      have H2 := Lib.hid (H1.out.drawn hd)
      have V2 := Lib.hid (V1.out.only (Only.drawn hd) SZ.out.1 SZ.out.2.1)
      clear hd
      generalize hT : w.heap.size + 1 = T at *
      generalize hZ : w.heap.size = Z at *
      have ZE := Lib.hid hZ
      clear hT hZ
      go_wp2_with fail
      refine (PKS.out _ 42 42 1 1 false H2.out rfl rfl (by omega) (by exact Q1.out)).mono ?_
      rintro e w3 ⟨rfl, hd⟩
      have H3 := Lib.hid (H2.out.drawn hd)
      have V3 := Lib.hid (V2.out.only (Only.drawn hd) SZ.out.1 SZ.out.2.1)
      clear hd
      go_wp2_with fail
      refine (PKS.out _ 42 42 0 0 true H3.out rfl rfl (by omega) (by rw [HBk.out]; exact Q42.out)).mono ?_
      rintro e w4 ⟨rfl, hd⟩
      have H4 := Lib.hid (H3.out.drawn hd)
      have V4 := Lib.hid (V3.out.only (Only.drawn hd) SZ.out.1 SZ.out.2.1)
      clear hd
      obtain ⟨c0, c1, c2⟩ := H4.out.cells
      have f1 := Blk.free H4.out 1
      obtain ⟨⟨d0, d1, d2, d3, d4⟩, ⟨z0, z1, z2, z3, z4⟩, frZ, frT⟩ := V4.out.cells
      have hTZ := SZ.out.2.2.1
      have hRT := SZ.out.1
      have hRZ := SZ.out.2.1
      go_wp2_with fail
      generalize hw9 : World.setCell _ _ _ = w9
      obtain ⟨b9, r9, o9⟩ := TK.fin ((V4.out.only ((Only.refl R _).set 1 _) hRT hRZ).kind 1 hTZ (by rw [ZE.out]; exact SZ.out.2.2.2.1)) (Blk.other (H4.out.setAt _) _ (Ne.symm hRT) _) SZ.out.2.1 (by rw [ZE.out]; exact SZ.out.2.2.2.2) hw9
      clear hw9
      have y0 := Blk.cell b9 0
      have y1 := Blk.cell b9 1
      have y2 := Blk.cell b9 2
      have y3 := Blk.cell b9 3
      have y4 := Blk.cell b9 4
      simp [tokCells] at y0 y1 y2 y3 y4
      refine bodyPost_ret (v := tokVal 1 none0) ?_ rfl (TokEnd.good TA.out rfl (by rfl) r9 (by omega) o9)
      simp [results, Try.results30, go_sem, y0, y1, y2, y3, y4, tokVal, tokCells]
  have Q42 := Lib.hid (decide_eq_false h42)
  have H42 := Lib.hid h42
  clear h42
  by_cases h63 : bt s.data.toList a = 63
  · have Q63 := Lib.hid (decide_eq_true h63)
    have TA := Lib.hid (show tokAt s.data.toList a = some ((1, fun b => decide (b ≠ 47)), a + 1) from by unfold tokAt; rw [if_neg H42.out, if_pos h63])
    clear h63
    go_enter Try.func30, Try.ntmps30
    go_wp2_with fail
    refine (PKS.out _ 42 42 0 0 false H1.out rfl rfl (by omega) (by rw [HBk.out]; exact Q42.out)).mono ?_
    rintro e w2 ⟨rfl, hd⟩
    have H2 := Lib.hid (H1.out.drawn hd)
    have V2 := Lib.hid (V1.out.only (Only.drawn hd) SZ.out.1 SZ.out.2.1)
    clear hd
    generalize hT : w.heap.size + 1 = T at *
    generalize hZ : w.heap.size = Z at *
    have ZE := Lib.hid hZ
    clear hT hZ
    go_wp2_with fail
    refine (PKS.out _ 42 42 0 0 false H2.out rfl rfl (by omega) (by rw [HBk.out]; exact Q42.out)).mono ?_
    rintro e w3 ⟨rfl, hd⟩
    have H3 := Lib.hid (H2.out.drawn hd)
    have V3 := Lib.hid (V2.out.only (Only.drawn hd) SZ.out.1 SZ.out.2.1)
    clear hd
    go_wp2_with fail
    refine (PKS.out _ 63 63 0 0 true H3.out rfl rfl (by omega) (by rw [HBk.out]; exact Q63.out)).mono ?_
    rintro e w4 ⟨rfl, hd⟩
    have H4 := Lib.hid (H3.out.drawn hd)
    have V4 := Lib.hid (V3.out.only (Only.drawn hd) SZ.out.1 SZ.out.2.1)
    clear hd
    obtain ⟨c0, c1, c2⟩ := H4.out.cells
    have f1 := Blk.free H4.out 1
    obtain ⟨⟨d0, d1, d2, d3, d4⟩, ⟨z0, z1, z2, z3, z4⟩, frZ, frT⟩ := V4.out.cells
    have hTZ := SZ.out.2.2.1
    have hRT := SZ.out.1
    have hRZ := SZ.out.2.1
    have WT : w.heap.size ≤ T := by rw [ZE.out]; exact SZ.out.2.2.2.1
    have WT := Lib.hid WT
    have V5 := Lib.hid (V4.out.only ((Only.refl R _).set 1 (.int .i64 ((a : Int) + 1))) hRT hRZ)
    have H5 := Lib.hid (H4.out.setAt ((a : Int) + 1))
    go_wp2_with fail
    refine (add_calls _ T 0 0 46 none0 0 46 rfl rfl V5.out.1 (by omega) (by omega)).mono ?_
    rintro e w6 ⟨rfl, hb, ho⟩
    have V6 := Lib.hid (V5.out.add hb ho hTZ WT.out)
    have H6 := Lib.hid (show Rdr w6 R s ((a : Int) + 1) false from Blk.only H5.out ho hRT)
    clear hb ho
    go_wp2_with fail
    refine (add_calls _ T 0 48 255 (mark none0 0 46) 48 255 rfl rfl V6.out.1 (by omega) (by omega)).mono ?_
    rintro e w7 ⟨rfl, hb, ho⟩
    have V7 := Lib.hid (V6.out.add hb ho hTZ WT.out)
    have H7 := Lib.hid (show Rdr w7 R s ((a : Int) + 1) false from Blk.only H6.out ho hRT)
    have TE := Lib.hid (show tokCells 0 (mark (mark none0 0 46) 48 255) = tokCells 0 (fun b => decide (b ≠ 47)) from tok_congr 0 fun b hb => by unfold mark none0; rw [Bool.eq_iff_iff]; simp; omega)
    clear hb ho
    clear c0 c1 c2 f1 d0 d1 d2 d3 d4 z0 z1 z2 z3 z4 frZ frT
    obtain ⟨⟨d0, d1, d2, d3, d4⟩, ⟨z0, z1, z2, z3, z4⟩, frZ, frT⟩ := V7.out.cells
    go_wp2_with fail
    generalize hw9 : World.setCell _ _ _ = w9
    obtain ⟨b9, r9, o9⟩ := TK.fin (V7.out) (H7.out) SZ.out.2.1 (by rw [ZE.out]; exact SZ.out.2.2.2.2) hw9
    clear hw9
    have y0 := Blk.cell b9 0
    have y1 := Blk.cell b9 1
    have y2 := Blk.cell b9 2
    have y3 := Blk.cell b9 3
    have y4 := Blk.cell b9 4
    simp [tokCells] at y0 y1 y2 y3 y4
    refine bodyPost_ret (v := tokVal 0 (mark (mark none0 0 46) 48 255)) ?_ rfl (TokEnd.good TA.out rfl TE.out r9 (by omega) o9)
    simp [results, Try.results30, go_sem, y0, y1, y2, y3, y4, tokVal, tokCells]
  have Q63 := Lib.hid (decide_eq_false h63)
  have H63 := Lib.hid h63
  clear h63
  by_cases h91 : bt s.data.toList a = 91
  · have Q91 := Lib.hid (decide_eq_true h91)
    have TA := Lib.hid (show tokAt s.data.toList a = (setAt s.data.toList (a + 1)).map (fun x => ((1, x.1), x.2)) from by unfold tokAt; rw [if_neg H42.out, if_neg H63.out, if_pos h91])
    clear h91
    go_enter Try.func30, Try.ntmps30
    go_wp2_with fail
    refine (PKS.out _ 42 42 0 0 false H1.out rfl rfl (by omega) (by rw [HBk.out]; exact Q42.out)).mono ?_
    rintro e w2 ⟨rfl, hd⟩
    have H2 := Lib.hid (H1.out.drawn hd)
    have V2 := Lib.hid (V1.out.only (Only.drawn hd) SZ.out.1 SZ.out.2.1)
    clear hd
    generalize hT : w.heap.size + 1 = T at *
    generalize hZ : w.heap.size = Z at *
    have ZE := Lib.hid hZ
    clear hT hZ
    go_wp2_with fail
    refine (PKS.out _ 42 42 0 0 false H2.out rfl rfl (by omega) (by rw [HBk.out]; exact Q42.out)).mono ?_
    rintro e w3 ⟨rfl, hd⟩
    have H3 := Lib.hid (H2.out.drawn hd)
    have V3 := Lib.hid (V2.out.only (Only.drawn hd) SZ.out.1 SZ.out.2.1)
    clear hd
    go_wp2_with fail
    refine (PKS.out _ 63 63 0 0 false H3.out rfl rfl (by omega) (by rw [HBk.out]; exact Q63.out)).mono ?_
    rintro e w4 ⟨rfl, hd⟩
    have H4 := Lib.hid (H3.out.drawn hd)
    have V4 := Lib.hid (V3.out.only (Only.drawn hd) SZ.out.1 SZ.out.2.1)
    clear hd
    go_wp2_with fail
    refine (PKS.out _ 91 91 0 0 true H4.out rfl rfl (by omega) (by rw [HBk.out]; exact Q91.out)).mono ?_
    rintro e w5 ⟨rfl, hd⟩
    have H5 := Lib.hid (H4.out.drawn hd)
    have V5 := Lib.hid (V4.out.only (Only.drawn hd) SZ.out.1 SZ.out.2.1)
    clear hd
    obtain ⟨c0, c1, c2⟩ := H5.out.cells
    have f1 := Blk.free H5.out 1
    obtain ⟨⟨d0, d1, d2, d3, d4⟩, ⟨z0, z1, z2, z3, z4⟩, frZ, frT⟩ := V5.out.cells
    have hTZ := SZ.out.2.2.1
    have hRT := SZ.out.1
    have hRZ := SZ.out.2.1
    have WT : w.heap.size ≤ T := by rw [ZE.out]; exact SZ.out.2.2.2.1
    have WT := Lib.hid WT
    have V6 := Lib.hid (V5.out.only ((Only.refl R _).set 1 (.int .i64 ((a : Int) + 1))) hRT hRZ)
    have H6 := Lib.hid (show Rdr (w5.setCell ⟨R, 1, none⟩ (.int .i64 ((a : Int) + 1))) R s ((a + 1 : Nat) : Int) false from H5.out.setAt ((a : Int) + 1))
    go_wp2_with fail
    refine (class_calls _ R s (a + 1) H6.out hs (by omega)).mono ?_
    rintro e w7 ⟨ho, hm⟩
    have CL : ∃ (f : Nat → Bool) (j : Nat) (bad : Bool), e = .returned (tokVal 0 f) ∧ Rdr w7 R s (j : Nat) bad ∧ (bad = false → tokAt s.data.toList a = some ((1, f), j)) ∧ (bad = true → tokAt s.data.toList a = none ∧ j ≤ s.size + 9) := by
      rw [TA.out]
      cases hset : setAt s.data.toList (a + 1) with
      | none => rw [hset] at hm; obtain ⟨f, j, h1, h2, h3⟩ := hm; exact ⟨f, j, true, h1, h2, (fun h => absurd h (by decide)), fun _ => ⟨rfl, by omega⟩⟩
      | some x => obtain ⟨f, j⟩ := x; rw [hset] at hm; exact ⟨f, j, false, hm.1, hm.2, fun _ => rfl, fun h => absurd h (by decide)⟩
    obtain ⟨f, j, bad, rfl, hr7, hb0, hb1⟩ := CL
    have V7 := Lib.hid (V6.out.only ho hRT hRZ)
    have H7 := Lib.hid hr7
    have HB := Lib.hid (And.intro hb0 hb1)
    clear ho hm hr7 hb0 hb1
    clear c0 c1 c2 f1 d0 d1 d2 d3 d4 z0 z1 z2 z3 z4 frZ frT
    obtain ⟨⟨d0, d1, d2, d3, d4⟩, ⟨z0, z1, z2, z3, z4⟩, frZ, frT⟩ := V7.out.cells
    unfold tokVal tokCells
    go_wp2_with fail
    have CE : ∀ w9, Rdr w9 R s (j : Nat) bad → Only R w w9 → TokEnd w R s a (.returned (tokVal 0 f)) w9 := by
      intro w9 r9 o9
      cases bad with
      | false => exact TokEnd.good (HB.out.1 rfl) rfl (by rfl) r9 rfl o9
      | true => exact TokEnd.worse (HB.out.2 rfl).1 rfl r9 rfl (HB.out.2 rfl).2 o9
    generalize hw9 : World.setCell _ _ _ = w9
    obtain ⟨b9, r9, o9⟩ := TK.fin (TK.whole (k := 0) (f := f) V7.out hTZ WT.out) (((((Blk.other H7.out _ (Ne.symm hRT) _).other _ (Ne.symm hRT) _).other _ (Ne.symm hRT) _).other _ (Ne.symm hRT) _).other _ (Ne.symm hRT) _) SZ.out.2.1 (by rw [ZE.out]; exact SZ.out.2.2.2.2) hw9
    clear hw9
    have y0 := Blk.cell b9 0
    have y1 := Blk.cell b9 1
    have y2 := Blk.cell b9 2
    have y3 := Blk.cell b9 3
    have y4 := Blk.cell b9 4
    simp [tokCells] at y0 y1 y2 y3 y4
    refine bodyPost_ret (v := tokVal 0 f) ?_ rfl (CE _ r9 o9)
    simp [results, Try.results30, go_sem, y0, y1, y2, y3, y4, tokVal, tokCells]
  · have Q91 := Lib.hid (decide_eq_false h91)
    have TA := Lib.hid (show tokAt s.data.toList a = (item s.data.toList a).map (fun x => ((1, fun b => decide (b = x.1)), x.2)) from by unfold tokAt; rw [if_neg H42.out, if_neg H63.out, if_neg h91])
    clear h91
    go_enter Try.func30, Try.ntmps30
    go_wp2_with fail
    refine (PKS.out _ 42 42 0 0 false H1.out rfl rfl (by omega) (by rw [HBk.out]; exact Q42.out)).mono ?_
    rintro e w2 ⟨rfl, hd⟩
    have H2 := Lib.hid (H1.out.drawn hd)
    have V2 := Lib.hid (V1.out.only (Only.drawn hd) SZ.out.1 SZ.out.2.1)
    clear hd
    generalize hT : w.heap.size + 1 = T at *
    generalize hZ : w.heap.size = Z at *
    have ZE := Lib.hid hZ
    clear hT hZ
    go_wp2_with fail
    refine (PKS.out _ 42 42 0 0 false H2.out rfl rfl (by omega) (by rw [HBk.out]; exact Q42.out)).mono ?_
    rintro e w3 ⟨rfl, hd⟩
    have H3 := Lib.hid (H2.out.drawn hd)
    have V3 := Lib.hid (V2.out.only (Only.drawn hd) SZ.out.1 SZ.out.2.1)
    clear hd
    go_wp2_with fail
    refine (PKS.out _ 63 63 0 0 false H3.out rfl rfl (by omega) (by rw [HBk.out]; exact Q63.out)).mono ?_
    rintro e w4 ⟨rfl, hd⟩
    have H4 := Lib.hid (H3.out.drawn hd)
    have V4 := Lib.hid (V3.out.only (Only.drawn hd) SZ.out.1 SZ.out.2.1)
    clear hd
    go_wp2_with fail
    refine (PKS.out _ 91 91 0 0 false H4.out rfl rfl (by omega) (by rw [HBk.out]; exact Q91.out)).mono ?_
    rintro e w5 ⟨rfl, hd⟩
    have H5 := Lib.hid (H4.out.drawn hd)
    have V5 := Lib.hid (V4.out.only (Only.drawn hd) SZ.out.1 SZ.out.2.1)
    clear hd
    have hTZ := SZ.out.2.2.1
    have hRT := SZ.out.1
    have hRZ := SZ.out.2.1
    have WT : w.heap.size ≤ T := by rw [ZE.out]; exact SZ.out.2.2.2.1
    have WT := Lib.hid WT
    go_wp2_with fail
    refine (plain_is _ R s a H5.out hs (by omega)).mono ?_
    rintro e w6 ⟨b, j, bad, rfl, hr6, ho6, hb256, hb0, hb1⟩
    have V6 := Lib.hid (V5.out.only ho6 hRT hRZ)
    have H6 := Lib.hid hr6
    have HB := Lib.hid (And.intro hb0 hb1)
    clear hr6 ho6 hb0 hb1
    go_wp2_with fail
    refine (add_calls _ T 0 _ _ none0 b b rfl rfl V6.out.1 hb256 hb256).mono ?_
    rintro e w7 ⟨rfl, hb, ho⟩
    have V7 := Lib.hid (V6.out.add hb ho hTZ WT.out)
    have H7 := Lib.hid (show Rdr w7 R s (j : Nat) bad from Blk.only H6.out ho hRT)
    have TE := Lib.hid (show tokCells 0 (mark none0 b b) = tokCells 0 (fun x => decide (x = b)) from tok_congr 0 fun x hx => by unfold mark none0; rw [Bool.eq_iff_iff]; simp; omega)
    clear hb ho
    obtain ⟨⟨d0, d1, d2, d3, d4⟩, ⟨z0, z1, z2, z3, z4⟩, frZ, frT⟩ := V7.out.cells
    go_wp2_with fail
    have CE : ∀ w9, Rdr w9 R s (j : Nat) bad → Only R w w9 → TokEnd w R s a (.returned (tokVal 0 (mark none0 b b))) w9 := by
      intro w9 r9 o9
      cases bad with
      | false => exact TokEnd.good (t := (1, fun x => decide (x = b))) (j := j) (by rw [TA.out, HB.out.1 rfl]; rfl) rfl TE.out r9 rfl o9
      | true => exact TokEnd.worse (by rw [TA.out, (HB.out.2 rfl).1]; rfl) rfl r9 rfl (by have := (HB.out.2 rfl).2.2; omega) o9
    generalize hw9 : World.setCell _ _ _ = w9
    obtain ⟨b9, r9, o9⟩ := TK.fin (V7.out) (H7.out) SZ.out.2.1 (by rw [ZE.out]; exact SZ.out.2.2.2.2) hw9
    clear hw9
    have y0 := Blk.cell b9 0
    have y1 := Blk.cell b9 1
    have y2 := Blk.cell b9 2
    have y3 := Blk.cell b9 3
    have y4 := Blk.cell b9 4
    simp [tokCells] at y0 y1 y2 y3 y4
    refine bodyPost_ret (v := tokVal 0 (mark none0 b b)) ?_ rfl (CE _ r9 o9)
    simp [results, Try.results30, go_sem, y0, y1, y2, y3, y4, tokVal, tokCells]
end Go.Proofs.Ytejeepmcoafdcaa
