/-
  The walk of CopyConfig: a configuration as new memory.
-/
import Derived.Test.YtejeepmcoafdcaaOpenCfg
import Derived.Test.YtejeepmcoafdcaaBlk
import Derived.Test.YtejeepmcoafdcaaCopySame
namespace Go.Proofs.Ytejeepmcoafdcaa
open Go.RowKit
set_option linter.unusedVariables false

def CfgV.with (c : CfgV) (v11 v12 : Value) : CfgV := { c with v11 := v11, v12 := v12 }

theorem Rd.off {α : Type} {w : World} {enc : α → Value} {g n c : Nat} {xs : List α} (h : Rd w enc (.slice (some ⟨g, 0, none⟩) n c) xs) (a : Addr) (ha : a.block ≠ g) (u : Value) : Rd (w.setCell a u) enc (.slice (some ⟨g, 0, none⟩) n c) xs := by
  obtain ⟨ao, c, hv, h1, h2, h3, h4⟩ := h
  refine ⟨ao, c, hv, h1, h2, h3, fun hne => ?_⟩
  obtain ⟨b, o, hb, hc⟩ := h4 hne
  subst hb
  cases hv
  exact ⟨_, _, rfl, fun i hi => by rw [cell_other _ (by exact ha)]; exact hc i hi⟩
theorem size_setCell (w : World) (a : Addr) (u : Value) : (w.setCell a u).heap.size = w.heap.size := by simp [World.setCell]

set_option maxHeartbeats 4000000 in
theorem copyConfig_calls (w : World) (c : CfgV) (h1 : Rd w strE c.v11 c.inc) (h2 : Rd w strE c.v12 c.exc) (z1 : c.inc.length * 16 ≤ 140737488351232) (z2 : c.exc.length * 16 ≤ 140737488351232) :
    Calls Try.prog 17 #[c.val] w fun e w' => ∃ v11 v12, e = .returned (c.with v11 v12).val ∧ Rd w' strE v11 c.inc ∧ Rd w' strE v12 c.exc ∧ Below w.heap.size w w' := by
  obtain ⟨n0, n1, n2, n3, n4, n5, n6, n7, n8, b9, b10, v11, v12, inc, exc⟩ := c
  simp only at h1 h2 z1 z2
  unfold CfgV.with CfgV.val
  simp only
  obtain ⟨ao, c, rfl⟩ := h1.any
  obtain ⟨ao2, c2, rfl⟩ := h2.any
  have R1 := Lib.hid h1
  have R2 := Lib.hid h2
  clear h1 h2
  go_enter Try.func17, Try.ntmps17
  go_wp2_with fail
  refine (copyTexts_calls _ inc _ ((R1.out.alloc _).alloc _) (by omega)).mono ?_
  rintro e w2 ⟨g1, k1, rfl, ho, hb⟩
  have nb := Blk.below (((Blk.new w #[.int .i64 n0, .int .i64 n1, .int .i64 n2, .int .i64 n3, .int .i64 n4, .int .i64 n5, .int .i64 n6, .int .i64 n7, .int .i64 n8, .bool b9, .bool b10, .slice ao inc.length c, .slice ao2 exc.length c2] 24)).alloc _) hb (by simp; omega)
  have X2 := Lib.hid (Below.next (((Below.refl _ w).alloc (Nat.le_refl _) _).alloc (by simp) _) hb)
  have q11 := nb.cell 11
  have q12 := nb.cell 12
  simp at q11 q12
  have f11 := nb.free 11
  have NB := Lib.hid (nb.set 11 (.slice (some ⟨g1, 0, none⟩) inc.length k1))
  simp at NB
  have O1 := Lib.hid ho.rd
  have G1 := Lib.hid (show w.heap.size + 2 ≤ g1 from by have := ho.len.2.2.2.1; simp at this; omega)
  have rb := Blk.below (Blk.new (w.alloc (.cells #[.int .i64 n0, .int .i64 n1, .int .i64 n2, .int .i64 n3, .int .i64 n4, .int .i64 n5, .int .i64 n6, .int .i64 n7, .int .i64 n8, .bool b9, .bool b10, .slice ao inc.length c, .slice ao2 exc.length c2] 24)) #[.int .i64 0, .int .i64 0, .int .i64 0, .int .i64 0, .int .i64 0, .int .i64 0, .int .i64 0, .int .i64 0, .int .i64 0, .bool false, .bool false, .slice none 0 0, .slice none 0 0] 24) hb (by simp)
  simp at rb
  have RB := Lib.hid (rb.other ⟨w.heap.size, 11, none⟩ (show w.heap.size ≠ w.heap.size + 1 by omega) (.slice (some ⟨g1, 0, none⟩) inc.length k1))
  have H2 := Lib.hid (show w.heap.size + 2 ≤ w2.heap.size from by have := hb.size; simp at this; omega)
  clear rb nb ho hb
  go_wp2_with fail
  have X3 := Lib.hid (X2.out.setCell (p := ⟨w.heap.size, 11, none⟩) (Nat.le_refl _) (.slice (some ⟨g1, 0, none⟩) inc.length k1))
  have O2 := Lib.hid (show Rd (w2.setCell ⟨w.heap.size, 11, none⟩ (.slice (some ⟨g1, 0, none⟩) inc.length k1)) strE (.slice (some ⟨g1, 0, none⟩) inc.length k1) inc from O1.out.off _ (show w.heap.size ≠ g1 by have := G1.out; omega) _)
  clear O1
  refine (copyTexts_calls _ exc _ (R2.out.below X3.out) (by omega)).mono ?_
  rintro e w3 ⟨g2, k2, rfl, ho, hb⟩
  have X4 := Lib.hid (Below.next X3.out hb)
  have hsz : w.heap.size + 2 ≤ (w2.setCell ⟨w.heap.size, 11, none⟩ (.slice (some ⟨g1, 0, none⟩) inc.length k1)).heap.size := by rw [size_setCell]; exact H2.out
  have G2 := Lib.hid (show w.heap.size + 2 ≤ g2 from Nat.le_trans hsz ho.len.2.2.2.1)
  have nb := NB.out.below hb NB.out.lt
  have rb := RB.out.below hb RB.out.lt
  have O1 := Lib.hid (O2.out.below hb)
  have P1 := Lib.hid ho.rd
  have f12 := nb.free 12
  have q := fun i => (nb.set 12 (.slice (some ⟨g2, 0, none⟩) exc.length k2)).cell i
  simp at q
  obtain ⟨q0, q1, q2, q3, q4, q5, q6, q7, q8, q9, q10, q11, q12⟩ := And.intro (q 0) (And.intro (q 1) (And.intro (q 2) (And.intro (q 3) (And.intro (q 4) (And.intro (q 5) (And.intro (q 6) (And.intro (q 7) (And.intro (q 8) (And.intro (q 9) (And.intro (q 10) (And.intro (q 11) (q 12))))))))))))
  clear q
  simp at q0 q1 q2 q3 q4 q5 q6 q7 q8 q9 q10 q11 q12
  have p12 := nb.cell 12
  simp at p12
  have r := fun i => rb.cell i
  obtain ⟨r0, r1, r2, r3, r4, r5, r6, r7, r8, r9, r10, r11, r12⟩ := And.intro (r 0) (And.intro (r 1) (And.intro (r 2) (And.intro (r 3) (And.intro (r 4) (And.intro (r 5) (And.intro (r 6) (And.intro (r 7) (And.intro (r 8) (And.intro (r 9) (And.intro (r 10) (And.intro (r 11) (r 12))))))))))))
  simp at r0 r1 r2 r3 r4 r5 r6 r7 r8 r9 r10 r11 r12
  have s := fun i => rb.free i
  obtain ⟨s0, s1, s2, s3, s4, s5, s6, s7, s8, s9, s10, s11, s12⟩ := And.intro (s 0) (And.intro (s 1) (And.intro (s 2) (And.intro (s 3) (And.intro (s 4) (And.intro (s 5) (And.intro (s 6) (And.intro (s 7) (And.intro (s 8) (And.intro (s 9) (And.intro (s 10) (And.intro (s 11) (s 12))))))))))))
  clear r s nb rb hsz ho hb X2 X3 NB RB O2
  go_wp2_with fail
  refine bodyPost_ret (v := .agg #[.int .i64 n0, .int .i64 n1, .int .i64 n2, .int .i64 n3, .int .i64 n4, .int .i64 n5, .int .i64 n6, .int .i64 n7, .int .i64 n8, .bool b9, .bool b10, .slice (some ⟨g1, 0, none⟩) inc.length k1, .slice (some ⟨g2, 0, none⟩) exc.length k2]) (by simp [results, Try.results17, go_sem, r0, r1, r2, r3, r4, r5, r6, r7, r8, r9, r10, r11, r12]) rfl ⟨_, _, rfl, ?_, ?_, ?_⟩
  · have := O1.out
    repeat' (refine Rd.off ?_ _ (show (_ : Nat) ≠ g1 by have := G1.out; simp only; omega) _)
    exact O1.out
  · repeat' (refine Rd.off ?_ _ (show (_ : Nat) ≠ g2 by have := G2.out; simp only; omega) _)
    exact P1.out
  · repeat' (refine Below.setCell ?_ (by simp only; omega) _)
    exact X4.out
end Go.Proofs.Ytejeepmcoafdcaa
