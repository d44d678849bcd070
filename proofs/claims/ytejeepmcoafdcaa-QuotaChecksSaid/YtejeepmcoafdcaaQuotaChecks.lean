/-
  QuotaChecks: for every configuration, QuotaChecks returns true. No condition.
-/
import Derived.Test.YtejeepmcoafdcaaRefCfg
import Derived.Test.YtejeepmcoafdcaaCopyCfg
import Derived.Test.YtejeepmcoafdcaaOpenCfg
import Derived.Deep.RegionHeld3
import Derived.ShutString
namespace Go.Proofs.Ytejeepmcoafdcaa
open Go.ChangeShapes Go.WideShapes Go.ChangeAt Go.RowKit
set_option linter.unusedVariables false

def cfg0 : CfgV := ⟨0, 0, 0, 0, 0, 0, 0, 0, 0, false, false, .slice none 0 0, .slice none 0 0, [], []⟩
theorem cfg0_err : cfgErr cfg0 = 202 := by
  unfold cfgErr
  rw [if_neg]
  simp [cfgBs, cfg0, inB]
theorem cells13 {w : World} {N : Nat} {T : TypeId} {a0 a1 a2 a3 a4 a5 a6 a7 a8 a9 a10 a11 a12 : Value} (h : Blk w N #[a0, a1, a2, a3, a4, a5, a6, a7, a8, a9, a10, a11, a12] T) :
    w.cell? ⟨N, 0, none⟩ = some a0 ∧ w.cell? ⟨N, 1, none⟩ = some a1 ∧ w.cell? ⟨N, 2, none⟩ = some a2 ∧ w.cell? ⟨N, 3, none⟩ = some a3 ∧ w.cell? ⟨N, 4, none⟩ = some a4 ∧ w.cell? ⟨N, 5, none⟩ = some a5 ∧ w.cell? ⟨N, 6, none⟩ = some a6 ∧ w.cell? ⟨N, 7, none⟩ = some a7 ∧ w.cell? ⟨N, 8, none⟩ = some a8 ∧ w.cell? ⟨N, 9, none⟩ = some a9 ∧ w.cell? ⟨N, 10, none⟩ = some a10 ∧ w.cell? ⟨N, 11, none⟩ = some a11 ∧ w.cell? ⟨N, 12, none⟩ = some a12 := by
  have := fun i => Blk.cell h i
  exact ⟨this 0, this 1, this 2, this 3, this 4, this 5, this 6, this 7, this 8, this 9, this 10, this 11, this 12⟩

set_option maxHeartbeats 8000000 in
theorem quotaChecks_calls (v : Value) (c : CfgV) (w : World) (hc : CfgIs w v c) (hz : CfgZ c) :
    Calls Try.prog 7 #[v] w (Holds w) := by
  obtain ⟨rfl, h1, h2⟩ := hc
  obtain ⟨⟨z1, y1⟩, z2, y2⟩ := hz
  have SZ := Lib.hid (show ∀ p ∈ c.inc ++ c.exc, p.size ≤ 140737488351232 from fun p hp => by
    rcases List.mem_append.1 hp with h | h
    · exact y1 p h
    · exact y2 p h)
  have QC := Lib.hid (fun wz u11 u12 (g1 : Rd wz strE u11 c.inc) (g2 : Rd wz strE u12 c.exc) => quotaCheck_calls wz (c.with u11 u12) g1 g2 SZ.out)
  have RC := Lib.hid (fun wz (g1 : Rd wz strE c.v11 c.inc) (g2 : Rd wz strE c.v12 c.exc) => refCfgCheck_calls wz c g1 g2 SZ.out)
  have CC := Lib.hid (fun wz (g1 : Rd wz strE c.v11 c.inc) (g2 : Rd wz strE c.v12 c.exc) => copyConfig_calls wz c g1 g2 z1 z2)
  have Q0 := Lib.hid (fun wz => quotaCheck_calls wz cfg0 (Rd.nil _ _) (Rd.nil _ _) (by intro p hp; cases hp))
  rw [cfg0_err] at Q0
  have ew : ∀ u11 u12, cfgErr (c.with u11 u12) = cfgErr c := fun _ _ => rfl
  generalize her : cfgErr c = er at *
  obtain ⟨n0, n1, n2, n3, n4, n5, n6, n7, n8, b9, b10, v11, v12, inc, exc⟩ := c
  unfold CfgV.with CfgV.val at *
  simp only at h1 h2 z1 z2 QC RC CC ew ⊢
  simp only [ew] at QC
  clear ew her y1 y2 SZ
  obtain ⟨ao, c, rfl⟩ := h1.any
  obtain ⟨ao2, c2, rfl⟩ := h2.any
  have R1 := Lib.hid h1
  have R2 := Lib.hid h2
  clear h1 h2
  go_enter Try.func7, Try.ntmps7
  go_wp2_with fail
  refine (Q0.out _).mono ?_
  rintro e w2 ⟨rfl, hb⟩
  have nb := Blk.below (Blk.new w #[.int .i64 n0, .int .i64 n1, .int .i64 n2, .int .i64 n3, .int .i64 n4, .int .i64 n5, .int .i64 n6, .int .i64 n7, .int .i64 n8, .bool b9, .bool b10, .slice ao inc.length c, .slice ao2 exc.length c2] 24) hb (by simp)
  have X2 := Lib.hid (Below.next ((Below.refl _ w).alloc (Nat.le_refl _) _) hb)
  have NB := Lib.hid nb
  obtain ⟨q0, q1, q2, q3, q4, q5, q6, q7, q8, q9, q10, q11, q12⟩ := cells13 nb
  clear hb nb
  go_wp2_with fail
  refine (CC.out w2 (R1.out.below X2.out) (R2.out.below X2.out)).mono ?_
  rintro e w3 ⟨u11, u12, rfl, p1, p2, hb⟩
  obtain ⟨ao3, c3, rfl⟩ := p1.any
  obtain ⟨ao4, c4, rfl⟩ := p2.any
  have X3 := Lib.hid (Below.next X2.out hb)
  have nb := NB.out.below hb NB.out.lt
  have P1 := Lib.hid p1
  have P2 := Lib.hid p2
  clear q0 q1 q2 q3 q4 q5 q6 q7 q8 q9 q10 q11 q12 NB p1 p2 hb
  have hNs : w.heap.size < w3.heap.size := nb.lt
  have mb := Blk.new w3 #[.int .i64 n0, .int .i64 n1, .int .i64 n2, .int .i64 n3, .int .i64 n4, .int .i64 n5, .int .i64 n6, .int .i64 n7, .int .i64 n8, .bool b9, .bool b10, .slice ao3 inc.length c3, .slice ao4 exc.length c4] 24
  have nb4 := nb.alloc (.cells #[.int .i64 n0, .int .i64 n1, .int .i64 n2, .int .i64 n3, .int .i64 n4, .int .i64 n5, .int .i64 n6, .int .i64 n7, .int .i64 n8, .bool b9, .bool b10, .slice ao3 inc.length c3, .slice ao4 exc.length c4] 24)
  have X4 := Lib.hid (X3.out.alloc X3.out.size (.cells #[.int .i64 n0, .int .i64 n1, .int .i64 n2, .int .i64 n3, .int .i64 n4, .int .i64 n5, .int .i64 n6, .int .i64 n7, .int .i64 n8, .bool b9, .bool b10, .slice ao3 inc.length c3, .slice ao4 exc.length c4] 24))
  have A1 := Lib.hid (P1.out.alloc (.cells #[.int .i64 n0, .int .i64 n1, .int .i64 n2, .int .i64 n3, .int .i64 n4, .int .i64 n5, .int .i64 n6, .int .i64 n7, .int .i64 n8, .bool b9, .bool b10, .slice ao3 inc.length c3, .slice ao4 exc.length c4] 24))
  have A2 := Lib.hid (P2.out.alloc (.cells #[.int .i64 n0, .int .i64 n1, .int .i64 n2, .int .i64 n3, .int .i64 n4, .int .i64 n5, .int .i64 n6, .int .i64 n7, .int .i64 n8, .bool b9, .bool b10, .slice ao3 inc.length c3, .slice ao4 exc.length c4] 24))
  clear nb P1 P2 X3 X2
  go_upto_region 4 with fail
  generalize hw4 : w3.alloc (.cells #[.int .i64 n0, .int .i64 n1, .int .i64 n2, .int .i64 n3, .int .i64 n4, .int .i64 n5, .int .i64 n6, .int .i64 n7, .int .i64 n8, .bool b9, .bool b10, .slice ao3 inc.length c3, .slice ao4 exc.length c4] 24) = w4 at *
  have NB4 := Lib.hid nb4
  have MB4 := Lib.hid mb
  clear nb4 mb
  have QCB := Lib.hid (show ∀ wz, Below w4.heap.size w4 wz → Calls Try.prog 16 #[(.agg #[.int .i64 n0, .int .i64 n1, .int .i64 n2, .int .i64 n3, .int .i64 n4, .int .i64 n5, .int .i64 n6, .int .i64 n7, .int .i64 n8, .bool b9, .bool b10, .slice ao3 inc.length c3, .slice ao4 exc.length c4])] wz fun e w' => e = .returned (.int .i64 er) ∧ Below w4.heap.size w4 w' from fun wz hz =>
    (QC.out wz _ _ (A1.out.below hz) (A2.out.below hz)).mono fun e w' ⟨he, hb⟩ => ⟨he, Below.next hz hb⟩)
  have RCB := Lib.hid (show ∀ wz, Below w4.heap.size w4 wz → Calls Try.prog 18 #[(.agg #[.int .i64 n0, .int .i64 n1, .int .i64 n2, .int .i64 n3, .int .i64 n4, .int .i64 n5, .int .i64 n6, .int .i64 n7, .int .i64 n8, .bool b9, .bool b10, .slice ao inc.length c, .slice ao2 exc.length c2])] wz fun e w' => e = .returned (.int .i64 er) ∧ Below w4.heap.size w4 w' from fun wz hz =>
    (RC.out wz (R1.out.below (X4.out.trans (hz.mono X4.out.size))) (R2.out.below (X4.out.trans (hz.mono X4.out.size)))).mono fun e w' ⟨he, hb⟩ => ⟨he, Below.next hz hb⟩)
  have S1B := Lib.hid (show ∀ wz, Below w4.heap.size w4 wz → Calls Try.prog 19 #[.slice ao3 inc.length c3, .slice ao inc.length c] wz fun e w' => e = .returned (.bool true) ∧ Below w4.heap.size w4 w' from fun wz hz =>
    (sameTexts_calls _ _ inc inc wz (A1.out.below hz) (R1.out.below (X4.out.trans (hz.mono X4.out.size)))).mono fun e w' ⟨he, hd⟩ => ⟨by rw [he]; simp, hz.trans (hd.below _)⟩)
  have S2B := Lib.hid (show ∀ wz, Below w4.heap.size w4 wz → Calls Try.prog 19 #[.slice ao4 exc.length c4, .slice ao2 exc.length c2] wz fun e w' => e = .returned (.bool true) ∧ Below w4.heap.size w4 w' from fun wz hz =>
    (sameTexts_calls _ _ exc exc wz (A2.out.below hz) (R2.out.below (X4.out.trans (hz.mono X4.out.size)))).mono fun e w' ⟨he, hd⟩ => ⟨by rw [he]; simp, hz.trans (hd.below _)⟩)
  have MK := Lib.hid (show ∀ wz, Below w4.heap.size w4 wz → Below w4.heap.size w4 wz ∧ wz.cell? ⟨w.heap.size, 0, none⟩ = some (.int .i64 n0) ∧ wz.cell? ⟨w.heap.size, 1, none⟩ = some (.int .i64 n1) ∧ wz.cell? ⟨w.heap.size, 2, none⟩ = some (.int .i64 n2) ∧ wz.cell? ⟨w.heap.size, 3, none⟩ = some (.int .i64 n3) ∧ wz.cell? ⟨w.heap.size, 4, none⟩ = some (.int .i64 n4) ∧ wz.cell? ⟨w.heap.size, 5, none⟩ = some (.int .i64 n5) ∧ wz.cell? ⟨w.heap.size, 6, none⟩ = some (.int .i64 n6) ∧ wz.cell? ⟨w.heap.size, 7, none⟩ = some (.int .i64 n7) ∧ wz.cell? ⟨w.heap.size, 8, none⟩ = some (.int .i64 n8) ∧ wz.cell? ⟨w.heap.size, 9, none⟩ = some (.bool b9) ∧ wz.cell? ⟨w.heap.size, 10, none⟩ = some (.bool b10) ∧ wz.cell? ⟨w.heap.size, 11, none⟩ = some (.slice ao inc.length c) ∧ wz.cell? ⟨w.heap.size, 12, none⟩ = some (.slice ao2 exc.length c2) ∧ wz.cell? ⟨w3.heap.size, 0, none⟩ = some (.int .i64 n0) ∧ wz.cell? ⟨w3.heap.size, 1, none⟩ = some (.int .i64 n1) ∧ wz.cell? ⟨w3.heap.size, 2, none⟩ = some (.int .i64 n2) ∧ wz.cell? ⟨w3.heap.size, 3, none⟩ = some (.int .i64 n3) ∧ wz.cell? ⟨w3.heap.size, 4, none⟩ = some (.int .i64 n4) ∧ wz.cell? ⟨w3.heap.size, 5, none⟩ = some (.int .i64 n5) ∧ wz.cell? ⟨w3.heap.size, 6, none⟩ = some (.int .i64 n6) ∧ wz.cell? ⟨w3.heap.size, 7, none⟩ = some (.int .i64 n7) ∧ wz.cell? ⟨w3.heap.size, 8, none⟩ = some (.int .i64 n8) ∧ wz.cell? ⟨w3.heap.size, 9, none⟩ = some (.bool b9) ∧ wz.cell? ⟨w3.heap.size, 10, none⟩ = some (.bool b10) ∧ wz.cell? ⟨w3.heap.size, 11, none⟩ = some (.slice ao3 inc.length c3) ∧ wz.cell? ⟨w3.heap.size, 12, none⟩ = some (.slice ao4 exc.length c4) from fun wz hz => by
    obtain ⟨q0, q1, q2, q3, q4, q5, q6, q7, q8, q9, q10, q11, q12⟩ := cells13 (NB4.out.below hz NB4.out.lt)
    obtain ⟨p0, p1, p2, p3, p4, p5, p6, p7, p8, p9, p10, p11, p12⟩ := cells13 (MB4.out.below hz MB4.out.lt)
    exact ⟨hz, q0, q1, q2, q3, q4, q5, q6, q7, q8, q9, q10, q11, q12, p0, p1, p2, p3, p4, p5, p6, p7, p8, p9, p10, p11, p12⟩)
  have X4' := X4.out
  clear QC RC A1 A2 R1 R2 NB4 MB4 Q0 CC X4
  have XX := Lib.hid X4'
  clear X4'
  go_region_held3 (fun wz => Below w4.heap.size w4 wz ∧ wz.cell? ⟨w.heap.size, 0, none⟩ = some (.int .i64 n0) ∧ wz.cell? ⟨w.heap.size, 1, none⟩ = some (.int .i64 n1) ∧ wz.cell? ⟨w.heap.size, 2, none⟩ = some (.int .i64 n2) ∧ wz.cell? ⟨w.heap.size, 3, none⟩ = some (.int .i64 n3) ∧ wz.cell? ⟨w.heap.size, 4, none⟩ = some (.int .i64 n4) ∧ wz.cell? ⟨w.heap.size, 5, none⟩ = some (.int .i64 n5) ∧ wz.cell? ⟨w.heap.size, 6, none⟩ = some (.int .i64 n6) ∧ wz.cell? ⟨w.heap.size, 7, none⟩ = some (.int .i64 n7) ∧ wz.cell? ⟨w.heap.size, 8, none⟩ = some (.int .i64 n8) ∧ wz.cell? ⟨w.heap.size, 9, none⟩ = some (.bool b9) ∧ wz.cell? ⟨w.heap.size, 10, none⟩ = some (.bool b10) ∧ wz.cell? ⟨w.heap.size, 11, none⟩ = some (.slice ao inc.length c) ∧ wz.cell? ⟨w.heap.size, 12, none⟩ = some (.slice ao2 exc.length c2) ∧ wz.cell? ⟨w3.heap.size, 0, none⟩ = some (.int .i64 n0) ∧ wz.cell? ⟨w3.heap.size, 1, none⟩ = some (.int .i64 n1) ∧ wz.cell? ⟨w3.heap.size, 2, none⟩ = some (.int .i64 n2) ∧ wz.cell? ⟨w3.heap.size, 3, none⟩ = some (.int .i64 n3) ∧ wz.cell? ⟨w3.heap.size, 4, none⟩ = some (.int .i64 n4) ∧ wz.cell? ⟨w3.heap.size, 5, none⟩ = some (.int .i64 n5) ∧ wz.cell? ⟨w3.heap.size, 6, none⟩ = some (.int .i64 n6) ∧ wz.cell? ⟨w3.heap.size, 7, none⟩ = some (.int .i64 n7) ∧ wz.cell? ⟨w3.heap.size, 8, none⟩ = some (.int .i64 n8) ∧ wz.cell? ⟨w3.heap.size, 9, none⟩ = some (.bool b9) ∧ wz.cell? ⟨w3.heap.size, 10, none⟩ = some (.bool b10) ∧ wz.cell? ⟨w3.heap.size, 11, none⟩ = some (.slice ao3 inc.length c3) ∧ wz.cell? ⟨w3.heap.size, 12, none⟩ = some (.slice ao4 exc.length c4))
    ((refine MK.out _ ?_; first | exact Below.refl _ _ | exact (Below.refl _ _).drew | exact BX.out | exact BX.out.drew))
    (first
      | (go_at_call 16; refine (QCB.out _ (by first | exact BX.out | exact BX.out.drew | exact Below.refl _ _ | exact (Below.refl _ _).drew)).mono ?_; rintro e wx ⟨rfl, hbx⟩; have BX := Lib.hid hbx; clear hbx)
      | (go_at_call 18; refine (RCB.out _ (by first | exact BX.out | exact BX.out.drew | exact Below.refl _ _ | exact (Below.refl _ _).drew)).mono ?_; rintro e wx ⟨rfl, hbx⟩; have BX := Lib.hid hbx; clear hbx)
      | (go_at_call 19; first | (with_reducible refine (S1B.out _ (by first | exact BX.out | exact BX.out.drew | exact Below.refl _ _ | exact (Below.refl _ _).drew)).mono ?_; rintro e wx ⟨rfl, hbx⟩; have BX := Lib.hid hbx; clear hbx) | (with_reducible refine (S2B.out _ (by first | exact BX.out | exact BX.out.drew | exact Below.refl _ _ | exact (Below.refl _ _).drew)).mono ?_; rintro e wx ⟨rfl, hbx⟩; have BX := Lib.hid hbx; clear hbx)))
  all_goals go_wp2
  all_goals go_ret
  all_goals exact ⟨rfl, XX.out.trans (BX.out.mono XX.out.size)⟩

theorem quotaChecks_core {H : Type} (enc : TypeId × Value → H) (W : World) (base : Nat) (args : Array Value) (ds : List (DataW H)) (before : List MemPlace)
    (hval : ∀ (j : Nat) t v, Try.f7.params[j]? = some t → args[j]? = some v → Value.okWide Try.prog W .any base t v)
    (hW : DataW.Whole enc Try.prog Try.f7.params.toList [] false W args.toList ds [] before)
    (hsz : (DataW.weightsEach Try.prog (Try.f7.params.toList ++ []) (ds ++ [])).all (· ≤ reachBytes) = true) (hsh : W.ShapedOpen Try.prog) :
    Calls Try.prog 7 args W (Holds W) := by
  obtain ⟨p, q, hA0, hV, rfl, _, _⟩ := hW
  have hA : DataW.TrodAll enc Try.prog W 0 (fun _ => true) true Try.f7.params.toList args.toList ds p := hA0
  rw [Try.params7] at hA hval hsz
  obtain ⟨v0, vs0, d0, ds0, p0, q0, hargs, rfl, rfl, h0, r0⟩ := trodAll_cons hA
  obtain ⟨rfl, rfl, rfl⟩ := trodAll_nil r0
  obtain rfl : args = #[v0] := by cases args; simp_all
  obtain ⟨a0, rd0, td0⟩ := open_cfgf (hval 0 _ v0 rfl rfl) h0
  have z0 := cfgf_bounds hsz (j := 0) rfl rfl td0
  exact quotaChecks_calls v0 a0 W rd0 z0

set_option maxRecDepth 100000 in
theorem quotaChecks_reads (os : Os) {H : Type} (enc : TypeId × Value → H) : ∃ places, DataW.whole enc Try.prog ((World.holding Try.prog os ⟨#[], #[], []⟩).forCall (fun _ _ => 0) ⟨#[], #[.agg #[.int .i64 0, .int .i64 0, .int .i64 0, .int .i64 0, .int .i64 0, .int .i64 0, .int .i64 0, .int .i64 0, .int .i64 0, .bool false, .bool false, .slice none 0 0, .slice none 0 0]], []⟩).memory Try.f7.params.toList Rows.quotaChecksSpec.vars false (#[.agg #[.int .i64 0, .int .i64 0, .int .i64 0, .int .i64 0, .int .i64 0, .int .i64 0, .int .i64 0, .int .i64 0, .int .i64 0, .bool false, .bool false, .slice none 0 0, .slice none 0 0]] : Array Value).toList 8 = some ([.agg [.lit (.int .i64 0), .lit (.int .i64 0), .lit (.int .i64 0), .lit (.int .i64 0), .lit (.int .i64 0), .lit (.int .i64 0), .lit (.int .i64 0), .lit (.int .i64 0), .lit (.int .i64 0), .lit (.bool false), .lit (.bool false), .nil, .nil]], [], places) :=
  ⟨[], by kernel_rfl⟩
set_option maxRecDepth 100000 in
theorem quotaChecks_lifted (os : Os) (started : os.Started) (H : Type) (enc : TypeId × Value → H) (F : Stop.Interp) :
    ReturnsInHanded {} Try.checked os 7 .any ((OpenSpec.ofChange Rows.quotaChecksSpec).preRow enc Try.prog Try.f7 Rows.quotaChecksRow.domain false Rows.quotaChecksRow.laid) (((OpenSpec.ofChange Rows.quotaChecksSpec).at F).post enc Try.prog Try.f7 false true false false) := by
  obtain ⟨places, hx⟩ := quotaChecks_reads os enc
  refine returnsInHanded_of_row (C := Try.checked) (s := OpenSpec.ofChange Rows.quotaChecksSpec) own started (by kernel_rfl) Try.func7
    (witness_row_at (enc := enc) (C := Try.checked) false (World.holding Try.prog os ⟨#[], #[], []⟩) #[.agg #[.int .i64 0, .int .i64 0, .int .i64 0, .int .i64 0, .int .i64 0, .int .i64 0, .int .i64 0, .int .i64 0, .int .i64 0, .bool false, .bool false, .slice none 0 0, .slice none 0 0]] rfl (by kernel_rfl) (by kernel_rfl) (by kernel_rfl)
      (OpenSpec.preRow_of_cond 8 hx (by kernel_rfl) (fun k hk => by cases hk) (by kernel_rfl) (laidMetH_nil _ _))) ?_
  intro W base args ds gs before hval hW _ hcond hsz hL hsh _
  obtain rfl : gs = [] := by
    obtain ⟨p, q, hA0, hV, _⟩ := hW
    exact (trodVars_none hV).1
  obtain ⟨d0, rfl⟩ : ∃ d0, ds = [d0] := by
    obtain ⟨p, q, hA0, _⟩ := hW
    have hA : DataW.TrodAll enc Try.prog W 0 (fun _ => true) true Try.f7.params.toList args.toList ds p := hA0
    rw [Try.params7] at hA
    obtain ⟨v0, vs0, d0, ds0, p0, q0, _, rfl, _, _, r0⟩ := trodAll_cons hA
    obtain ⟨_, rfl, _⟩ := trodAll_nil r0
    exact ⟨_, rfl⟩
  refine (quotaChecks_core enc W base args _ before hval hW hsz hsh).mono fun e W' ⟨he, hb⟩ => ?_
  subst he
  exact ⟨_, rfl, law_post hW rfl (fun t ht => by rw [Try.params7] at ht; simp only [List.mem_cons, List.not_mem_nil, or_false] at ht; rcases ht with rfl <;> exact ⟨by kernel_rfl, of_decide_eq_true (by kernel_rfl)⟩) rfl rfl rfl rfl hb⟩
theorem quotaChecks_said : Rows.QuotaChecksSaid :=
  OpenClaim.holds_of_cond 7 Try.f7 rfl rfl rfl rfl rfl rfl rfl ⟨rfl, rfl, rfl, rfl, rfl⟩ rfl rfl rfl rfl rfl (by kernel_rfl) Try.func7 (by kernel_rfl)
    (of_decide_eq_true (by kernel_rfl)) (by unfold Func.isWrapper; first | (rw [if_pos (by decide +kernel)]; kernel_rfl) | (rw [if_neg (by decide +kernel)]; exact ⟨rfl, rfl⟩))
    (fun os started H enc _ F => by rw [OpenClaim.pre_eq_preRow]; exact quotaChecks_lifted os started H enc F)
end Go.Proofs.Ytejeepmcoafdcaa
