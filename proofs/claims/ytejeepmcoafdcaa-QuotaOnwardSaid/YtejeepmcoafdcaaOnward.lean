/-
  QuotaOnward: for every configuration and every two lists of charges, QuotaOnward returns true. No condition.
-/
import Derived.Test.YtejeepmcoafdcaaQuotaKit
namespace Go.Proofs.Ytejeepmcoafdcaa
open Go.ChangeShapes Go.WideShapes Go.ChangeAt Go.RowKit
set_option linter.unusedVariables false

set_option maxHeartbeats 2000000 in
theorem quotaOnward_calls (v1 : Value) (mE mB : Int) (v2 : Value) (xs : List (Int × Int)) (v3 : Value) (ys : List (Int × Int)) (w : World) (hc : Cfg v1 mE mB) (h : RdP w v2 xs) (h' : RdP w v3 ys) :
    Calls Try.prog 6 #[v1, v2, v3] w (Holds w) := by
  obtain ⟨hE, hB, c2, c3, c4, c5, c6, c7, c8, c9, c10, c11, c12, rfl⟩ := hc
  obtain ⟨ao, cc, rfl⟩ := h.any
  obtain ⟨ao', cc', rfl⟩ := h'.any
  have HR := Lib.hid h
  have HR' := Lib.hid h'
  have HP := Lib.hid (show IsInt mE ∧ IsInt mB from ⟨hE, hB⟩)
  clear h h' hE hB
  go_enter Try.func6, Try.ntmps6
  go_wp2_with fail
  refine (alive_calls _).mono ?_
  rintro e w1 ⟨rfl, hb1⟩
  have b0 := Blk.new w #[.int .i64 mE, .int .i64 mB, c2, c3, c4, c5, c6, c7, c8, c9, c10, c11, c12] 24
  have s0 := b0.lt
  have b1 := b0.below hb1 s0
  have hb1' := ((Below.refl w.heap.size w).alloc (Nat.le_refl _) (Obj.cells #[.int .i64 mE, .int .i64 mB, c2, c3, c4, c5, c6, c7, c8, c9, c10, c11, c12] 24)).trans (hb1.mono (by simp))
  clear hb1 b0 s0
  obtain ⟨k0, k1, k2, k3, k4, k5, k6, k7, k8, k9, k10, k11, k12⟩ := cells13 b1
  have B1 := Lib.hid b1
  have X1 := Lib.hid hb1'
  clear b1 hb1'
  go_wp2_with fail
  refine (new_calls mE mB _ _ _ _ _ _ _ _ _ _ _ w1).mono ?_
  clear k0 k1 k2 k3 k4 k5 k6 k7 k8 k9 k10 k11 k12
  rintro e w2 ⟨M, rfl, hM, hm, hb2⟩
  have hMO : M < w2.heap.size := Blk.lt hm
  have b2 := B1.out.below hb2 B1.out.lt
  obtain ⟨k0, k1, k2, k3, k4, k5, k6, k7, k8, k9, k10, k11, k12⟩ := cells13 b2
  have B2 := Lib.hid b2
  have X2 := Lib.hid (X1.out.trans (hb2.mono X1.out.size))
  have M2 := Lib.hid hm
  have HM := Lib.hid (show w.heap.size < M from Nat.lt_of_lt_of_le B1.out.lt hM)
  clear b2 hb2 hm hM
  go_wp2_with fail
  refine (new_calls mE mB _ _ _ _ _ _ _ _ _ _ _ w2).mono ?_
  clear k0 k1 k2 k3 k4 k5 k6 k7 k8 k9 k10 k11 k12
  rintro e w3 ⟨O, rfl, hO, ho, hb3⟩
  have X3 := Lib.hid (X2.out.trans (hb3.mono X2.out.size))
  have M3 := Lib.hid (show Mt w3 M mE mB 0 0 from Blk.below M2.out hb3 hMO)
  have O3 := Lib.hid ho
  have HO := Lib.hid (show M < O ∧ w.heap.size < M from ⟨Nat.lt_of_lt_of_le hMO hO, HM.out⟩)
  have F0 := Lib.hid (show Fine 0 from by unfold Fine; omega)
  clear hb3 ho hO hMO HM B1 B2 X1 X2 M2
  clear w1 w2
  have C1 := Lib.hid (batch_calls w3 M mE mB 0 0 ao xs.length cc xs M3.out HP.out.1 HP.out.2 F0.out F0.out (HR.out.below X3.out) (HR.out.off (by have := HO.out; omega)))
  have D1 := Lib.hid (batch_done (mE := mE) (mB := mB) xs 0 0)
  have T1 := Lib.hid (batch_take (mE := mE) (mB := mB) xs 0 0)
  have F1 := Lib.hid (batch_fine HP.out.1 HP.out.2 xs F0.out F0.out)
  have hcap := HR.out.cap.2
  have hd := D1.out.1
  generalize batch mE mB xs 0 0 = r at *
  obtain ⟨d, er, e1, b1⟩ := r
  have hl : xs.length ≤ 9223372036854775807 := Nat.le_trans hcap.1 hcap.2
  unfold maxLen at hcap
  obtain ⟨hc1, hc2⟩ := hcap
  replace T1 := Lib.hid (show batch mE mB (xs.take d) 0 0 = (d, 0, e1, b1) from T1.out)
  replace F1 := Lib.hid (show Fine e1 ∧ Fine b1 from F1.out)
  replace D1 := Lib.hid (show d ≤ xs.length from hd)
  have hd' : d ≤ xs.length := hd
  clear hd
  have CT := Lib.hid (HR.out.take d hd')
  generalize xs.length = n at *
  go_wp2_with fail
  refine C1.out.mono ?_
  rintro e w4 ⟨rfl, hm, ho⟩
  have M4 := Lib.hid (show Mt w4 M mE mB e1 b1 from hm)
  have O4 := Lib.hid (O3.out.keep ho (by have := HO.out; omega))
  have X4 := Lib.hid (X3.out.trans (ho.below (by have := HO.out; omega) X3.out.size))
  clear hm ho
  go_wp2_with fail
  refine (batch_calls w4 O mE mB 0 0 ao d cc (xs.take d) O4.out HP.out.1 HP.out.2 F0.out F0.out (CT.out.below X4.out) (CT.out.off (by have := HO.out; omega))).mono ?_
  rintro e w5 ⟨rfl, hm, ho⟩
  have EQ : batch mE mB (xs.take d) 0 0 = (d, 0, e1, b1) := T1.out
  rw [EQ] at hm ⊢
  have O5 := Lib.hid (show Mt w5 O mE mB e1 b1 from hm)
  have M5 := Lib.hid (M4.out.keep ho (by have := HO.out; omega))
  have X5 := Lib.hid (X4.out.trans (ho.below (by have := HO.out; omega) X4.out.size))
  clear hm ho EQ
  go_wp2_with fail
  refine (batch_calls w5 M mE mB e1 b1 ao' ys.length cc' ys M5.out HP.out.1 HP.out.2 F1.out.1 F1.out.2 (HR'.out.below X5.out) (HR'.out.off (by have := HO.out; omega))).mono ?_
  rintro e w6 ⟨rfl, hm, ho⟩
  have M6 := Lib.hid hm
  have O6 := Lib.hid (O5.out.keep ho (by have := HO.out; omega))
  have X6 := Lib.hid (X5.out.trans (ho.below (by have := HO.out; omega) X5.out.size))
  clear hm ho
  go_wp2_with fail
  refine (batch_calls w6 O mE mB e1 b1 ao' ys.length cc' ys O6.out HP.out.1 HP.out.2 F1.out.1 F1.out.2 (HR'.out.below X6.out) (HR'.out.off (by have := HO.out; omega))).mono ?_
  rintro e w7 ⟨rfl, hm, ho⟩
  have O7 := Lib.hid hm
  have M7 := Lib.hid (M6.out.keep ho (by have := HO.out; omega))
  have X7 := Lib.hid (X6.out.trans (ho.below (by have := HO.out; omega) X6.out.size))
  clear hm ho
  generalize (batch mE mB ys e1 b1).2.2.1 = e2 at *
  generalize (batch mE mB ys e1 b1).2.2.2 = b2 at *
  generalize (batch mE mB ys e1 b1).2.1 = r2 at *
  generalize (batch mE mB ys e1 b1).1 = d2 at *
  go_wp2_with fail
  refine (entries_calls w7 M mE mB e2 b2 M7.out).mono ?_
  rintro e w8 ⟨rfl, rfl⟩
  go_wp2_with fail
  refine (entries_calls _ O mE mB e2 b2 O7.out).mono ?_
  rintro e w8 ⟨rfl, rfl⟩
  go_wp2_with fail
  refine (written_calls _ M mE mB e2 b2 M7.out).mono ?_
  rintro e w8 ⟨rfl, rfl⟩
  go_wp2_with fail
  refine (written_calls _ O mE mB e2 b2 O7.out).mono ?_
  rintro e w8 ⟨rfl, rfl⟩
  go_wp2
  go_ret
  exact ⟨rfl, X7.out⟩
theorem quotaOnward_core {H : Type} (enc : TypeId × Value → H) (W : World) (base : Nat) (args : Array Value) (ds : List (DataW H)) (before : List MemPlace)
    (hval : ∀ (j : Nat) t v, Try.f6.params[j]? = some t → args[j]? = some v → Value.okWide Try.prog W .any base t v)
    (hW : DataW.Whole enc Try.prog Try.f6.params.toList [] false W args.toList ds [] before)
    (hsz : (DataW.weightsEach Try.prog (Try.f6.params.toList ++ []) (ds ++ [])).all (· ≤ reachBytes) = true) (hsh : W.ShapedOpen Try.prog) :
    Calls Try.prog 6 args W (Holds W) := by
  obtain ⟨p, q, hA0, hV, rfl, _, _⟩ := hW
  have hA : DataW.TrodAll enc Try.prog W 0 (fun _ => true) true Try.f6.params.toList args.toList ds p := hA0
  rw [Try.params6] at hA hval hsz
  obtain ⟨v0, vs0, d0, ds0, p0, q0, hargs, rfl, rfl, h0, r0⟩ := trodAll_cons hA
  obtain ⟨v1, vs1, d1, ds1, p1, q1, rfl, rfl, rfl, h1, r1⟩ := trodAll_cons r0
  obtain ⟨v2, vs2, d2, ds2, p2, q2, rfl, rfl, rfl, h2, r2⟩ := trodAll_cons r1
  obtain ⟨rfl, rfl, rfl⟩ := trodAll_nil r2
  obtain rfl : args = #[v0, v1, v2] := by cases args; simp_all
  obtain ⟨a0, b0, rd0⟩ := open_cfg (hval 0 _ v0 rfl rfl) h0
  obtain ⟨a1, rd1⟩ := open_charges (hval 1 _ v1 rfl rfl) h1
  obtain ⟨a2, rd2⟩ := open_charges (hval 2 _ v2 rfl rfl) h2
  exact quotaOnward_calls v0 a0 b0 v1 a1 v2 a2 W rd0 rd1 rd2

set_option maxRecDepth 100000 in
theorem quotaOnward_reads (os : Os) {H : Type} (enc : TypeId × Value → H) : ∃ places, DataW.whole enc Try.prog ((World.holding Try.prog os ⟨#[], #[], []⟩).forCall (fun _ _ => 0) ⟨#[], #[.agg #[.int .i64 0, .int .i64 0, .int .i64 0, .int .i64 0, .int .i64 0, .int .i64 0, .int .i64 0, .int .i64 0, .int .i64 0, .bool false, .bool false, .slice none 0 0, .slice none 0 0], .slice none 0 0, .slice none 0 0], []⟩).memory Try.f6.params.toList Rows.quotaOnwardSpec.vars false (#[.agg #[.int .i64 0, .int .i64 0, .int .i64 0, .int .i64 0, .int .i64 0, .int .i64 0, .int .i64 0, .int .i64 0, .int .i64 0, .bool false, .bool false, .slice none 0 0, .slice none 0 0], .slice none 0 0, .slice none 0 0] : Array Value).toList 8 = some ([.agg [.lit (.int .i64 0), .lit (.int .i64 0), .lit (.int .i64 0), .lit (.int .i64 0), .lit (.int .i64 0), .lit (.int .i64 0), .lit (.int .i64 0), .lit (.int .i64 0), .lit (.int .i64 0), .lit (.bool false), .lit (.bool false), .nil, .nil], .nil, .nil], [], places) :=
  ⟨[], by kernel_rfl⟩
set_option maxRecDepth 100000 in
theorem quotaOnward_lifted (os : Os) (started : os.Started) (H : Type) (enc : TypeId × Value → H) (F : Stop.Interp) :
    ReturnsInHanded {} Try.checked os 6 .any ((OpenSpec.ofChange Rows.quotaOnwardSpec).preRow enc Try.prog Try.f6 Rows.quotaOnwardRow.domain false Rows.quotaOnwardRow.laid) (((OpenSpec.ofChange Rows.quotaOnwardSpec).at F).post enc Try.prog Try.f6 false true false false) := by
  obtain ⟨places, hx⟩ := quotaOnward_reads os enc
  refine returnsInHanded_of_row (C := Try.checked) (s := OpenSpec.ofChange Rows.quotaOnwardSpec) own started (by kernel_rfl) Try.func6
    (witness_row_at (enc := enc) (C := Try.checked) false (World.holding Try.prog os ⟨#[], #[], []⟩) #[.agg #[.int .i64 0, .int .i64 0, .int .i64 0, .int .i64 0, .int .i64 0, .int .i64 0, .int .i64 0, .int .i64 0, .int .i64 0, .bool false, .bool false, .slice none 0 0, .slice none 0 0], .slice none 0 0, .slice none 0 0] rfl (by kernel_rfl) (by kernel_rfl) (by kernel_rfl)
      (OpenSpec.preRow_of_cond 8 hx (by kernel_rfl) (fun k hk => by cases hk) (by kernel_rfl) (laidMetH_nil _ _))) ?_
  intro W base args ds gs before hval hW _ hcond hsz hL hsh _
  obtain rfl : gs = [] := by
    obtain ⟨p, q, hA0, hV, _⟩ := hW
    exact (trodVars_none hV).1
  obtain ⟨d0, d1, d2, rfl⟩ : ∃ d0 d1 d2, ds = [d0, d1, d2] := by
    obtain ⟨p, q, hA0, _⟩ := hW
    have hA : DataW.TrodAll enc Try.prog W 0 (fun _ => true) true Try.f6.params.toList args.toList ds p := hA0
    rw [Try.params6] at hA
    obtain ⟨v0, vs0, d0, ds0, p0, q0, _, rfl, _, _, r0⟩ := trodAll_cons hA
    obtain ⟨v1, vs1, d1, ds1, p1, q1, _, rfl, _, _, r1⟩ := trodAll_cons r0
    obtain ⟨v2, vs2, d2, ds2, p2, q2, _, rfl, _, _, r2⟩ := trodAll_cons r1
    obtain ⟨_, rfl, _⟩ := trodAll_nil r2
    exact ⟨_, _, _, rfl⟩
  refine (quotaOnward_core enc W base args _ before hval hW hsz hsh).mono fun e W' ⟨he, hb⟩ => ?_
  subst he
  exact ⟨_, rfl, law_post hW rfl (fun t ht => by rw [Try.params6] at ht; simp only [List.mem_cons, List.not_mem_nil, or_false] at ht; rcases ht with rfl | rfl | rfl <;> exact ⟨by kernel_rfl, of_decide_eq_true (by kernel_rfl)⟩) rfl rfl rfl rfl hb⟩
theorem quotaOnward_said : Rows.QuotaOnwardSaid :=
  OpenClaim.holds_of_cond 6 Try.f6 rfl rfl rfl rfl rfl rfl rfl ⟨rfl, rfl, rfl, rfl, rfl⟩ rfl rfl rfl rfl rfl (by kernel_rfl) Try.func6 (by kernel_rfl)
    (of_decide_eq_true (by kernel_rfl)) (by unfold Func.isWrapper; first | (rw [if_pos (by decide +kernel)]; kernel_rfl) | (rw [if_neg (by decide +kernel)]; exact ⟨rfl, rfl⟩))
    (fun os started H enc _ F => by rw [OpenClaim.pre_eq_preRow]; exact quotaOnward_lifted os started H enc F)
end Go.Proofs.Ytejeepmcoafdcaa
