/-
  QuotaBounds: for every configuration and every list of batches, QuotaBounds returns true. No condition.
-/
import Derived.Test.YtejeepmcoafdcaaQuotaKit
namespace Go.Proofs.Ytejeepmcoafdcaa
open Go.ChangeShapes Go.WideShapes Go.ChangeAt Go.RowKit
set_option linter.unusedVariables false

/-- what a round keeps: C the configuration's block, M the meter -/
def NInv (w wr : World) (M C : Nat) (mE mB e b : Int) (cs : Array Value) : Prop :=
  Fine e ∧ Fine b ∧ Within1 mE e ∧ Within1 mB b ∧ Mt wr M mE mB e b ∧ Blk wr C cs 24 ∧ Below w.heap.size w wr

set_option maxRecDepth 100000 in
set_option maxHeartbeats 2000000 in
theorem quotaBounds_calls (v1 : Value) (mE mB : Int) (v2 : Value) (bs : List (List (Int × Int))) (w : World) (hc : Cfg v1 mE mB) (h : RdB w v2 bs) (hz : ∀ xs ∈ bs, xs.length * 16 ≤ 140737488351232) :
    Calls Try.prog 5 #[v1, v2] w (Holds w) := by
  obtain ⟨hE, hB, c2, c3, c4, c5, c6, c7, c8, c9, c10, c11, c12, rfl⟩ := hc
  obtain ⟨ao, cc, rfl⟩ := h.any
  have HR := Lib.hid h
  have HL := Lib.hid h.len
  have HP := Lib.hid (show IsInt mE ∧ IsInt mB from ⟨hE, hB⟩)
  clear h hE hB hz
  go_enter Try.func5, Try.ntmps5
  go_wp2_with fail
  refine (alive_calls _).mono ?_
  rintro e w1 ⟨rfl, hb1⟩
  have b0 := Blk.new w #[.int .i64 mE, .int .i64 mB, c2, c3, c4, c5, c6, c7, c8, c9, c10, c11, c12] 24
  have s0 := b0.lt
  have b1 := b0.below hb1 s0
  have hb1' := ((Below.refl w.heap.size w).alloc (Nat.le_refl _) (Obj.cells #[.int .i64 mE, .int .i64 mB, c2, c3, c4, c5, c6, c7, c8, c9, c10, c11, c12] 24)).trans (hb1.mono (by simp))
  clear hb1 b0 s0
  obtain ⟨k0, k1, k2, k3, k4, k5, k6, k7, k8, k9, k10, k11, k12⟩ := cells13 b1
  have B1 := Lib.hid b1
  have X1 := Lib.hid hb1'
  clear b1 hb1'
  go_wp2_with fail
  refine (new_calls mE mB _ _ _ _ _ _ _ _ _ _ _ w1).mono ?_
  clear k0 k1 k2 k3 k4 k5 k6 k7 k8 k9 k10 k11 k12
  rintro e w2 ⟨M, rfl, hM, hm, hb2⟩
  have b2 := B1.out.below hb2 B1.out.lt
  have HM := Lib.hid (show w.heap.size < M from Nat.lt_of_lt_of_le B1.out.lt hM)
  have I0 := Lib.hid (show NInv w w2 M w.heap.size mE mB 0 0 _ from ⟨by unfold Fine; omega, by unfold Fine; omega, fun h => absurd h (by omega), fun h => absurd h (by omega), hm, b2, X1.out.trans (hb2.mono X1.out.size)⟩)
  clear b2 hb2 hm hM X1 B1
  clear w1
  generalize hC : w.heap.size = C at *
  have EC := Lib.hid hC
  clear hC
  generalize hN : bs.length = N at *
  have EN := Lib.hid hN
  clear hN
  go_wp2_with fail
  go_loopg [6, 7, 8] N (fun g s6 s7 s8 wr => ∃ k : Nat, k ≤ N ∧ N - k ≤ g ∧ s8 = .int .i64 k ∧ ∃ e b, s6 = .int .i64 e ∧ s7 = .int .i64 b ∧ NInv w wr M C mE mB e b #[.int .i64 mE, .int .i64 mB, c2, c3, c4, c5, c6, c7, c8, c9, c10, c11, c12])
  case atStart => exact ⟨0, Nat.zero_le _, by omega, rfl, 0, 0, rfl, rfl, I0.out⟩
  case round =>
    obtain ⟨k, hk, hg, rfl, e, b, rfl, rfl, hI⟩ := hrel
    have I := Lib.hid hI
    clear hI
    have h63 : N ≤ 9223372036854775807 := HL.out
    by_cases hlt : k < N
    · obtain ⟨bb, oo, rfl, hbl, hcs⟩ := HR.out.at (by have := EN.out; omega)
      obtain ⟨ai, ci, q0, q1, _⟩ := hcs k (by have := EN.out; omega)
      generalize bs.getD k [] = xs at *
      have hb := I.out.2.2.2.2.2.2
      have g0 : wr.cell? ⟨bb, oo + k, none⟩ = some (.slice ai xs.length ci) := by rw [hb.cell hbl, q0]
      have QX := Lib.hid q1
      have HB := Lib.hid hbl
      have C1 := Lib.hid (batch_calls wr M mE mB e b ai xs.length ci xs I.out.2.2.2.2.1 HP.out.1 HP.out.2 I.out.1 I.out.2.1 (q1.below hb) (q1.off (by have := HM.out; have := EC.out; omega)))
      have D1 := Lib.hid (batch_done (mE := mE) (mB := mB) xs e b)
      have F1 := Lib.hid (batch_fine HP.out.1 HP.out.2 xs I.out.1 I.out.2.1)
      have R1 := Lib.hid (batch_rises xs I.out.2.2.1 I.out.2.2.2.1)
      have hcap := q1.cap.2
      have hxl : xs.length ≤ 9223372036854775807 := Nat.le_trans hcap.1 hcap.2
      clear hcs q0 q1 hb hcap hbl
      generalize batch mE mB xs e b = r at *
      obtain ⟨d, er, e1, b1⟩ := r
      replace D1 := Lib.hid (show d ≤ xs.length ∧ (er = 0 ↔ d = xs.length) from D1.out)
      replace F1 := Lib.hid (show Fine e1 ∧ Fine b1 from F1.out)
      replace R1 := Lib.hid (show e ≤ e1 ∧ b ≤ b1 ∧ Within1 mE e1 ∧ Within1 mB b1 from R1.out)
      generalize xs.length = n at *
      go_wp2_with fail
      refine C1.out.mono ?_
      rintro x w5 ⟨rfl, hm, ho⟩
      have J := Lib.hid (show NInv w w5 M C mE mB e1 b1 #[.int .i64 mE, .int .i64 mB, c2, c3, c4, c5, c6, c7, c8, c9, c10, c11, c12] from
        ⟨F1.out.1, F1.out.2, R1.out.2.2.1, R1.out.2.2.2, hm, I.out.2.2.2.2.2.1.only ho (by have := HM.out; omega), I.out.2.2.2.2.2.2.trans (ho.below (by have := HM.out; have := EC.out; omega) I.out.2.2.2.2.2.2.size)⟩)
      have g1 : w5.cell? ⟨bb, oo + k, none⟩ = some (.slice ai n ci) := by rw [World.cell?_of_block (ho.block bb (lt_of_cell g0) (by have := HM.out; have := HB.out; have := EC.out; show bb ≠ M; omega)), g0]
      clear hm ho g0
      have hd := D1.out.1
      have r1 := R1.out.1
      have r2 := R1.out.2.1
      have kC := J.out.2.2.2.2.2.1
      have k0 := Blk.cell kC 0
      have k1 := Blk.cell kC 1
      simp at k0 k1
      clear C1 kC
      have hb5 := J.out.2.2.2.2.2.2.size
      have W1 := R1.out.2.2.1
      have W2 := R1.out.2.2.2
      unfold Within1 at W1 W2
      have split : (0 < e1 ∧ e1 ≤ mE) ∨ e1 ≤ 0 := by omega
      have split' : (0 < b1 ∧ b1 ≤ mB) ∨ b1 ≤ 0 := by omega
      have hdn : (d = n ∧ er = 0) ∨ (¬ d = n ∧ ¬ er = 0) := by
        have := D1.out.2
        by_cases h : d = n
        · exact Or.inl ⟨h, this.2 h⟩
        · exact Or.inr ⟨h, fun e => h (this.1 e)⟩
      clear W1 W2
      rcases hdn with ⟨rfl, rfl⟩ | ⟨hn1, hn2⟩
      case' inr =>
        have t1 : (er == 0) = false := by simp [hn2]
        have t2 : ((d : Int) == (n : Int)) = false := by simp; omega
        replace hn1 := Lib.hid hn1
        replace hn2 := Lib.hid hn2
      all_goals
        rcases split with ⟨s1, s2⟩ | s1
        all_goals
          rcases split' with ⟨s3, s4⟩ | s3
          all_goals
            go_wp2_with fail
            refine (entries_calls _ M mE mB e1 b1 J.out.2.2.2.2.1).mono ?_
            rintro e w8 ⟨rfl, rfl⟩
            go_wp2_with fail
            refine (written_calls _ M mE mB e1 b1 J.out.2.2.2.2.1).mono ?_
            rintro e w8 ⟨rfl, rfl⟩
            go_wp2_with fail
            go_roundg (N - (k + 1))
            case measure => omega
            case rel => exact ⟨k + 1, by omega, by omega, by go_num, e1, b1, rfl, rfl, J.out⟩
    · obtain rfl : k = N := by omega
      have HX := Lib.hid I.out.2.2.2.2.2.2
      go_wp2
      go_ret
      exact ⟨rfl, HX.out⟩
theorem quotaBounds_core {H : Type} (enc : TypeId × Value → H) (W : World) (base : Nat) (args : Array Value) (ds : List (DataW H)) (before : List MemPlace)
    (hval : ∀ (j : Nat) t v, Try.f5.params[j]? = some t → args[j]? = some v → Value.okWide Try.prog W .any base t v)
    (hW : DataW.Whole enc Try.prog Try.f5.params.toList [] false W args.toList ds [] before)
    (hsz : (DataW.weightsEach Try.prog (Try.f5.params.toList ++ []) (ds ++ [])).all (· ≤ reachBytes) = true) (hsh : W.ShapedOpen Try.prog) :
    Calls Try.prog 5 args W (Holds W) := by
  obtain ⟨p, q, hA0, hV, rfl, _, _⟩ := hW
  have hA : DataW.TrodAll enc Try.prog W 0 (fun _ => true) true Try.f5.params.toList args.toList ds p := hA0
  rw [Try.params5] at hA hval hsz
  obtain ⟨v0, vs0, d0, ds0, p0, q0, hargs, rfl, rfl, h0, r0⟩ := trodAll_cons hA
  obtain ⟨v1, vs1, d1, ds1, p1, q1, rfl, rfl, rfl, h1, r1⟩ := trodAll_cons r0
  obtain ⟨rfl, rfl, rfl⟩ := trodAll_nil r1
  obtain rfl : args = #[v0, v1] := by cases args; simp_all
  obtain ⟨a0, b0, rd0⟩ := open_cfg (hval 0 _ v0 rfl rfl) h0
  obtain ⟨a1, rd1, td1⟩ := open_batches (hval 1 _ v1 rfl rfl) h1
  have z1 := batches_bound hsz (j := 1) rfl rfl td1
  exact quotaBounds_calls v0 a0 b0 v1 a1 W rd0 rd1 z1

set_option maxRecDepth 100000 in
theorem quotaBounds_reads (os : Os) {H : Type} (enc : TypeId × Value → H) : ∃ places, DataW.whole enc Try.prog ((World.holding Try.prog os ⟨#[], #[], []⟩).forCall (fun _ _ => 0) ⟨#[], #[.agg #[.int .i64 0, .int .i64 0, .int .i64 0, .int .i64 0, .int .i64 0, .int .i64 0, .int .i64 0, .int .i64 0, .int .i64 0, .bool false, .bool false, .slice none 0 0, .slice none 0 0], .slice none 0 0], []⟩).memory Try.f5.params.toList Rows.quotaBoundsSpec.vars false (#[.agg #[.int .i64 0, .int .i64 0, .int .i64 0, .int .i64 0, .int .i64 0, .int .i64 0, .int .i64 0, .int .i64 0, .int .i64 0, .bool false, .bool false, .slice none 0 0, .slice none 0 0], .slice none 0 0] : Array Value).toList 8 = some ([.agg [.lit (.int .i64 0), .lit (.int .i64 0), .lit (.int .i64 0), .lit (.int .i64 0), .lit (.int .i64 0), .lit (.int .i64 0), .lit (.int .i64 0), .lit (.int .i64 0), .lit (.int .i64 0), .lit (.bool false), .lit (.bool false), .nil, .nil], .nil], [], places) :=
  ⟨[], by kernel_rfl⟩
set_option maxRecDepth 100000 in
theorem quotaBounds_lifted (os : Os) (started : os.Started) (H : Type) (enc : TypeId × Value → H) (F : Stop.Interp) :
    ReturnsInHanded {} Try.checked os 5 .any ((OpenSpec.ofChange Rows.quotaBoundsSpec).preRow enc Try.prog Try.f5 Rows.quotaBoundsRow.domain false Rows.quotaBoundsRow.laid) (((OpenSpec.ofChange Rows.quotaBoundsSpec).at F).post enc Try.prog Try.f5 false true false false) := by
  obtain ⟨places, hx⟩ := quotaBounds_reads os enc
  refine returnsInHanded_of_row (C := Try.checked) (s := OpenSpec.ofChange Rows.quotaBoundsSpec) own started (by kernel_rfl) Try.func5
    (witness_row_at (enc := enc) (C := Try.checked) false (World.holding Try.prog os ⟨#[], #[], []⟩) #[.agg #[.int .i64 0, .int .i64 0, .int .i64 0, .int .i64 0, .int .i64 0, .int .i64 0, .int .i64 0, .int .i64 0, .int .i64 0, .bool false, .bool false, .slice none 0 0, .slice none 0 0], .slice none 0 0] rfl (by kernel_rfl) (by kernel_rfl) (by kernel_rfl)
      (OpenSpec.preRow_of_cond 8 hx (by kernel_rfl) (fun k hk => by cases hk) (by kernel_rfl) (laidMetH_nil _ _))) ?_
  intro W base args ds gs before hval hW _ hcond hsz hL hsh _
  obtain rfl : gs = [] := by
    obtain ⟨p, q, hA0, hV, _⟩ := hW
    exact (trodVars_none hV).1
  obtain ⟨d0, d1, rfl⟩ : ∃ d0 d1, ds = [d0, d1] := by
    obtain ⟨p, q, hA0, _⟩ := hW
    have hA : DataW.TrodAll enc Try.prog W 0 (fun _ => true) true Try.f5.params.toList args.toList ds p := hA0
    rw [Try.params5] at hA
    obtain ⟨v0, vs0, d0, ds0, p0, q0, _, rfl, _, _, r0⟩ := trodAll_cons hA
    obtain ⟨v1, vs1, d1, ds1, p1, q1, _, rfl, _, _, r1⟩ := trodAll_cons r0
    obtain ⟨_, rfl, _⟩ := trodAll_nil r1
    exact ⟨_, _, rfl⟩
  refine (quotaBounds_core enc W base args _ before hval hW hsz hsh).mono fun e W' ⟨he, hb⟩ => ?_
  subst he
  exact ⟨_, rfl, law_post hW rfl (fun t ht => by rw [Try.params5] at ht; simp only [List.mem_cons, List.not_mem_nil, or_false] at ht; rcases ht with rfl | rfl <;> exact ⟨by kernel_rfl, of_decide_eq_true (by kernel_rfl)⟩) rfl rfl rfl rfl hb⟩
theorem quotaBounds_said : Rows.QuotaBoundsSaid :=
  OpenClaim.holds_of_cond 5 Try.f5 rfl rfl rfl rfl rfl rfl rfl ⟨rfl, rfl, rfl, rfl, rfl⟩ rfl rfl rfl rfl rfl (by kernel_rfl) Try.func5 (by kernel_rfl)
    (of_decide_eq_true (by kernel_rfl)) (by unfold Func.isWrapper; first | (rw [if_pos (by decide +kernel)]; kernel_rfl) | (rw [if_neg (by decide +kernel)]; exact ⟨rfl, rfl⟩))
    (fun os started H enc _ F => by rw [OpenClaim.pre_eq_preRow]; exact quotaBounds_lifted os started H enc F)
end Go.Proofs.Ytejeepmcoafdcaa
