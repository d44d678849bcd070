/-
  TargetPolicies: for every list of texts, every text and every pair of numbers that are together of bulk at most 1048576, TargetPolicies returns true.
-/
import Derived.Test.YthhggganhegfhaaDoorTargetAlive
import Derived.Deep.RegionHeld3
namespace Go.Proofs.YthhggganhegfhaaDoor
open Go.ChangeShapes Go.WideShapes Go.ChangeAt Go.RowKit
open Go.ChangeMaps (open_string shut_string)
set_option linter.unusedVariables false

theorem symP_two (dir : List ByteArray) (text : ByteArray) (mx : Int) : symP dir text 2 mx = ([], 100) := by
  unfold symP; rw [if_pos (by decide)]
theorem symP_eq (dir : List ByteArray) (text : ByteArray) (pol mx : Int) (hp : pol = 0 ∨ pol = 1) : symP dir text pol mx =
    (if text.size = 0 then ([], 90) else if mx < (text.size : Int) then ([], 93) else if hasNul text = true then ([], 91) else if pol = 0 then ([], 0) else
    if text.data.toList.getD 0 0 = 47 then ([], 92) else match climb dir (pieces text) with
      | some a => (a, 0)
      | none => ([], 101) : List ByteArray × Int) := by
  unfold symP; rw [if_neg (fun h => h hp)]; rfl
theorem symP_any (dir : List ByteArray) (text : ByteArray) (mx : Int) : (symP dir text 0 mx).1 = [] := by
  rw [symP_eq _ _ _ _ (Or.inl rfl)]
  split
  · rfl
  · split
    · rfl
    · split
      · rfl
      · rw [if_pos rfl]
theorem symP_policies (dir : List ByteArray) (text : ByteArray) (mx : Int) :
    ((symP dir text 0 mx).2 = 0 ∧ ((symP dir text 1 mx).2 = 0 ∨ (symP dir text 1 mx).2 = 92 ∨ (symP dir text 1 mx).2 = 101)) ∨
    ((symP dir text 0 mx).2 = (symP dir text 1 mx).2 ∧ ((symP dir text 1 mx).2 = 90 ∨ (symP dir text 1 mx).2 = 91 ∨ (symP dir text 1 mx).2 = 93)) := by
  rw [symP_eq _ _ 0 _ (Or.inl rfl), symP_eq _ _ 1 _ (Or.inr rfl)]
  by_cases h1 : text.size = 0
  · rw [if_pos h1, if_pos h1]; exact Or.inr ⟨rfl, Or.inl rfl⟩
  · rw [if_neg h1, if_neg h1]
    by_cases h2 : mx < (text.size : Int)
    · rw [if_pos h2, if_pos h2]; exact Or.inr ⟨rfl, Or.inr (Or.inr rfl)⟩
    · rw [if_neg h2, if_neg h2]
      by_cases h3 : hasNul text = true
      · rw [if_pos h3, if_pos h3]; exact Or.inr ⟨rfl, Or.inr (Or.inl rfl)⟩
      · rw [if_neg h3, if_neg h3, if_pos rfl, if_neg (by decide)]
        by_cases h4 : text.data.toList.getD 0 0 = 47
        · rw [if_pos h4]; exact Or.inl ⟨rfl, Or.inr (Or.inl rfl)⟩
        · rw [if_neg h4]
          cases climb dir (pieces text)
          · exact Or.inl ⟨rfl, Or.inr (Or.inr rfl)⟩
          · exact Or.inl ⟨rfl, Or.inl rfl⟩

set_option maxHeartbeats 8000000 in
theorem targetPolicies_calls (v : Value) (dir : List ByteArray) (text : ByteArray) (a b : Int) (w : World) (h : Rd w strE v dir) (hz : dir.length * 16 ≤ 140737488351232) (hy : text.size ≤ 140737488351232) (hk : tbulk dir + text.size ≤ 1048576) :
    Calls Tryd.prog 5 #[v, .string text, .agg #[.int .i64 a, .int .i64 b]] w (Holds w) := by
  have hl := tbulk_len dir
  obtain ⟨ao, c, rfl⟩ := h.any
  have nb0 := Blk.new w #[.int .i64 a, .int .i64 b] 23
  have b0 : Below w.heap.size w (w.alloc (.cells #[.int .i64 a, .int .i64 b] 23)) := (Below.refl _ _).alloc (Nat.le_refl _) _
  have CPB := Lib.hid (show ∀ wz, Below w.heap.size w wz → Calls Tryd.prog 15 #[.slice ao dir.length c] wz fun e w' => ∃ g k, e = .returned (.slice (some ⟨g, 0, none⟩) dir.length k) ∧ Rd w' strE (.slice (some ⟨g, 0, none⟩) dir.length k) dir ∧ Below wz.heap.size wz w' from fun wz hz' =>
    (copyTexts_calls _ dir wz (h.below hz') (by omega)).mono fun e w' ⟨g, k, he, ho, hb⟩ => ⟨g, k, he, ho.rd, hb⟩)
  have SYB := Lib.hid (show ∀ wz u pol E (m : Nat), (symP dir text pol b).1.length = m → (symP dir text pol b).2 = E → Rd wz strE u dir → Calls Tryd.prog 16 #[u, .string text, .int .i64 pol, .int .i64 b] wz fun e w' => ∃ ao' cap, e = .returned (.tuple #[.slice ao' m cap, .int .i64 E]) ∧ Below wz.heap.size wz w' from fun wz u pol E m hm hE hr => by
    subst hm hE
    exact (sym_calls u dir text pol b wz hr (by omega) (by omega)).mono fun e w' ⟨ao', cap, he, _, hb⟩ => ⟨ao', cap, he, hb⟩)
  have h0 : (symP dir text 0 b).1.length = 0 := by rw [symP_any]; rfl
  have h2 : (symP dir text 2 b).1.length = 0 := by rw [symP_two]; rfl
  have h2' : (symP dir text 2 b).2 = 100 := by rw [symP_two]
  have hP := symP_policies dir text b
  obtain ⟨m, hm⟩ : ∃ m, (symP dir text 1 b).1.length = m := ⟨_, rfl⟩
  obtain ⟨E, hE⟩ : ∃ E, (symP dir text 1 b).2 = E := ⟨_, rfl⟩
  obtain ⟨F, hF⟩ : ∃ F, (symP dir text 0 b).2 = F := ⟨_, rfl⟩
  rw [hE, hF] at hP
  have SY1 := Lib.hid (fun wz u hr => SYB.out wz u 1 E m hm hE hr)
  have SY0 := Lib.hid (fun wz u hr => SYB.out wz u 0 F 0 h0 hF hr)
  have SY2 := Lib.hid (fun wz u hr => SYB.out wz u 2 100 0 h2 h2' hr)
  have HP := Lib.hid hP
  have B0 := Lib.hid b0
  have NB0 := Lib.hid nb0
  clear hP h0 h2 h2' hm hE hF SYB h hz hl b0 nb0 hk
  generalize dir.length = dn at *
  have AL := Lib.hid (fun wz => alive_calls wz)
  go_enter Tryd.func5, Tryd.ntmps5
  go_wp2_with fail
  refine (AL.out _).mono ?_
  rintro e w1 ⟨rfl, hb1⟩
  have B1 := Lib.hid (Below.next B0.out hb1)
  have N1 := Lib.hid (NB0.out.below hb1 NB0.out.lt)
  clear hb1
  go_wp2_with fail
  have MK1 := Lib.hid (show ∀ wz, Below w1.heap.size w1 wz → Below w1.heap.size w1 wz ∧ wz.cell? ⟨w.heap.size, 0, none⟩ = some (.int .i64 a) ∧ wz.cell? ⟨w.heap.size, 1, none⟩ = some (.int .i64 b) from
    fun wz hz' => ⟨hz', (N1.out.below hz' N1.out.lt).cell 0, (N1.out.below hz' N1.out.lt).cell 1⟩)
  go_region_held3 (fun wz => Below w1.heap.size w1 wz ∧ wz.cell? ⟨w.heap.size, 0, none⟩ = some (.int .i64 a) ∧ wz.cell? ⟨w.heap.size, 1, none⟩ = some (.int .i64 b))
    ((refine MK1.out _ ?_; first | exact BX1.out | exact BX1.out.drew | exact Below.refl _ _ | exact (Below.refl _ _).drew))
    (first
      | (go_at_call 15; refine (CPB.out _ (by first | exact B1.out | exact B1.out.drew)).mono ?_; rintro e wx ⟨g, k, rfl, hrx, hbx⟩; have BX1 : Hid (Below w1.heap.size w1 wx) := Lib.hid (Below.next (by first | exact Below.refl _ _ | exact (Below.refl _ _).drew) hbx); have RX1 := Lib.hid hrx; clear hbx hrx)
      | (go_at_call 16; refine (SY1.out _ _ (by first | exact RX1.out | exact RX1.out.drawn ((Drawn.refl _).drew))).mono ?_; rintro e wx ⟨ao', cap', rfl, hbx⟩; have BX1 : Hid (Below w1.heap.size w1 wx) := Lib.hid (Below.next (by first | exact BX1.out | exact BX1.out.drew) hbx); clear hbx))
  rename World => w2
  have B2 := Lib.hid (Below.next B1.out BX1.out)
  have N2 := Lib.hid (N1.out.below BX1.out N1.out.lt)
  clear BX1 MK1 RX1 B1 N1
  go_wp2_with fail
  have MK2 := Lib.hid (show ∀ wz, Below w2.heap.size w2 wz → Below w2.heap.size w2 wz ∧ wz.cell? ⟨w.heap.size, 0, none⟩ = some (.int .i64 a) ∧ wz.cell? ⟨w.heap.size, 1, none⟩ = some (.int .i64 b) from
    fun wz hz' => ⟨hz', (N2.out.below hz' N2.out.lt).cell 0, (N2.out.below hz' N2.out.lt).cell 1⟩)
  go_region_held3 (fun wz => Below w2.heap.size w2 wz ∧ wz.cell? ⟨w.heap.size, 0, none⟩ = some (.int .i64 a) ∧ wz.cell? ⟨w.heap.size, 1, none⟩ = some (.int .i64 b))
    ((refine MK2.out _ ?_; first | exact BX2.out | exact BX2.out.drew | exact Below.refl _ _ | exact (Below.refl _ _).drew))
    (first
      | (go_at_call 15; refine (CPB.out _ (by first | exact B2.out | exact B2.out.drew)).mono ?_; rintro e wx ⟨g, k, rfl, hrx, hbx⟩; have BX2 : Hid (Below w2.heap.size w2 wx) := Lib.hid (Below.next (by first | exact Below.refl _ _ | exact (Below.refl _ _).drew) hbx); have RX2 := Lib.hid hrx; clear hbx hrx)
      | (go_at_call 16; refine (SY0.out _ _ (by first | exact RX2.out | exact RX2.out.drawn ((Drawn.refl _).drew))).mono ?_; rintro e wx ⟨ao', cap', rfl, hbx⟩; have BX2 : Hid (Below w2.heap.size w2 wx) := Lib.hid (Below.next (by first | exact BX2.out | exact BX2.out.drew) hbx); clear hbx))
  rename World => w3
  have B3 := Lib.hid (Below.next B2.out BX2.out)
  have N3 := Lib.hid (N2.out.below BX2.out N2.out.lt)
  clear BX2 MK2 RX2 B2 N2
  go_wp2_with fail
  have MK3 := Lib.hid (show ∀ wz, Below w3.heap.size w3 wz → Below w3.heap.size w3 wz ∧ wz.cell? ⟨w.heap.size, 0, none⟩ = some (.int .i64 a) ∧ wz.cell? ⟨w.heap.size, 1, none⟩ = some (.int .i64 b) from
    fun wz hz' => ⟨hz', (N3.out.below hz' N3.out.lt).cell 0, (N3.out.below hz' N3.out.lt).cell 1⟩)
  go_region_held3 (fun wz => Below w3.heap.size w3 wz ∧ wz.cell? ⟨w.heap.size, 0, none⟩ = some (.int .i64 a) ∧ wz.cell? ⟨w.heap.size, 1, none⟩ = some (.int .i64 b))
    ((refine MK3.out _ ?_; first | exact BX3.out | exact BX3.out.drew | exact Below.refl _ _ | exact (Below.refl _ _).drew))
    (first
      | (go_at_call 15; refine (CPB.out _ (by first | exact B3.out | exact B3.out.drew)).mono ?_; rintro e wx ⟨g, k, rfl, hrx, hbx⟩; have BX3 : Hid (Below w3.heap.size w3 wx) := Lib.hid (Below.next (by first | exact Below.refl _ _ | exact (Below.refl _ _).drew) hbx); have RX3 := Lib.hid hrx; clear hbx hrx)
      | (go_at_call 16; refine (SY2.out _ _ (by first | exact RX3.out | exact RX3.out.drawn ((Drawn.refl _).drew))).mono ?_; rintro e wx ⟨ao', cap', rfl, hbx⟩; have BX3 : Hid (Below w3.heap.size w3 wx) := Lib.hid (Below.next (by first | exact BX3.out | exact BX3.out.drew) hbx); clear hbx))
  rename World => w4
  have B4 := Lib.hid (Below.next B3.out BX3.out)
  have N4 := Lib.hid (N3.out.below BX3.out N3.out.lt)
  clear BX3 MK3 RX3 B3 N3
  rcases HP.out with ⟨rfl, rfl | rfl | rfl⟩ | ⟨rfl, rfl | rfl | rfl⟩
  all_goals go_wp2
  all_goals go_ret
  all_goals exact ⟨rfl, B4.out⟩

theorem targetPolicies_core {H : Type} (enc : TypeId × Value → H) (W : World) (base : Nat) (args : Array Value) (ds : List (DataW H)) (before : List MemPlace)
    (hval : ∀ (j : Nat) t v, Tryd.f5.params[j]? = some t → args[j]? = some v → Value.okWide Tryd.prog W .any base t v)
    (hW : DataW.Whole enc Tryd.prog Tryd.f5.params.toList [] false W args.toList ds [] before) (hk : Rows.uptoSmall H (ds ++ []) = true)
    (hsz : (DataW.weightsEach Tryd.prog (Tryd.f5.params.toList ++ []) (ds ++ [])).all (· ≤ reachBytes) = true) (hL : laidMetH Tryd.prog Rows.targetPoliciesUptoRow.laid W) (hsh : W.ShapedOpen Tryd.prog) :
    Calls Tryd.prog 5 args W (Holds W) := by
  obtain ⟨p, q, hA0, hV, rfl, _, _⟩ := hW
  have hA : DataW.TrodAll enc Tryd.prog W 0 (fun _ => true) true Tryd.f5.params.toList args.toList ds p := hA0
  rw [Tryd.params5] at hA hval hsz
  obtain ⟨v0, vs0, d0, ds0, p0, q0, hargs, rfl, rfl, h0, r0⟩ := trodAll_cons hA
  obtain ⟨v1, vs1, d1, ds1, p1, q1, rfl, rfl, rfl, h1, r1⟩ := trodAll_cons r0
  obtain ⟨v2, vs2, d2, ds2, p2, q2, rfl, rfl, rfl, h2, r2⟩ := trodAll_cons r1
  obtain ⟨rfl, rfl, rfl⟩ := trodAll_nil r2
  obtain rfl : args = #[v0, v1, v2] := by cases args; simp_all
  obtain ⟨a0, rd0, td0, ws0⟩ := open_texts (hval 0 _ v0 rfl rfl) h0
  have z0 := texts_bound hsz (j := 0) rfl rfl td0
  obtain ⟨a1, rfl, rfl, rfl, w1⟩ := open_string Tryd.underlying9 (hval 1 _ v1 rfl rfl) h1
  obtain ⟨a2, b2, rfl⟩ := open_pair (hval 2 _ v2 rfl rfl) h2
  have z1 : a1.size ≤ 140737488351232 := by
    have := sized_string hsz (j := 1) (t := 9) rfl rfl
    rw [Array.length_toList] at this; exact this
  have bk0 : tbulk a0 ≤ Rows.uptoBulk d0 := tbulk_le td0
  have bk1 : a1.size ≤ Rows.uptoBulk (DataW.lit (H := H) (.string a1.data.toList)) := by simp [Rows.uptoBulk]
  have hkk : tbulk a0 + a1.size ≤ 1048576 := by
    have hk2 := of_decide_eq_true hk
    simp only [List.cons_append, List.nil_append, Rows.uptoBulkAll] at hk2
    omega
  exact targetPolicies_calls v0 a0 a1 a2 b2 W rd0 z0 z1 hkk

set_option maxRecDepth 100000 in
theorem targetPolicies_reads (os : Os) {H : Type} (enc : TypeId × Value → H) : ∃ places, DataW.whole enc Tryd.prog ((laidWorld os).forCall (fun _ _ => 0) ⟨#[], #[.slice none 0 0, .string .empty, .agg #[.int .i64 0, .int .i64 0]], []⟩).memory Tryd.f5.params.toList Rows.targetPoliciesSpec.vars false (#[.slice none 0 0, .string .empty, .agg #[.int .i64 0, .int .i64 0]] : Array Value).toList 8 = some ([.nil, .lit (.string []), .agg [.lit (.int .i64 0), .lit (.int .i64 0)]], [], places) :=
  ⟨[], by kernel_rfl⟩
set_option maxRecDepth 100000 in
theorem targetPolicies_lifted (os : Os) (started : os.Started) (H : Type) (enc : TypeId × Value → H) (F : Stop.Interp) :
    ReturnsInHanded {} Tryd.checked os 5 .any ((Rows.OpenSpec.upto Rows.targetPoliciesSpec).preRow enc Tryd.prog Tryd.f5 Rows.targetPoliciesUptoRow.domain false Rows.targetPoliciesUptoRow.laid) (((Rows.OpenSpec.upto Rows.targetPoliciesSpec).at F).post enc Tryd.prog Tryd.f5 false true false false) := by
  obtain ⟨places, hx⟩ := targetPolicies_reads os enc
  refine returnsInHanded_of_row (C := Tryd.checked) (s := Rows.OpenSpec.upto Rows.targetPoliciesSpec) own started (by kernel_rfl) Tryd.func5
    (witness_row_at (enc := enc) (C := Tryd.checked) false (laidWorld os) #[.slice none 0 0, .string .empty, .agg #[.int .i64 0, .int .i64 0]] rfl (by kernel_rfl) (by kernel_rfl) (by kernel_rfl)
      (OpenSpec.preRow_of_cond 8 hx (by kernel_rfl) (fun k hk => by cases hk; kernel_rfl) (by kernel_rfl) (laid_met os _))) ?_
  intro W base args ds gs before hval hW _ hcond hsz hL hsh _
  obtain rfl : gs = [] := by
    obtain ⟨p, q, hA0, hV, _⟩ := hW
    exact (trodVars_none hV).1
  obtain ⟨d0, d1, d2, rfl⟩ : ∃ d0 d1 d2, ds = [d0, d1, d2] := by
    obtain ⟨p, q, hA0, _⟩ := hW
    have hA : DataW.TrodAll enc Tryd.prog W 0 (fun _ => true) true Tryd.f5.params.toList args.toList ds p := hA0
    rw [Tryd.params5] at hA
    obtain ⟨v0, vs0, d0, ds0, p0, q0, _, rfl, _, _, r0⟩ := trodAll_cons hA
    obtain ⟨v1, vs1, d1, ds1, p1, q1, _, rfl, _, _, r1⟩ := trodAll_cons r0
    obtain ⟨v2, vs2, d2, ds2, p2, q2, _, rfl, _, _, r2⟩ := trodAll_cons r1
    obtain ⟨_, rfl, _⟩ := trodAll_nil r2
    exact ⟨_, _, _, rfl⟩
  refine (targetPolicies_core enc W base args _ before hval hW (hcond _ rfl) hsz hL hsh).mono fun e W' ⟨he, hb⟩ => ?_
  subst he
  exact ⟨_, rfl, law_post hW rfl (fun t ht => by rw [Tryd.params5] at ht; simp only [List.mem_cons, List.not_mem_nil, or_false] at ht; rcases ht with rfl | rfl | rfl <;> exact ⟨by kernel_rfl, of_decide_eq_true (by kernel_rfl)⟩) rfl rfl rfl rfl hb⟩
theorem targetPolicies_saidUpto : Rows.TargetPoliciesUptoSaid :=
  OpenClaim.holds_of_cond 5 Tryd.f5 rfl rfl rfl rfl rfl rfl rfl ⟨rfl, rfl, rfl, rfl, rfl⟩ rfl rfl rfl rfl rfl (by kernel_rfl) Tryd.func5 (by kernel_rfl)
    (of_decide_eq_true (by kernel_rfl)) (by unfold Func.isWrapper; first | (rw [if_pos (by decide +kernel)]; kernel_rfl) | (rw [if_neg (by decide +kernel)]; exact ⟨rfl, rfl⟩))
    (fun os started H enc _ F => by rw [OpenClaim.pre_eq_preRow]; exact targetPolicies_lifted os started H enc F)
theorem targetPolicies_plain (f : FuncId) (fn : Func) (hf : Tryd.pinned.checked.prog.funcNamed Tryd.f5.name = some f) (hfn : Tryd.pinned.checked.prog.funcs[f]? = some fn) :
    false = Tryd.pinned.checked.prog.looks [] ∧ ∀ (j : Nat) t, fn.params[j]? = some t → Tryd.pinned.checked.prog.wantsStandIn t = false := by
  obtain rfl : f = 5 := Option.some.inj ((show Tryd.prog.funcNamed Tryd.f5.name = some 5 by kernel_rfl).symm.trans hf) |>.symm
  obtain rfl : fn = Tryd.f5 := (Option.some.inj (Tryd.func5.symm.trans hfn)).symm
  refine ⟨by kernel_rfl, fun j t ht => ?_⟩
  rw [Tryd.params5] at ht
  have hm := Array.mem_of_getElem? ht
  simp only [List.mem_toArray, List.mem_cons, List.not_mem_nil, or_false] at hm
  rcases hm with rfl | rfl | rfl
  · exact (show Tryd.prog.wantsStandIn 22 = false by kernel_rfl)
  · exact (show Tryd.prog.wantsStandIn 9 = false by kernel_rfl)
  · exact (show Tryd.prog.wantsStandIn 23 = false by kernel_rfl)
theorem targetPolicies_card : Rows.TargetPoliciesUptoCardSaid :=
  Claim7.holds_tied_plain_at .later [] _ _ _ _ targetPolicies_saidUpto (fun _ h => by cases h) (by kernel_rfl) (fun _ h => by cases h) targetPoliciesUpto_row_tie rfl ⟨rfl, rfl⟩ (by kernel_rfl) rfl targetPolicies_plain (by kernel_rfl)
end Go.Proofs.YthhggganhegfhaaDoor
