/-
  RouteBehind: for every two names that are together of bulk at most 1048576, RouteBehind returns true.
-/
import Derived.Test.YthhggganhegfhaaDoorRouteAlive
import Derived.ShutString
namespace Go.Proofs.YthhggganhegfhaaDoor
open Go.ChangeShapes Go.WideShapes Go.ChangeAt Go.RowKit
open Go.ChangeMaps (open_string shut_string)
set_option linter.unusedVariables false

abbrev mostI : Int := 1152921504606846976
def ysOf (s : ByteArray) : List ByteArray := (pieces s).filter keepB
theorem ysOf_len (s : ByteArray) : (ysOf s).length ≤ s.size + 1 := by
  unfold ysOf pieces
  have h1 := pcs_len s.data.toList
  rw [show s.data.toList.length = s.size from Array.length_toList] at h1
  have h2 := List.length_filter_le keepB ((pcs s.data.toList).map txt)
  rw [List.length_map] at h2
  exact Nat.le_trans h2 h1
theorem splitP_most (s : ByteArray) (hs : s.size ≤ 16777216) : splitP s mostI mostI =
    (if s.size = 0 then ([], 90) else if hasNul s = true then ([], 91) else if s.data.toList.getD 0 0 = 47 then ([], 92) else
      if hasB dots2 (ysOf s) = true then ([], 94) else if (ysOf s).any wide = true then ([], 95) else (ysOf s, 0) : List ByteArray × Int) := by
  have h1 := ysOf_len s
  unfold splitP splitIn
  rw [if_neg (show ¬ (mostI < (s.size : Int)) by unfold mostI; omega), if_neg (show ¬ (mostI < (((pieces s).filter keepB).length : Int)) by
    have : ((pieces s).filter keepB).length ≤ s.size + 1 := h1
    unfold mostI; omega)]
  rfl
def cat (a b : ByteArray) : ByteArray := (a ++ ⟨#[47]⟩) ++ b
theorem cat_data (a b : ByteArray) : (cat a b).data.toList = a.data.toList ++ 47 :: b.data.toList := by
  unfold cat
  rw [ByteArray.data_append, Array.toList_append, ByteArray.data_append, Array.toList_append]
  simp
theorem size_list (s : ByteArray) : s.size = s.data.toList.length := (Array.length_toList).symm
theorem cat_size (a b : ByteArray) : (cat a b).size = a.size + 1 + b.size := by
  rw [size_list, cat_data, List.length_append, List.length_cons, ← size_list, ← size_list]; omega
theorem cat_ys (a b : ByteArray) : ysOf (cat a b) = ysOf a ++ ysOf b := by
  unfold ysOf pieces
  rw [cat_data, pcs_append, List.map_append, List.filter_append]
theorem index_nonneg_or : ∀ (l m : List UInt8), (0 ≤ Lib.indexByte (l ++ m) 0) ↔ (0 ≤ Lib.indexByte l 0) ∨ 0 ≤ Lib.indexByte m 0
  | [], m => by simp [Lib.indexByte]
  | c :: l, m => by
    have ih := index_nonneg_or l m
    rw [List.cons_append, Lib.indexByte, Lib.indexByte]
    by_cases hc : c = 0
    · simp [hc]
    · have hcb : (c == 0) = false := by simpa using hc
      have g1 := Lib.indexByte_ge (l ++ m) 0
      have g2 := Lib.indexByte_ge l 0
      simp only [hcb, Bool.false_eq_true, if_false]
      by_cases e1 : Lib.indexByte (l ++ m) 0 = -1 <;> by_cases e2 : Lib.indexByte l 0 = -1
      · simp only [e1, e2, beq_self_eq_true, if_true]
        rw [e1, e2] at ih
        exact ih
      · have k2 : (Lib.indexByte l 0 == -1) = false := by simpa using e2
        simp only [e1, k2, beq_self_eq_true, if_true, Bool.false_eq_true, if_false]
        omega
      · have k1 : (Lib.indexByte (l ++ m) 0 == -1) = false := by simpa using e1
        simp only [e2, k1, beq_self_eq_true, if_true, Bool.false_eq_true, if_false]
        omega
      · have k1 : (Lib.indexByte (l ++ m) 0 == -1) = false := by simpa using e1
        have k2 : (Lib.indexByte l 0 == -1) = false := by simpa using e2
        simp only [k1, k2, Bool.false_eq_true, if_false]
        omega
theorem cat_nul (a b : ByteArray) : hasNul (cat a b) = (hasNul a || hasNul b) := by
  unfold hasNul
  rw [cat_data]
  have h := index_nonneg_or a.data.toList (47 :: b.data.toList)
  have h2 : (0 ≤ Lib.indexByte (47 :: b.data.toList) 0) ↔ 0 ≤ Lib.indexByte b.data.toList 0 := by
    have := index_nonneg_or [47] b.data.toList
    simpa [Lib.indexByte] using this
  rw [h2] at h
  by_cases q1 : 0 ≤ Lib.indexByte a.data.toList 0 <;> by_cases q2 : 0 ≤ Lib.indexByte b.data.toList 0 <;> simp [q1, q2, h]
theorem cat_first (a b : ByteArray) (h : a.size ≠ 0) : (cat a b).data.toList.getD 0 0 = a.data.toList.getD 0 0 := by
  rw [cat_data]
  cases e : a.data.toList with
  | nil => rw [size_list, e] at h; exact absurd rfl h
  | cons c l => rfl
theorem cat_first0 (a b : ByteArray) (h : a.size = 0) : (cat a b).data.toList.getD 0 0 = 47 := by
  rw [cat_data]
  have : a.data.toList = [] := List.eq_nil_of_length_eq_zero (by rw [← size_list]; exact h)
  rw [this]; rfl
theorem hasB_app (p : ByteArray) (xs ys : List ByteArray) : hasB p (xs ++ ys) = (hasB p xs || hasB p ys) := by
  unfold hasB; rw [List.any_append]

/-- what the law says of the three answers -/
theorem behind (a b : ByteArray) (ha : a.size + b.size ≤ 1048576) :
    ((splitP a mostI mostI).2 ≠ 0 → ((splitP a mostI mostI).2 = 90 ∧ (splitP (cat a b) mostI mostI).2 = 92) ∨ (splitP (cat a b) mostI mostI).2 ≠ 0) ∧
    ((splitP a mostI mostI).2 = 0 → (splitP b mostI mostI).2 = 90 ∨ (splitP b mostI mostI).2 = 92 ∨
      ((splitP b mostI mostI).2 ≠ 0 ∧ (splitP b mostI mostI).2 ≠ 90 ∧ (splitP b mostI mostI).2 ≠ 92 ∧ (splitP (cat a b) mostI mostI).2 = (splitP b mostI mostI).2) ∨
      ((splitP b mostI mostI).2 = 0 ∧ (splitP (cat a b) mostI mostI).2 = 0 ∧ (splitP (cat a b) mostI mostI).1 = (splitP a mostI mostI).1 ++ (splitP b mostI mostI).1)) := by
  rw [splitP_most a (by omega), splitP_most b (by omega), splitP_most (cat a b) (by rw [cat_size]; omega), cat_ys, cat_nul, hasB_app, List.any_append]
  have hsz : ¬ (cat a b).size = 0 := by rw [cat_size]; omega
  rw [if_neg hsz]
  by_cases a0 : a.size = 0
  · rw [if_pos a0, cat_first0 a b a0]
    refine ⟨fun _ => ?_, fun h => by simp at h⟩
    have : hasNul a = false := by
      have : a.data.toList = [] := List.eq_nil_of_length_eq_zero (by rw [← size_list]; exact a0)
      unfold hasNul; rw [this]; rfl
    rw [this]
    cases hasNul b <;> simp
  · rw [if_neg a0, cat_first a b a0]
    generalize a.data.toList.getD 0 0 = fa
    generalize b.data.toList.getD 0 0 = fb
    generalize ysOf a = A
    generalize ysOf b = B
    generalize hasB dots2 A = u
    generalize hasB dots2 B = u'
    generalize A.any wide = v
    generalize B.any wide = v'
    generalize hasNul a = na
    generalize hasNul b = nb
    by_cases b0 : b.size = 0
    · rw [if_pos b0]
      by_cases a1 : fa = 47 <;> cases na <;> cases nb <;> cases u <;> cases u' <;> cases v <;> cases v' <;> simp [a1]
    · rw [if_neg b0]
      by_cases a1 : fa = 47 <;> by_cases b1 : fb = 47 <;> cases na <;> cases nb <;> cases u <;> cases u' <;> cases v <;> cases v' <;> simp [a1, b1]

set_option maxHeartbeats 4000000 in
theorem routeBehind_calls (a b : ByteArray) (hz1 : a.size ≤ 140737488351232) (hz2 : b.size ≤ 140737488351232) (hk : a.size + b.size ≤ 1048576) (w : World) :
    Calls Tryd.prog 8 #[.string a, .string b] w (Holds w) := by
  have AL := Lib.hid (fun wz => rAlive_calls wz)
  have hc := cat_size a b
  have S1 := Lib.hid (fun wz => splitP_calls a mostI mostI wz (by omega))
  have S2 := Lib.hid (fun wz => splitP_calls b mostI mostI wz (by omega))
  have S3 := Lib.hid (fun wz => splitP_calls (cat a b) mostI mostI wz (by omega))
  have hB := behind a b hk
  have l1 : (splitP a mostI mostI).1.length ≤ 1048577 := by
    rw [splitP_most a (by omega)]
    have := ysOf_len a
    repeat' split
    all_goals first | (simp; done) | (simp; omega)
  have l2 : (splitP b mostI mostI).1.length ≤ 1048577 := by
    rw [splitP_most b (by omega)]
    have := ysOf_len b
    repeat' split
    all_goals first | (simp; done) | (simp; omega)
  have CAT := Lib.hid (show (a ++ ⟨#[47]⟩) ++ b = cat a b from rfl)
  generalize cat a b = ab at *
  unfold mostI at *
  generalize splitP a 1152921504606846976 1152921504606846976 = P at *
  generalize splitP b 1152921504606846976 1152921504606846976 = Q at *
  generalize splitP ab 1152921504606846976 1152921504606846976 = G at *
  obtain ⟨p, e⟩ := P
  obtain ⟨q, f⟩ := Q
  obtain ⟨bo, g⟩ := G
  simp only at hB l1 l2
  have HB := Lib.hid hB
  clear hB hc
  go_enter Tryd.func8, Tryd.ntmps8
  go_wp2_with fail
  refine (AL.out _).mono ?_
  rintro x w1 ⟨rfl, hb1⟩
  have B1 := Lib.hid hb1
  go_wp2_with fail
  refine (S1.out _).mono ?_
  rintro x w2 ⟨ao2, c2, rfl, ho2, hb2⟩
  have R2 := Lib.hid ho2.rd'
  have B2 := Lib.hid (Below.next B1.out hb2)
  clear ho2 hb1 hb2
  go_wp2_with fail
  refine (S2.out _).mono ?_
  rintro x w3 ⟨ao3, c3, rfl, ho3, hb3⟩
  have R3 := Lib.hid ho3.rd'
  have R2' := Lib.hid (R2.out.below hb3)
  have B3 := Lib.hid (Below.next B2.out hb3)
  clear ho3 hb3 R2
  go_wp2_with fail
  rw [CAT.out]
  refine (S3.out _).mono ?_
  rintro x w4 ⟨ao4, c4, rfl, ho4, hb4⟩
  have R4 := Lib.hid ho4.rd'
  have R2 := Lib.hid (R2'.out.below hb4)
  have R3' := Lib.hid (R3.out.below hb4)
  have B4 := Lib.hid (Below.next B3.out hb4)
  clear ho4 hb4 R2' R3
  simp only
  by_cases e0 : e = 0
  · subst e0
    rcases HB.out.2 rfl with h | h | ⟨h1, h2, h3, h4⟩ | ⟨h1, h2, h3⟩
    · subst h
      go_wp2
      go_ret
      exact ⟨rfl, B4.out⟩
    · subst h
      go_wp2
      go_ret
      exact ⟨rfl, B4.out⟩
    · subst h4
      have k1 : (g == 0) = false := beq_eq_false_iff_ne.2 h1
      have k2 : (g == 90) = false := beq_eq_false_iff_ne.2 h2
      have k3 : (g == 92) = false := beq_eq_false_iff_ne.2 h3
      have k4 : (g != 0) = true := bne_iff_ne.2 h1
      clear h1 h2 h3
      go_wp2
      go_ret
      exact ⟨by simp, B4.out⟩
    · subst h1 h2
      have H3 := Lib.hid h3
      clear h3
      go_wp2_with fail
      refine (copyTexts_calls _ p w4 R2.out (by omega)).mono ?_
      rintro x w5 ⟨g5, k5, rfl, ho5, hb5⟩
      have R3'' := Lib.hid (R3'.out.below hb5)
      have R4' := Lib.hid (R4.out.below hb5)
      have B5 := Lib.hid (Below.next B4.out hb5)
      have hsz5 := hb5.size
      go_wp2_with (at_builtin; refine wpList_push_all _ rfl (.tmp 57) (.tmp 58) 22 rfl w4.heap.size 9 (.string ⟨#[]⟩) 16 strE Tryd.underlying22 Tryd.info9 rfl g5 p.length k5 p q _ rfl ho5 rfl R3''.out (fun _ => rfl) (by omega) (by unfold maxLen; omega) hsz5 ?_; intro g6 cap6 w6 ho6 hb6)
      have R6 := Lib.hid ho6.rd
      have B6 := Lib.hid (B5.out.trans (hb6.mono B4.out.size))
      have R4'' := Lib.hid (show Rd w6 strE (.slice ao4 bo.length c4) bo from R4.out.below ((hb5.trans (hb6)) ))
      clear ho5 hb5 hb6 ho6
      go_wp2_with fail
      refine (sameTexts_calls _ _ _ _ _ R4''.out R6.out).mono ?_
      rintro x w7 ⟨rfl, hd⟩
      rw [H3.out]
      go_wp2
      go_ret
      exact ⟨by simp, B6.out.trans (hd.below _)⟩
  · have k0 : (e == 0) = false := beq_eq_false_iff_ne.2 e0
    have k1 : (e != 0) = true := bne_iff_ne.2 e0
    rcases HB.out.1 e0 with ⟨rfl, rfl⟩ | h
    · clear k0 k1
      go_wp2
      go_ret
      exact ⟨rfl, B4.out⟩
    · have k2 : (g != 0) = true := bne_iff_ne.2 h
      go_wp2
      all_goals go_ret
      all_goals exact ⟨by simp, B4.out⟩

theorem routeBehind_core {H : Type} (enc : TypeId × Value → H) (W : World) (base : Nat) (args : Array Value) (ds : List (DataW H)) (before : List MemPlace)
    (hval : ∀ (j : Nat) t v, Tryd.f8.params[j]? = some t → args[j]? = some v → Value.okWide Tryd.prog W .any base t v)
    (hW : DataW.Whole enc Tryd.prog Tryd.f8.params.toList [] false W args.toList ds [] before) (hk : Rows.uptoSmall H (ds ++ []) = true)
    (hsz : (DataW.weightsEach Tryd.prog (Tryd.f8.params.toList ++ []) (ds ++ [])).all (· ≤ reachBytes) = true) (hL : laidMetH Tryd.prog Rows.routeBehindUptoRow.laid W) (hsh : W.ShapedOpen Tryd.prog) :
    Calls Tryd.prog 8 args W (Holds W) := by
  obtain ⟨p, q, hA0, hV, rfl, _, _⟩ := hW
  have hA : DataW.TrodAll enc Tryd.prog W 0 (fun _ => true) true Tryd.f8.params.toList args.toList ds p := hA0
  rw [Tryd.params8] at hA hval hsz
  obtain ⟨v0, vs0, d0, ds0, p0, q0, hargs, rfl, rfl, h0, r0⟩ := trodAll_cons hA
  obtain ⟨v1, vs1, d1, ds1, p1, q1, rfl, rfl, rfl, h1, r1⟩ := trodAll_cons r0
  obtain ⟨rfl, rfl, rfl⟩ := trodAll_nil r1
  obtain rfl : args = #[v0, v1] := by cases args; simp_all
  obtain ⟨a0, rfl, rfl, rfl, w0⟩ := open_string Tryd.underlying9 (hval 0 _ v0 rfl rfl) h0
  obtain ⟨a1, rfl, rfl, rfl, w1⟩ := open_string Tryd.underlying9 (hval 1 _ v1 rfl rfl) h1
  have z0 : a0.size ≤ 140737488351232 := by
    have := sized_string hsz (j := 0) (t := 9) rfl rfl
    rw [Array.length_toList] at this; exact this
  have z1 : a1.size ≤ 140737488351232 := by
    have := sized_string hsz (j := 1) (t := 9) rfl rfl
    rw [Array.length_toList] at this; exact this
  have bk0 : a0.size ≤ Rows.uptoBulk (DataW.lit (H := H) (.string a0.data.toList)) := by simp [Rows.uptoBulk]
  have bk1 : a1.size ≤ Rows.uptoBulk (DataW.lit (H := H) (.string a1.data.toList)) := by simp [Rows.uptoBulk]
  have hkk : a0.size + a1.size ≤ 1048576 := by
    have hk2 := of_decide_eq_true hk
    simp only [List.cons_append, List.nil_append, Rows.uptoBulkAll] at hk2
    omega
  exact routeBehind_calls a0 a1 z0 z1 hkk W

set_option maxRecDepth 100000 in
theorem routeBehind_reads (os : Os) {H : Type} (enc : TypeId × Value → H) : ∃ places, DataW.whole enc Tryd.prog ((laidWorld os).forCall (fun _ _ => 0) ⟨#[], #[.string .empty, .string .empty], []⟩).memory Tryd.f8.params.toList Rows.routeBehindSpec.vars false (#[.string .empty, .string .empty] : Array Value).toList 8 = some ([.lit (.string []), .lit (.string [])], [], places) :=
  ⟨[], by kernel_rfl⟩
set_option maxRecDepth 100000 in
theorem routeBehind_lifted (os : Os) (started : os.Started) (H : Type) (enc : TypeId × Value → H) (F : Stop.Interp) :
    ReturnsInHanded {} Tryd.checked os 8 .any ((Rows.OpenSpec.upto Rows.routeBehindSpec).preRow enc Tryd.prog Tryd.f8 Rows.routeBehindUptoRow.domain false Rows.routeBehindUptoRow.laid) (((Rows.OpenSpec.upto Rows.routeBehindSpec).at F).post enc Tryd.prog Tryd.f8 false true false false) := by
  obtain ⟨places, hx⟩ := routeBehind_reads os enc
  refine returnsInHanded_of_row (C := Tryd.checked) (s := Rows.OpenSpec.upto Rows.routeBehindSpec) own started (by kernel_rfl) Tryd.func8
    (witness_row_at (enc := enc) (C := Tryd.checked) false (laidWorld os) #[.string .empty, .string .empty] rfl (by kernel_rfl) (by kernel_rfl) (by kernel_rfl)
      (OpenSpec.preRow_of_cond 8 hx (by kernel_rfl) (fun k hk => by cases hk; kernel_rfl) (by kernel_rfl) (laid_met os _))) ?_
  intro W base args ds gs before hval hW _ hcond hsz hL hsh _
  obtain rfl : gs = [] := by
    obtain ⟨p, q, hA0, hV, _⟩ := hW
    exact (trodVars_none hV).1
  obtain ⟨d0, d1, rfl⟩ : ∃ d0 d1, ds = [d0, d1] := by
    obtain ⟨p, q, hA0, _⟩ := hW
    have hA : DataW.TrodAll enc Tryd.prog W 0 (fun _ => true) true Tryd.f8.params.toList args.toList ds p := hA0
    rw [Tryd.params8] at hA
    obtain ⟨v0, vs0, d0, ds0, p0, q0, _, rfl, _, _, r0⟩ := trodAll_cons hA
    obtain ⟨v1, vs1, d1, ds1, p1, q1, _, rfl, _, _, r1⟩ := trodAll_cons r0
    obtain ⟨_, rfl, _⟩ := trodAll_nil r1
    exact ⟨_, _, rfl⟩
  refine (routeBehind_core enc W base args _ before hval hW (hcond _ rfl) hsz hL hsh).mono fun e W' ⟨he, hb⟩ => ?_
  subst he
  exact ⟨_, rfl, law_post hW rfl (fun t ht => by rw [Tryd.params8] at ht; simp only [List.mem_cons, List.not_mem_nil, or_false] at ht; rcases ht with rfl | rfl <;> exact ⟨by kernel_rfl, of_decide_eq_true (by kernel_rfl)⟩) rfl rfl rfl rfl hb⟩
theorem routeBehind_saidUpto : Rows.RouteBehindUptoSaid :=
  OpenClaim.holds_of_cond 8 Tryd.f8 rfl rfl rfl rfl rfl rfl rfl ⟨rfl, rfl, rfl, rfl, rfl⟩ rfl rfl rfl rfl rfl (by kernel_rfl) Tryd.func8 (by kernel_rfl)
    (of_decide_eq_true (by kernel_rfl)) (by unfold Func.isWrapper; first | (rw [if_pos (by decide +kernel)]; kernel_rfl) | (rw [if_neg (by decide +kernel)]; exact ⟨rfl, rfl⟩))
    (fun os started H enc _ F => by rw [OpenClaim.pre_eq_preRow]; exact routeBehind_lifted os started H enc F)
theorem routeBehind_plain (f : FuncId) (fn : Func) (hf : Tryd.pinned.checked.prog.funcNamed Tryd.f8.name = some f) (hfn : Tryd.pinned.checked.prog.funcs[f]? = some fn) :
    false = Tryd.pinned.checked.prog.looks [] ∧ ∀ (j : Nat) t, fn.params[j]? = some t → Tryd.pinned.checked.prog.wantsStandIn t = false := by
  obtain rfl : f = 8 := Option.some.inj ((show Tryd.prog.funcNamed Tryd.f8.name = some 8 by kernel_rfl).symm.trans hf) |>.symm
  obtain rfl : fn = Tryd.f8 := (Option.some.inj (Tryd.func8.symm.trans hfn)).symm
  refine ⟨by kernel_rfl, fun j t ht => ?_⟩
  rw [Tryd.params8] at ht
  have hm := Array.mem_of_getElem? ht
  simp only [List.mem_toArray, List.mem_cons, List.not_mem_nil, or_false] at hm
  rcases hm with rfl | rfl
  · exact (show Tryd.prog.wantsStandIn 9 = false by kernel_rfl)
  · exact (show Tryd.prog.wantsStandIn 9 = false by kernel_rfl)
theorem routeBehind_card : Rows.RouteBehindUptoCardSaid :=
  Claim7.holds_tied_plain_at .later [] _ _ _ _ routeBehind_saidUpto (fun _ h => by cases h) (by kernel_rfl) (fun _ h => by cases h) routeBehindUpto_row_tie rfl ⟨rfl, rfl⟩ (by kernel_rfl) rfl routeBehind_plain (by kernel_rfl)
end Go.Proofs.YthhggganhegfhaaDoor
