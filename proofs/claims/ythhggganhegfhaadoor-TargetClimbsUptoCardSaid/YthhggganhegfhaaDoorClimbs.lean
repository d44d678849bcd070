/-
  TargetClimbs: for every list of texts and every text that are together of bulk at most 1048576, TargetClimbs returns true.
-/
import Derived.Test.YthhggganhegfhaaDoorClimbsPlain
namespace Go.Proofs.YthhggganhegfhaaDoor
open Go.ChangeShapes Go.WideShapes Go.ChangeAt Go.RowKit
open Go.ChangeMaps (open_string shut_string)
set_option linter.unusedVariables false

set_option maxHeartbeats 8000000 in
theorem targetClimbs_calls (v : Value) (dir : List ByteArray) (text : ByteArray) (w : World) (h : Rd w strE v dir) (hz : dir.length * 16 ≤ 140737488351232) (hy : text.size ≤ 140737488351232) (hk : tbulk dir + text.size ≤ 1048576) :
    Calls Tryd.prog 4 #[v, .string text] w (Holds w) := by
  have hl := tbulk_len dir
  obtain ⟨ao, c, rfl⟩ := h.any
  have hdl : dir.length ≤ 1048576 := by omega
  have hus := upB_size dir.length
  have hus1 := upB_size (dir.length + 1)
  have CPB := Lib.hid (show ∀ wz, Below w.heap.size w wz → Calls Tryd.prog 15 #[.slice ao dir.length c] wz fun e w' => ∃ g k, e = .returned (.slice (some ⟨g, 0, none⟩) dir.length k) ∧ Rd w' strE (.slice (some ⟨g, 0, none⟩) dir.length k) dir ∧ Below wz.heap.size wz w' from fun wz hz' =>
    (copyTexts_calls _ dir wz (h.below hz') (by omega)).mono fun e w' ⟨g, k, he, ho, hb⟩ => ⟨g, k, he, ho.rd, hb⟩)
  have SYB := Lib.hid (show ∀ wz u d t r, d.length ≤ 16777216 → t.size ≤ 16777216 → symP d t 1 1152921504606846976 = r → Rd wz strE u d → Calls Tryd.prog 16 #[u, .string t, .int .i64 1, .int .i64 1152921504606846976] wz fun e w' => ∃ ao' cap, e = .returned (.tuple #[.slice ao' r.1.length cap, .int .i64 r.2]) ∧ Rd w' strE (.slice ao' r.1.length cap) r.1 ∧ Below wz.heap.size wz w' from fun wz u d t r hd ht hr hu => by
    subst hr
    exact (sym_calls u d t 1 _ wz hu ht hd).mono fun e w' ⟨ao', cap, he, ho, hb⟩ => ⟨ao', cap, he, ho.rd', hb⟩)
  have S1 := Lib.hid (fun wz u hu => SYB.out wz u dir (upB dir.length) ([], 0) (by omega) (by omega) (sym_ups_ok dir 1152921504606846976 (by rw [hus]; omega)) hu)
  have S2 := Lib.hid (fun wz u hu => SYB.out wz u dir (upB (dir.length + 1)) ([], 101) (by omega) (by omega) (sym_ups_out dir 1152921504606846976 (by rw [hus1]; omega)) hu)
  have S3 := Lib.hid (fun wz u hu => SYB.out wz u [] text _ (by simp) (by omega) rfl hu)
  have hts : (txt (ups dir.length ++ 47 :: text.data.toList)).size = 2 + 3 * dir.length + text.size := by
    have hl2 : text.data.toList.length = text.size := Array.length_toList
    rw [txt_size, List.length_append, ups_len, List.length_cons, hl2]
    omega
  have S4 := Lib.hid (fun wz u hu => SYB.out wz u dir (txt (ups dir.length ++ 47 :: text.data.toList)) _ (by omega) (by omega) rfl hu)
  have EQ := Lib.hid (show text.size ≠ 0 → (symP [] text 1 1152921504606846976).2 ≠ 92 → symP dir (txt (ups dir.length ++ 47 :: text.data.toList)) 1 1152921504606846976 = symP [] text 1 1152921504606846976 from
    fun h1 h2 => sym_ups_text dir text 1152921504606846976 h1 h2 (by rw [hts]; omega) (by omega))
  generalize symP dir (txt (ups dir.length ++ 47 :: text.data.toList)) 1 1152921504606846976 = Q at *
  generalize symP [] text 1 1152921504606846976 = P at *
  have UT := Lib.hid (upB_text dir.length text)
  generalize txt (ups dir.length ++ 47 :: text.data.toList) = ut at *
  clear SYB h hz hl hk hus hus1 hts
  have AL := Lib.hid (fun wz => alive_calls wz)
  generalize dir.length = dn at *
  go_enter Tryd.func4, Tryd.ntmps4
  go_wp2_with fail
  refine (AL.out _).mono ?_
  rintro e w1 ⟨rfl, hb1⟩
  have B1 := Lib.hid hb1
  clear hb1
  go_wp2_with fail
  go_loopg [5, 6] dn (fun g s5 s6 wr => ∃ i : Nat, s5 = .string (upB i) ∧ s6 = .int .i64 i ∧ i ≤ dn ∧ dn - i ≤ g ∧ wr = w1)
  case atStart => exact ⟨0, rfl, rfl, Nat.zero_le _, by omega, rfl⟩
  case round =>
    obtain ⟨i, rfl, rfl, hi, hg, rfl⟩ := hrel
    by_cases hlt : i < dn
    · have hu := upB_size i
      go_wp2
      go_roundg (dn - (i + 1))
      case measure => omega
      case rel => exact ⟨i + 1, by rw [← upB_next], by go_num, by omega, Nat.le_refl _, rfl⟩
    · obtain rfl : i = dn := by omega
      go_wp2_with fail
      refine (CPB.out _ B1.out).mono ?_
      rintro e w2 ⟨g, k, rfl, hr2, hb2⟩
      have R2 := Lib.hid hr2
      have B2 := Lib.hid (Below.next B1.out hb2)
      clear hr2 hb2
      go_wp2_with fail
      refine (S1.out _ _ R2.out).mono ?_
      rintro e w3 ⟨ao3, c3, rfl, _, hb3⟩
      have B3 := Lib.hid (Below.next B2.out hb3)
      clear hb3
      go_wp2_with fail
      refine (CPB.out _ B3.out).mono ?_
      rintro e w4 ⟨g4, k4, rfl, hr4, hb4⟩
      have R4 := Lib.hid hr4
      have B4 := Lib.hid (Below.next B3.out hb4)
      clear hr4 hb4
      have hu := upB_size i
      go_wp2_with fail
      rw [upB_next]
      refine (S2.out _ _ R4.out).mono ?_
      rintro e w5 ⟨ao5, c5, rfl, _, hb5⟩
      have B5 := Lib.hid (Below.next B4.out hb5)
      clear hb5
      go_wp2_with fail
      refine (S3.out _ _ (Rd.nil _ _)).mono ?_
      rintro e w6 ⟨ao6, c6, rfl, hr6, hb6⟩
      have R6 := Lib.hid hr6
      have B6 := Lib.hid (Below.next B5.out hb6)
      clear hr6 hb6
      go_wp2_with fail
      refine (CPB.out _ B6.out).mono ?_
      rintro e w7 ⟨g7, k7, rfl, hr7, hb7⟩
      have R7 := Lib.hid hr7
      have R6' := Lib.hid (R6.out.below hb7)
      have B7 := Lib.hid (Below.next B6.out hb7)
      clear hr7 hb7 R6
      go_wp2_with fail
      rw [UT.out]
      refine (S4.out _ _ R7.out).mono ?_
      rintro e w8 ⟨ao8, c8, rfl, hr8, hb8⟩
      have R8 := Lib.hid hr8
      have R8' := Lib.hid (R6'.out.below hb8)
      have B8 := Lib.hid (Below.next B7.out hb8)
      clear hr8 hb8
      by_cases ht0 : text.size = 0
      · have he := empty_of ht0
        clear ht0
        go_wp2
        go_ret
        exact ⟨rfl, B8.out⟩
      · have he := full_of ht0
        by_cases h92 : P.2 = 92
        · have h92' : (P.2 == 92) = true := by rw [h92]; rfl
          clear ht0 h92
          go_wp2
          go_ret
          exact ⟨rfl, B8.out⟩
        · have e := EQ.out ht0 h92
          have h92' : (P.2 == 92) = false := beq_eq_false_iff_ne.2 h92
          subst e
          clear ht0 h92
          go_wp2_with fail
          refine (sameTexts_calls _ _ _ _ _ R8'.out R8.out).mono ?_
          rintro e w9 ⟨rfl, hd9⟩
          have B9 := Lib.hid (B8.out.trans (hd9.below _))
          go_wp2
          go_ret
          exact ⟨by simp, B9.out⟩

theorem targetClimbs_core {H : Type} (enc : TypeId × Value → H) (W : World) (base : Nat) (args : Array Value) (ds : List (DataW H)) (before : List MemPlace)
    (hval : ∀ (j : Nat) t v, Tryd.f4.params[j]? = some t → args[j]? = some v → Value.okWide Tryd.prog W .any base t v)
    (hW : DataW.Whole enc Tryd.prog Tryd.f4.params.toList [] false W args.toList ds [] before) (hk : Rows.uptoSmall H (ds ++ []) = true)
    (hsz : (DataW.weightsEach Tryd.prog (Tryd.f4.params.toList ++ []) (ds ++ [])).all (· ≤ reachBytes) = true) (hL : laidMetH Tryd.prog Rows.targetClimbsUptoRow.laid W) (hsh : W.ShapedOpen Tryd.prog) :
    Calls Tryd.prog 4 args W (Holds W) := by
  obtain ⟨p, q, hA0, hV, rfl, _, _⟩ := hW
  have hA : DataW.TrodAll enc Tryd.prog W 0 (fun _ => true) true Tryd.f4.params.toList args.toList ds p := hA0
  rw [Tryd.params4] at hA hval hsz
  obtain ⟨v0, vs0, d0, ds0, p0, q0, hargs, rfl, rfl, h0, r0⟩ := trodAll_cons hA
  obtain ⟨v1, vs1, d1, ds1, p1, q1, rfl, rfl, rfl, h1, r1⟩ := trodAll_cons r0
  obtain ⟨rfl, rfl, rfl⟩ := trodAll_nil r1
  obtain rfl : args = #[v0, v1] := by cases args; simp_all
  obtain ⟨a0, rd0, td0, ws0⟩ := open_texts (hval 0 _ v0 rfl rfl) h0
  have z0 := texts_bound hsz (j := 0) rfl rfl td0
  obtain ⟨a1, rfl, rfl, rfl, w1⟩ := open_string Tryd.underlying9 (hval 1 _ v1 rfl rfl) h1
  have z1 : a1.size ≤ 140737488351232 := by
    have := sized_string hsz (j := 1) (t := 9) rfl rfl
    rw [Array.length_toList] at this; exact this
  have bk0 : tbulk a0 ≤ Rows.uptoBulk d0 := tbulk_le td0
  have bk1 : a1.size ≤ Rows.uptoBulk (DataW.lit (H := H) (.string a1.data.toList)) := by simp [Rows.uptoBulk]
  have hkk : tbulk a0 + a1.size ≤ 1048576 := by
    have hk2 := of_decide_eq_true hk
    simp only [List.cons_append, List.nil_append, Rows.uptoBulkAll] at hk2
    omega
  exact targetClimbs_calls v0 a0 a1 W rd0 z0 z1 hkk

set_option maxRecDepth 100000 in
theorem targetClimbs_reads (os : Os) {H : Type} (enc : TypeId × Value → H) : ∃ places, DataW.whole enc Tryd.prog ((laidWorld os).forCall (fun _ _ => 0) ⟨#[], #[.slice none 0 0, .string .empty], []⟩).memory Tryd.f4.params.toList Rows.targetClimbsSpec.vars false (#[.slice none 0 0, .string .empty] : Array Value).toList 8 = some ([.nil, .lit (.string [])], [], places) :=
  ⟨[], by kernel_rfl⟩
set_option maxRecDepth 100000 in
theorem targetClimbs_lifted (os : Os) (started : os.Started) (H : Type) (enc : TypeId × Value → H) (F : Stop.Interp) :
    ReturnsInHanded {} Tryd.checked os 4 .any ((Rows.OpenSpec.upto Rows.targetClimbsSpec).preRow enc Tryd.prog Tryd.f4 Rows.targetClimbsUptoRow.domain false Rows.targetClimbsUptoRow.laid) (((Rows.OpenSpec.upto Rows.targetClimbsSpec).at F).post enc Tryd.prog Tryd.f4 false true false false) := by
  obtain ⟨places, hx⟩ := targetClimbs_reads os enc
  refine returnsInHanded_of_row (C := Tryd.checked) (s := Rows.OpenSpec.upto Rows.targetClimbsSpec) own started (by kernel_rfl) Tryd.func4
    (witness_row_at (enc := enc) (C := Tryd.checked) false (laidWorld os) #[.slice none 0 0, .string .empty] rfl (by kernel_rfl) (by kernel_rfl) (by kernel_rfl)
      (OpenSpec.preRow_of_cond 8 hx (by kernel_rfl) (fun k hk => by cases hk; kernel_rfl) (by kernel_rfl) (laid_met os _))) ?_
  intro W base args ds gs before hval hW _ hcond hsz hL hsh _
  obtain rfl : gs = [] := by
    obtain ⟨p, q, hA0, hV, _⟩ := hW
    exact (trodVars_none hV).1
  obtain ⟨d0, d1, rfl⟩ : ∃ d0 d1, ds = [d0, d1] := by
    obtain ⟨p, q, hA0, _⟩ := hW
    have hA : DataW.TrodAll enc Tryd.prog W 0 (fun _ => true) true Tryd.f4.params.toList args.toList ds p := hA0
    rw [Tryd.params4] at hA
    obtain ⟨v0, vs0, d0, ds0, p0, q0, _, rfl, _, _, r0⟩ := trodAll_cons hA
    obtain ⟨v1, vs1, d1, ds1, p1, q1, _, rfl, _, _, r1⟩ := trodAll_cons r0
    obtain ⟨_, rfl, _⟩ := trodAll_nil r1
    exact ⟨_, _, rfl⟩
  refine (targetClimbs_core enc W base args _ before hval hW (hcond _ rfl) hsz hL hsh).mono fun e W' ⟨he, hb⟩ => ?_
  subst he
  exact ⟨_, rfl, law_post hW rfl (fun t ht => by rw [Tryd.params4] at ht; simp only [List.mem_cons, List.not_mem_nil, or_false] at ht; rcases ht with rfl | rfl <;> exact ⟨by kernel_rfl, of_decide_eq_true (by kernel_rfl)⟩) rfl rfl rfl rfl hb⟩
theorem targetClimbs_saidUpto : Rows.TargetClimbsUptoSaid :=
  OpenClaim.holds_of_cond 4 Tryd.f4 rfl rfl rfl rfl rfl rfl rfl ⟨rfl, rfl, rfl, rfl, rfl⟩ rfl rfl rfl rfl rfl (by kernel_rfl) Tryd.func4 (by kernel_rfl)
    (of_decide_eq_true (by kernel_rfl)) (by unfold Func.isWrapper; first | (rw [if_pos (by decide +kernel)]; kernel_rfl) | (rw [if_neg (by decide +kernel)]; exact ⟨rfl, rfl⟩))
    (fun os started H enc _ F => by rw [OpenClaim.pre_eq_preRow]; exact targetClimbs_lifted os started H enc F)
theorem targetClimbs_plain (f : FuncId) (fn : Func) (hf : Tryd.pinned.checked.prog.funcNamed Tryd.f4.name = some f) (hfn : Tryd.pinned.checked.prog.funcs[f]? = some fn) :
    false = Tryd.pinned.checked.prog.looks [] ∧ ∀ (j : Nat) t, fn.params[j]? = some t → Tryd.pinned.checked.prog.wantsStandIn t = false := by
  obtain rfl : f = 4 := Option.some.inj ((show Tryd.prog.funcNamed Tryd.f4.name = some 4 by kernel_rfl).symm.trans hf) |>.symm
  obtain rfl : fn = Tryd.f4 := (Option.some.inj (Tryd.func4.symm.trans hfn)).symm
  refine ⟨by kernel_rfl, fun j t ht => ?_⟩
  rw [Tryd.params4] at ht
  have hm := Array.mem_of_getElem? ht
  simp only [List.mem_toArray, List.mem_cons, List.not_mem_nil, or_false] at hm
  rcases hm with rfl | rfl
  · exact (show Tryd.prog.wantsStandIn 22 = false by kernel_rfl)
  · exact (show Tryd.prog.wantsStandIn 9 = false by kernel_rfl)
theorem targetClimbs_card : Rows.TargetClimbsUptoCardSaid :=
  Claim7.holds_tied_plain_at .later [] _ _ _ _ targetClimbs_saidUpto (fun _ h => by cases h) (by kernel_rfl) (fun _ h => by cases h) targetClimbsUpto_row_tie rfl ⟨rfl, rfl⟩ (by kernel_rfl) rfl targetClimbs_plain (by kernel_rfl)
end Go.Proofs.YthhggganhegfhaaDoor
