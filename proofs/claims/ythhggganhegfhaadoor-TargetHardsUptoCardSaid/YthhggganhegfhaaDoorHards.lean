/-
  TargetHards: for every text and all numbers that are together of bulk at most 1048576, TargetHards returns true.
-/
import Derived.Test.YthhggganhegfhaaDoorStrip
import Derived.Test.YthhggganhegfhaaDoorTargetAlive
import Derived.ShutString
namespace Go.Proofs.YthhggganhegfhaaDoor
open Go.ChangeShapes Go.WideShapes Go.ChangeAt Go.RowKit
open Go.ChangeMaps (open_string shut_string)
set_option linter.unusedVariables false

def hardIn (r : List ByteArray × Int) (n : Int) : List ByteArray × Int :=
  if r.2 ≠ 0 then ([], r.2) else if (stripP r.1 n).2 = false ∨ (stripP r.1 n).1 = [] then ([], 97) else ((stripP r.1 n).1, 0)
/-- what Hard answers -/
def hardP (text : ByteArray) (mx md n : Int) : List ByteArray × Int := hardIn (splitP text mx md) n
theorem splitP_len (s : ByteArray) (mx md : Int) (hs : s.size ≤ 16777216) : (splitP s mx md).1.length ≤ 16777217 := by
  have h1 := pcs_len s.data.toList
  rw [show s.data.toList.length = s.size from Array.length_toList] at h1
  have h2 := List.length_filter_le keepB ((pcs s.data.toList).map txt)
  rw [List.length_map] at h2
  have h3 : ((pieces s).filter keepB).length ≤ 16777217 := by
    show (((pcs s.data.toList).map txt).filter keepB).length ≤ _
    omega
  unfold splitP splitIn
  repeat' split
  all_goals first | (simp; done) | exact h3

set_option maxHeartbeats 4000000 in
theorem hard_calls (text : ByteArray) (mx md n : Int) (w : World) (hz : text.size ≤ 16777216) (hn : -9223372036854775808 ≤ n ∧ n ≤ 9223372036854775807) :
    Calls Tryd.prog 24 #[.string text, .int .i64 mx, .int .i64 md, .int .i64 n] w (SymAns w (hardP text mx md n)) := by
  have HS := Lib.hid (splitP_calls text mx md w hz)
  have hl := splitP_len text mx md hz
  have HP := Lib.hid (show hardP text mx md n = hardIn (splitP text mx md) n from rfl)
  rw [HP.out]
  clear HP
  generalize splitP text mx md = P at *
  obtain ⟨ys, e⟩ := P
  simp only at hl
  have HT := Lib.hid (fun wz v (h : Rd wz strE v ys) => strip_calls v ys n wz h (by omega) hn)
  by_cases e0 : e = 0
  · subst e0
    have HH := Lib.hid (show hardIn (ys, 0) n = if (stripP ys n).2 = false ∨ (stripP ys n).1 = [] then ([], 97) else ((stripP ys n).1, 0) from by unfold hardIn; rw [if_neg (by simp)])
    rw [HH.out]
    generalize stripP ys n = S at *
    obtain ⟨zs, ok⟩ := S
    clear HH
    obtain ⟨R, hR⟩ : ∃ R, R = (if ok = false ∨ zs = [] then (([], 97) : List ByteArray × Int) else (zs, 0)) := ⟨_, rfl⟩
    simp only
    rw [← hR]
    have HR := Lib.hid hR
    clear hR
    go_enter Tryd.func24, Tryd.ntmps24
    go_wp2_with fail
    refine HS.out.mono ?_
    rintro e w1 ⟨ao1, c1, rfl, ho1, hb1⟩
    have R1 := Lib.hid ho1.rd'
    have B1 := Lib.hid hb1
    clear ho1 hb1
    go_wp2_with fail
    refine (HT.out _ _ R1.out).mono ?_
    rintro e w2 ⟨ao2, c2, rfl, ho2, hb2⟩
    have B2 := Lib.hid (Below.next B1.out hb2)
    have O2 := Lib.hid (ho2.mono B1.out.size)
    clear ho2 hb2
    cases ok
    · have E := Lib.hid (show R = ([], 97) by rw [HR.out]; simp)
      go_wp2
      go_ret2
      exact SymAns.err 97 E.out B2.out
    · cases zs with
      | nil =>
        have E := Lib.hid (show R = ([], 97) by rw [HR.out]; simp)
        go_wp2
        go_ret2
        exact SymAns.err 97 E.out B2.out
      | cons z zs =>
        have hne : (((z :: zs).length : Int) == 0) = false := beq_eq_false_iff_ne.2 (by simp; omega)
        have E := Lib.hid (show R = (z :: zs, 0) by rw [HR.out]; simp)
        clear HR
        generalize z :: zs = qs at *
        obtain ⟨qn, hq⟩ : ∃ qn, qn = qs.length := ⟨_, rfl⟩
        rw [← hq] at hne
        simp only at O2 ⊢
        rw [← hq] at O2 ⊢
        have HQ := Lib.hid hq
        clear hq
        go_wp2
        go_ret2
        rw [E.out]
        refine ⟨ao2, c2, ?_, ?_, B2.out⟩
        · simp only
          rw [← HQ.out]
          rfl
        · simp only
          rw [← HQ.out]
          exact O2.out
  · have HH := Lib.hid (show hardIn (ys, e) n = ([], e) from by unfold hardIn; rw [if_pos e0])
    rw [HH.out]
    have k1 : (e != 0) = true := bne_iff_ne.2 e0
    clear HH e0
    go_enter Tryd.func24, Tryd.ntmps24
    go_wp2_with fail
    refine HS.out.mono ?_
    rintro x w1 ⟨ao1, c1, rfl, ho1, hb1⟩
    have B1 := Lib.hid hb1
    clear ho1 hb1
    simp only
    go_wp2
    go_ret2
    exact SymAns.err e rfl B1.out

set_option maxHeartbeats 4000000 in
theorem refHard_calls (text : ByteArray) (mx md n : Int) (w : World) (hz : text.size ≤ 16777216) (hn : -9223372036854775808 ≤ n ∧ n ≤ 9223372036854775807) :
    Calls Tryd.prog 25 #[.string text, .int .i64 mx, .int .i64 md, .int .i64 n] w (SymAns w (hardP text mx md n)) := by
  have HS := Lib.hid (refSplit_calls text mx md w hz)
  have hl := splitP_len text mx md hz
  have HP := Lib.hid (show hardP text mx md n = hardIn (splitP text mx md) n from rfl)
  rw [HP.out]
  clear HP
  generalize splitP text mx md = P at *
  obtain ⟨ys, e⟩ := P
  simp only at hl
  have HT := Lib.hid (fun wz v (h : Rd wz strE v ys) => refStrip_calls v ys n wz h (by omega) hn)
  by_cases e0 : e = 0
  · subst e0
    have HH := Lib.hid (show hardIn (ys, 0) n = if (stripP ys n).2 = false ∨ (stripP ys n).1 = [] then ([], 97) else ((stripP ys n).1, 0) from by unfold hardIn; rw [if_neg (by simp)])
    rw [HH.out]
    generalize stripP ys n = S at *
    obtain ⟨zs, ok⟩ := S
    clear HH
    obtain ⟨R, hR⟩ : ∃ R, R = (if ok = false ∨ zs = [] then (([], 97) : List ByteArray × Int) else (zs, 0)) := ⟨_, rfl⟩
    simp only
    rw [← hR]
    have HR := Lib.hid hR
    clear hR
    go_enter Tryd.func25, Tryd.ntmps25
    go_wp2_with fail
    refine HS.out.mono ?_
    rintro e w1 ⟨ao1, c1, rfl, ho1, hb1⟩
    have R1 := Lib.hid ho1.rd'
    have B1 := Lib.hid hb1
    clear ho1 hb1
    go_wp2_with fail
    refine (HT.out _ _ R1.out).mono ?_
    rintro e w2 ⟨ao2, c2, rfl, ho2, hb2⟩
    have B2 := Lib.hid (Below.next B1.out hb2)
    have O2 := Lib.hid (ho2.mono B1.out.size)
    clear ho2 hb2
    cases ok
    · have E := Lib.hid (show R = ([], 97) by rw [HR.out]; simp)
      go_wp2
      go_ret2
      exact SymAns.err 97 E.out B2.out
    · cases zs with
      | nil =>
        have E := Lib.hid (show R = ([], 97) by rw [HR.out]; simp)
        go_wp2
        go_ret2
        exact SymAns.err 97 E.out B2.out
      | cons z zs =>
        have hne : (((z :: zs).length : Int) == 0) = false := beq_eq_false_iff_ne.2 (by simp; omega)
        have E := Lib.hid (show R = (z :: zs, 0) by rw [HR.out]; simp)
        clear HR
        generalize z :: zs = qs at *
        obtain ⟨qn, hq⟩ : ∃ qn, qn = qs.length := ⟨_, rfl⟩
        rw [← hq] at hne
        simp only at O2 ⊢
        rw [← hq] at O2 ⊢
        have HQ := Lib.hid hq
        clear hq
        go_wp2
        go_ret2
        rw [E.out]
        refine ⟨ao2, c2, ?_, ?_, B2.out⟩
        · simp only
          rw [← HQ.out]
          rfl
        · simp only
          rw [← HQ.out]
          exact O2.out
  · have HH := Lib.hid (show hardIn (ys, e) n = ([], e) from by unfold hardIn; rw [if_pos e0])
    rw [HH.out]
    have k1 : (e != 0) = true := bne_iff_ne.2 e0
    clear HH e0
    go_enter Tryd.func25, Tryd.ntmps25
    go_wp2_with fail
    refine HS.out.mono ?_
    rintro x w1 ⟨ao1, c1, rfl, ho1, hb1⟩
    have B1 := Lib.hid hb1
    clear ho1 hb1
    simp only
    go_wp2
    go_ret2
    exact SymAns.err e rfl B1.out

set_option maxHeartbeats 4000000 in
theorem targetHards_calls (text : ByteArray) (a b n : Int) (hz : text.size ≤ 140737488351232) (hn : -9223372036854775808 ≤ n ∧ n ≤ 9223372036854775807) (hk : text.size ≤ 1048576) (w : World) :
    Calls Tryd.prog 11 #[.string text, .agg #[.int .i64 a, .int .i64 b], .int .i64 n] w (Holds w) := by
  have NB0 := Lib.hid (Blk.new w #[.int .i64 a, .int .i64 b] 23)
  have B0 := Lib.hid (show Below w.heap.size w (w.alloc (.cells #[.int .i64 a, .int .i64 b] 23)) from (Below.refl _ _).alloc (Nat.le_refl _) _)
  have AL := Lib.hid (fun wz => alive_calls wz)
  have S1 := Lib.hid (fun wz => hard_calls text a b n wz (by omega) hn)
  have S2 := Lib.hid (fun wz => refHard_calls text a b n wz (by omega) hn)
  generalize hardP text a b n = R at *
  go_enter Tryd.func11, Tryd.ntmps11
  go_wp2_with fail
  refine (AL.out _).mono ?_
  rintro e w1 ⟨rfl, hb1⟩
  have B1 := Lib.hid (Below.next B0.out hb1)
  have N1 := Lib.hid (NB0.out.below hb1 NB0.out.lt)
  clear hb1
  have c0 := N1.out.cell 0
  have c1 := N1.out.cell 1
  simp at c0 c1
  go_wp2_with fail
  refine (S1.out _).mono ?_
  rintro e w2 ⟨ao2, k2, rfl, ho2, hb2⟩
  have R2 := Lib.hid ho2.rd'
  have B2 := Lib.hid (Below.next B1.out hb2)
  have N2 := Lib.hid (N1.out.below hb2 N1.out.lt)
  clear ho2 hb2 c0 c1
  have c0 := N2.out.cell 0
  have c1 := N2.out.cell 1
  simp at c0 c1
  go_wp2_with fail
  refine (S2.out _).mono ?_
  rintro e w3 ⟨ao3, k3, rfl, ho3, hb3⟩
  have R3 := Lib.hid ho3.rd'
  have R2' := Lib.hid (R2.out.below hb3)
  have B3 := Lib.hid (Below.next B2.out hb3)
  clear ho3 hb3 c0 c1
  go_wp2_with fail
  refine (sameTexts_calls _ _ _ _ _ R2'.out R3.out).mono ?_
  rintro e w4 ⟨rfl, hd⟩
  go_wp2
  go_ret
  exact ⟨by simp, B3.out.trans (hd.below _)⟩

theorem targetHards_core {H : Type} (enc : TypeId × Value → H) (W : World) (base : Nat) (args : Array Value) (ds : List (DataW H)) (before : List MemPlace)
    (hval : ∀ (j : Nat) t v, Tryd.f11.params[j]? = some t → args[j]? = some v → Value.okWide Tryd.prog W .any base t v)
    (hW : DataW.Whole enc Tryd.prog Tryd.f11.params.toList [] false W args.toList ds [] before) (hk : Rows.uptoSmall H (ds ++ []) = true)
    (hsz : (DataW.weightsEach Tryd.prog (Tryd.f11.params.toList ++ []) (ds ++ [])).all (· ≤ reachBytes) = true) (hL : laidMetH Tryd.prog Rows.targetHardsUptoRow.laid W) (hsh : W.ShapedOpen Tryd.prog) :
    Calls Tryd.prog 11 args W (Holds W) := by
  obtain ⟨p, q, hA0, hV, rfl, _, _⟩ := hW
  have hA : DataW.TrodAll enc Tryd.prog W 0 (fun _ => true) true Tryd.f11.params.toList args.toList ds p := hA0
  rw [Tryd.params11] at hA hval hsz
  obtain ⟨v0, vs0, d0, ds0, p0, q0, hargs, rfl, rfl, h0, r0⟩ := trodAll_cons hA
  obtain ⟨v1, vs1, d1, ds1, p1, q1, rfl, rfl, rfl, h1, r1⟩ := trodAll_cons r0
  obtain ⟨v2, vs2, d2, ds2, p2, q2, rfl, rfl, rfl, h2, r2⟩ := trodAll_cons r1
  obtain ⟨rfl, rfl, rfl⟩ := trodAll_nil r2
  obtain rfl : args = #[v0, v1, v2] := by cases args; simp_all
  obtain ⟨a0, rfl, rfl, rfl, w0⟩ := open_string Tryd.underlying9 (hval 0 _ v0 rfl rfl) h0
  obtain ⟨a1, b1, rfl⟩ := open_pair (hval 1 _ v1 rfl rfl) h1
  obtain ⟨a2, rfl, rfl, rfl, w2⟩ := open_int Tryd.underlying3 (hval 2 _ v2 rfl rfl) h2
  have z0 : a0.size ≤ 140737488351232 := by
    have := sized_string hsz (j := 0) (t := 9) rfl rfl
    rw [Array.length_toList] at this; exact this
  have bk0 : a0.size ≤ Rows.uptoBulk (DataW.lit (H := H) (.string a0.data.toList)) := by simp [Rows.uptoBulk]
  have hkk : a0.size ≤ 1048576 := by
    have hk2 := of_decide_eq_true hk
    simp only [List.cons_append, List.nil_append, Rows.uptoBulkAll] at hk2
    omega
  exact targetHards_calls a0 a1 b1 a2 z0 (int_bounds w2) hkk W

set_option maxRecDepth 100000 in
theorem targetHards_reads (os : Os) {H : Type} (enc : TypeId × Value → H) : ∃ places, DataW.whole enc Tryd.prog ((laidWorld os).forCall (fun _ _ => 0) ⟨#[], #[.string .empty, .agg #[.int .i64 0, .int .i64 0], .int .i64 0], []⟩).memory Tryd.f11.params.toList Rows.targetHardsSpec.vars false (#[.string .empty, .agg #[.int .i64 0, .int .i64 0], .int .i64 0] : Array Value).toList 8 = some ([.lit (.string []), .agg [.lit (.int .i64 0), .lit (.int .i64 0)], .lit (.int .i64 0)], [], places) :=
  ⟨[], by kernel_rfl⟩
set_option maxRecDepth 100000 in
theorem targetHards_lifted (os : Os) (started : os.Started) (H : Type) (enc : TypeId × Value → H) (F : Stop.Interp) :
    ReturnsInHanded {} Tryd.checked os 11 .any ((Rows.OpenSpec.upto Rows.targetHardsSpec).preRow enc Tryd.prog Tryd.f11 Rows.targetHardsUptoRow.domain false Rows.targetHardsUptoRow.laid) (((Rows.OpenSpec.upto Rows.targetHardsSpec).at F).post enc Tryd.prog Tryd.f11 false true false false) := by
  obtain ⟨places, hx⟩ := targetHards_reads os enc
  refine returnsInHanded_of_row (C := Tryd.checked) (s := Rows.OpenSpec.upto Rows.targetHardsSpec) own started (by kernel_rfl) Tryd.func11
    (witness_row_at (enc := enc) (C := Tryd.checked) false (laidWorld os) #[.string .empty, .agg #[.int .i64 0, .int .i64 0], .int .i64 0] rfl (by kernel_rfl) (by kernel_rfl) (by kernel_rfl)
      (OpenSpec.preRow_of_cond 8 hx (by kernel_rfl) (fun k hk => by cases hk; kernel_rfl) (by kernel_rfl) (laid_met os _))) ?_
  intro W base args ds gs before hval hW _ hcond hsz hL hsh _
  obtain rfl : gs = [] := by
    obtain ⟨p, q, hA0, hV, _⟩ := hW
    exact (trodVars_none hV).1
  obtain ⟨d0, d1, d2, rfl⟩ : ∃ d0 d1 d2, ds = [d0, d1, d2] := by
    obtain ⟨p, q, hA0, _⟩ := hW
    have hA : DataW.TrodAll enc Tryd.prog W 0 (fun _ => true) true Tryd.f11.params.toList args.toList ds p := hA0
    rw [Tryd.params11] at hA
    obtain ⟨v0, vs0, d0, ds0, p0, q0, _, rfl, _, _, r0⟩ := trodAll_cons hA
    obtain ⟨v1, vs1, d1, ds1, p1, q1, _, rfl, _, _, r1⟩ := trodAll_cons r0
    obtain ⟨v2, vs2, d2, ds2, p2, q2, _, rfl, _, _, r2⟩ := trodAll_cons r1
    obtain ⟨_, rfl, _⟩ := trodAll_nil r2
    exact ⟨_, _, _, rfl⟩
  refine (targetHards_core enc W base args _ before hval hW (hcond _ rfl) hsz hL hsh).mono fun e W' ⟨he, hb⟩ => ?_
  subst he
  exact ⟨_, rfl, law_post hW rfl (fun t ht => by rw [Tryd.params11] at ht; simp only [List.mem_cons, List.not_mem_nil, or_false] at ht; rcases ht with rfl | rfl | rfl <;> exact ⟨by kernel_rfl, of_decide_eq_true (by kernel_rfl)⟩) rfl rfl rfl rfl hb⟩
theorem targetHards_saidUpto : Rows.TargetHardsUptoSaid :=
  OpenClaim.holds_of_cond 11 Tryd.f11 rfl rfl rfl rfl rfl rfl rfl ⟨rfl, rfl, rfl, rfl, rfl⟩ rfl rfl rfl rfl rfl (by kernel_rfl) Tryd.func11 (by kernel_rfl)
    (of_decide_eq_true (by kernel_rfl)) (by unfold Func.isWrapper; first | (rw [if_pos (by decide +kernel)]; kernel_rfl) | (rw [if_neg (by decide +kernel)]; exact ⟨rfl, rfl⟩))
    (fun os started H enc _ F => by rw [OpenClaim.pre_eq_preRow]; exact targetHards_lifted os started H enc F)
theorem targetHards_plain (f : FuncId) (fn : Func) (hf : Tryd.pinned.checked.prog.funcNamed Tryd.f11.name = some f) (hfn : Tryd.pinned.checked.prog.funcs[f]? = some fn) :
    false = Tryd.pinned.checked.prog.looks [] ∧ ∀ (j : Nat) t, fn.params[j]? = some t → Tryd.pinned.checked.prog.wantsStandIn t = false := by
  obtain rfl : f = 11 := Option.some.inj ((show Tryd.prog.funcNamed Tryd.f11.name = some 11 by kernel_rfl).symm.trans hf) |>.symm
  obtain rfl : fn = Tryd.f11 := (Option.some.inj (Tryd.func11.symm.trans hfn)).symm
  refine ⟨by kernel_rfl, fun j t ht => ?_⟩
  rw [Tryd.params11] at ht
  have hm := Array.mem_of_getElem? ht
  simp only [List.mem_toArray, List.mem_cons, List.not_mem_nil, or_false] at hm
  rcases hm with rfl | rfl | rfl
  · exact (show Tryd.prog.wantsStandIn 9 = false by kernel_rfl)
  · exact (show Tryd.prog.wantsStandIn 23 = false by kernel_rfl)
  · exact (show Tryd.prog.wantsStandIn 3 = false by kernel_rfl)
theorem targetHards_card : Rows.TargetHardsUptoCardSaid :=
  Claim7.holds_tied_plain_at .later [] _ _ _ _ targetHards_saidUpto (fun _ h => by cases h) (by kernel_rfl) (fun _ h => by cases h) targetHardsUpto_row_tie rfl ⟨rfl, rfl⟩ (by kernel_rfl) rfl targetHards_plain (by kernel_rfl)
end Go.Proofs.YthhggganhegfhaaDoor
