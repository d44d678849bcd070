/-
  PermsSteps: for every mode and every two texts that are together of bulk at most 1048576, PermsSteps returns true.
-/
import Derived.Test.YtbkclmpopofebaaDoorPermsKit
import Derived.ShutString
namespace Go.Proofs.YtbkclmpopofebaaDoor
open Go.ChangeShapes Go.WideShapes Go.ChangeAt Go.RowKit
open Go.ChangeMaps (open_string shut_string)
set_option linter.unusedVariables false

theorem comma_text (a b : ByteArray) : ((a ++ ⟨#[44]⟩) ++ b).data.toList = a.data.toList ++ 44 :: b.data.toList := by
  rw [ByteArray.data_append, Array.toList_append, ByteArray.data_append, Array.toList_append]
  simp
theorem comma_size (a b : ByteArray) : ((a ++ ⟨#[44]⟩) ++ b).size = a.size + 1 + b.size := by
  have h := congrArg List.length (comma_text a b)
  rw [List.length_append, List.length_cons] at h
  have e1 : ((a ++ ⟨#[44]⟩) ++ b).data.toList.length = ((a ++ ⟨#[44]⟩) ++ b).size := Array.length_toList
  have e2 : a.data.toList.length = a.size := Array.length_toList
  have e3 : b.data.toList.length = b.size := Array.length_toList
  omega
set_option maxHeartbeats 8000000 in
theorem permsSteps_calls (m : Int) (a b : ByteArray) (hm : -9223372036854775808 ≤ m ∧ m ≤ 9223372036854775807) (z1 : a.size ≤ 140737488351232) (z2 : b.size ≤ 140737488351232) (hk : a.size + b.size ≤ 1048576) (w : World) :
    Calls Tryd.prog 4 #[.int .i64 m, .string a, .string b] w (Holds w) := by
  have AL := Lib.hid (fun wz => alive_calls wz)
  have C1 := Lib.hid (fun wz => change_calls m a wz hm (by omega))
  have hab := comma_size a b
  have C3 := Lib.hid (fun wz => change_calls m ((a ++ ⟨#[44]⟩) ++ b) wz hm (by omega))
  rw [comma_text] at C3
  have C2 := Lib.hid (fun x wz (hx : R12 x) => change_calls x b wz ⟨by have := hx.1; omega, by have := hx.2; omega⟩ (by omega))
  unfold ChangeAns at C1 C2 C3
  rcases change_steps m a.data.toList b.data.toList with ⟨_, e1, e2⟩ | ⟨m', hr, e1, e2⟩
  · rw [e1] at C1
    rw [e2] at C3
    have C20 := Lib.hid (fun wz => C2.out 0 wz (by decide))
    generalize changeP 0 b.data.toList = Q at C20
    clear e1 e2 hab hm z1 z2 C2
    go_enter Tryd.func4, Tryd.ntmps4
    go_wp2_with fail
    refine (AL.out _).mono ?_
    rintro e w1 ⟨rfl, hb1⟩
    have B1 := Lib.hid hb1
    clear hb1
    go_wp2_with fail
    refine (C1.out _).mono ?_
    rintro e w2 ⟨rfl, hb2⟩
    have B2 := Lib.hid (Below.next B1.out hb2)
    clear hb2
    go_wp2_with fail
    refine (C20.out _).mono ?_
    rintro e w3 ⟨rfl, hb3⟩
    have B3 := Lib.hid (Below.next B2.out hb3)
    clear hb3
    go_wp2_with fail
    refine (C3.out _).mono ?_
    rintro e w4 ⟨rfl, hb4⟩
    have B4 := Lib.hid (Below.next B3.out hb4)
    clear hb4
    go_wp2
    go_ret
    exact ⟨rfl, B4.out⟩
  · rw [e1] at C1
    rw [e2] at C3
    have C20 := Lib.hid (fun wz => C2.out m' wz hr)
    have C5 := Lib.hid (fun wz => change_calls m' ⟨#[97, 45]⟩ wz ⟨by have := hr.1; omega, by have := hr.2; omega⟩ (by decide))
    have C6 := Lib.hid (fun wz => change_calls m' ⟨#[97, 61, 114, 119, 120, 115, 116, 44, 97, 45, 114, 119, 120, 115, 116]⟩ wz ⟨by have := hr.1; omega, by have := hr.2; omega⟩ (by decide))
    unfold ChangeAns at C5 C6
    rw [show (⟨#[97, 45]⟩ : ByteArray).data.toList = [97, 45] from rfl, change_none hr] at C5
    rw [show (⟨#[97, 61, 114, 119, 120, 115, 116, 44, 97, 45, 114, 119, 120, 115, 116]⟩ : ByteArray).data.toList = [97, 61, 114, 119, 120, 115, 116, 44, 97, 45, 114, 119, 120, 115, 116] from rfl, change_all hr] at C6
    generalize changeP m' b.data.toList = Q at C20 C3
    clear e1 e2 hab hm z1 z2 C2 hr
    go_enter Tryd.func4, Tryd.ntmps4
    go_wp2_with fail
    refine (AL.out _).mono ?_
    rintro e w1 ⟨rfl, hb1⟩
    have B1 := Lib.hid hb1
    clear hb1
    go_wp2_with fail
    refine (C1.out _).mono ?_
    rintro e w2 ⟨rfl, hb2⟩
    have B2 := Lib.hid (Below.next B1.out hb2)
    clear hb2
    go_wp2_with fail
    refine (C20.out _).mono ?_
    rintro e w3 ⟨rfl, hb3⟩
    have B3 := Lib.hid (Below.next B2.out hb3)
    clear hb3
    go_wp2_with fail
    refine (C3.out _).mono ?_
    rintro e w4 ⟨rfl, hb4⟩
    have B4 := Lib.hid (Below.next B3.out hb4)
    clear hb4
    go_wp2_with fail
    refine (C5.out _).mono ?_
    rintro e w5 ⟨rfl, hb5⟩
    have B5 := Lib.hid (Below.next B4.out hb5)
    clear hb5
    go_wp2_with fail
    refine (C6.out _).mono ?_
    rintro e w6 ⟨rfl, hb6⟩
    have B6 := Lib.hid (Below.next B5.out hb6)
    clear hb6
    go_wp2
    go_ret
    exact ⟨by simp, B6.out⟩

theorem permsSteps_core {H : Type} (enc : TypeId × Value → H) (W : World) (base : Nat) (args : Array Value) (ds : List (DataW H)) (before : List MemPlace)
    (hval : ∀ (j : Nat) t v, Tryd.f4.params[j]? = some t → args[j]? = some v → Value.okWide Tryd.prog W .any base t v)
    (hW : DataW.Whole enc Tryd.prog Tryd.f4.params.toList [] false W args.toList ds [] before) (hk : Rows.uptoSmall H (ds ++ []) = true)
    (hsz : (DataW.weightsEach Tryd.prog (Tryd.f4.params.toList ++ []) (ds ++ [])).all (· ≤ reachBytes) = true) (hL : laidMetH Tryd.prog Rows.permsStepsUptoRow.laid W) (hsh : W.ShapedOpen Tryd.prog) :
    Calls Tryd.prog 4 args W (Holds W) := by
  obtain ⟨p, q, hA0, hV, rfl, _, _⟩ := hW
  have hA : DataW.TrodAll enc Tryd.prog W 0 (fun _ => true) true Tryd.f4.params.toList args.toList ds p := hA0
  rw [Tryd.params4] at hA hval hsz
  obtain ⟨v0, vs0, d0, ds0, p0, q0, hargs, rfl, rfl, h0, r0⟩ := trodAll_cons hA
  obtain ⟨v1, vs1, d1, ds1, p1, q1, rfl, rfl, rfl, h1, r1⟩ := trodAll_cons r0
  obtain ⟨v2, vs2, d2, ds2, p2, q2, rfl, rfl, rfl, h2, r2⟩ := trodAll_cons r1
  obtain ⟨rfl, rfl, rfl⟩ := trodAll_nil r2
  obtain rfl : args = #[v0, v1, v2] := by cases args; simp_all
  obtain ⟨a0, rfl, rfl, rfl, w0⟩ := open_int Tryd.underlying3 (hval 0 _ v0 rfl rfl) h0
  obtain ⟨a1, rfl, rfl, rfl, w1⟩ := open_string Tryd.underlying9 (hval 1 _ v1 rfl rfl) h1
  obtain ⟨a2, rfl, rfl, rfl, w2⟩ := open_string Tryd.underlying9 (hval 2 _ v2 rfl rfl) h2
  have z1 : a1.size ≤ 140737488351232 := by
    have := sized_string hsz (j := 1) (t := 9) rfl rfl
    rw [Array.length_toList] at this; exact this
  have z2 : a2.size ≤ 140737488351232 := by
    have := sized_string hsz (j := 2) (t := 9) rfl rfl
    rw [Array.length_toList] at this; exact this
  have bk1 : a1.size ≤ Rows.uptoBulk (DataW.lit (H := H) (.string a1.data.toList)) := by simp [Rows.uptoBulk]
  have bk2 : a2.size ≤ Rows.uptoBulk (DataW.lit (H := H) (.string a2.data.toList)) := by simp [Rows.uptoBulk]
  have hkk : a1.size + a2.size ≤ 1048576 := by
    have hk2 := of_decide_eq_true hk
    simp only [List.cons_append, List.nil_append, Rows.uptoBulkAll] at hk2
    omega
  exact permsSteps_calls a0 a1 a2 (int_bounds w0) z1 z2 hkk W

set_option maxRecDepth 100000 in
theorem permsSteps_reads (os : Os) {H : Type} (enc : TypeId × Value → H) : ∃ places, DataW.whole enc Tryd.prog ((laidWorld os).forCall (fun _ _ => 0) ⟨#[], #[.int .i64 0, .string .empty, .string .empty], []⟩).memory Tryd.f4.params.toList Rows.permsStepsSpec.vars false (#[.int .i64 0, .string .empty, .string .empty] : Array Value).toList 8 = some ([.lit (.int .i64 0), .lit (.string []), .lit (.string [])], [], places) :=
  ⟨[], by kernel_rfl⟩
set_option maxRecDepth 100000 in
theorem permsSteps_lifted (os : Os) (started : os.Started) (H : Type) (enc : TypeId × Value → H) (F : Stop.Interp) :
    ReturnsInHanded {} Tryd.checked os 4 .any ((Rows.OpenSpec.upto Rows.permsStepsSpec).preRow enc Tryd.prog Tryd.f4 Rows.permsStepsUptoRow.domain false Rows.permsStepsUptoRow.laid) (((Rows.OpenSpec.upto Rows.permsStepsSpec).at F).post enc Tryd.prog Tryd.f4 false true false false) := by
  obtain ⟨places, hx⟩ := permsSteps_reads os enc
  refine returnsInHanded_of_row (C := Tryd.checked) (s := Rows.OpenSpec.upto Rows.permsStepsSpec) own started (by kernel_rfl) Tryd.func4
    (witness_row_at (enc := enc) (C := Tryd.checked) false (laidWorld os) #[.int .i64 0, .string .empty, .string .empty] rfl (by kernel_rfl) (by kernel_rfl) (by kernel_rfl)
      (OpenSpec.preRow_of_cond 8 hx (by kernel_rfl) (fun k hk => by cases hk; kernel_rfl) (by kernel_rfl) (laid_met os _))) ?_
  intro W base args ds gs before hval hW _ hcond hsz hL hsh _
  obtain rfl : gs = [] := by
    obtain ⟨p, q, hA0, hV, _⟩ := hW
    exact (trodVars_none hV).1
  obtain ⟨d0, d1, d2, rfl⟩ : ∃ d0 d1 d2, ds = [d0, d1, d2] := by
    obtain ⟨p, q, hA0, _⟩ := hW
    have hA : DataW.TrodAll enc Tryd.prog W 0 (fun _ => true) true Tryd.f4.params.toList args.toList ds p := hA0
    rw [Tryd.params4] at hA
    obtain ⟨v0, vs0, d0, ds0, p0, q0, _, rfl, _, _, r0⟩ := trodAll_cons hA
    obtain ⟨v1, vs1, d1, ds1, p1, q1, _, rfl, _, _, r1⟩ := trodAll_cons r0
    obtain ⟨v2, vs2, d2, ds2, p2, q2, _, rfl, _, _, r2⟩ := trodAll_cons r1
    obtain ⟨_, rfl, _⟩ := trodAll_nil r2
    exact ⟨_, _, _, rfl⟩
  refine (permsSteps_core enc W base args _ before hval hW (hcond _ rfl) hsz hL hsh).mono fun e W' ⟨he, hb⟩ => ?_
  subst he
  exact ⟨_, rfl, law_post hW rfl (fun t ht => by rw [Tryd.params4] at ht; simp only [List.mem_cons, List.not_mem_nil, or_false] at ht; rcases ht with rfl | rfl | rfl <;> exact ⟨by kernel_rfl, of_decide_eq_true (by kernel_rfl)⟩) rfl rfl rfl rfl hb⟩
theorem permsSteps_saidUpto : Rows.PermsStepsUptoSaid :=
  OpenClaim.holds_of_cond 4 Tryd.f4 rfl rfl rfl rfl rfl rfl rfl ⟨rfl, rfl, rfl, rfl, rfl⟩ rfl rfl rfl rfl rfl (by kernel_rfl) Tryd.func4 (by kernel_rfl)
    (of_decide_eq_true (by kernel_rfl)) (by unfold Func.isWrapper; first | (rw [if_pos (by decide +kernel)]; kernel_rfl) | (rw [if_neg (by decide +kernel)]; exact ⟨rfl, rfl⟩))
    (fun os started H enc _ F => by rw [OpenClaim.pre_eq_preRow]; exact permsSteps_lifted os started H enc F)
theorem permsSteps_plain (f : FuncId) (fn : Func) (hf : Tryd.pinned.checked.prog.funcNamed Tryd.f4.name = some f) (hfn : Tryd.pinned.checked.prog.funcs[f]? = some fn) :
    false = Tryd.pinned.checked.prog.looks [] ∧ ∀ (j : Nat) t, fn.params[j]? = some t → Tryd.pinned.checked.prog.wantsStandIn t = false := by
  obtain rfl : f = 4 := Option.some.inj ((show Tryd.prog.funcNamed Tryd.f4.name = some 4 by kernel_rfl).symm.trans hf) |>.symm
  obtain rfl : fn = Tryd.f4 := (Option.some.inj (Tryd.func4.symm.trans hfn)).symm
  refine ⟨by kernel_rfl, fun j t ht => ?_⟩
  rw [Tryd.params4] at ht
  have hm := Array.mem_of_getElem? ht
  simp only [List.mem_toArray, List.mem_cons, List.not_mem_nil, or_false] at hm
  rcases hm with rfl | rfl | rfl
  · exact (show Tryd.prog.wantsStandIn 3 = false by kernel_rfl)
  · exact (show Tryd.prog.wantsStandIn 9 = false by kernel_rfl)
  · exact (show Tryd.prog.wantsStandIn 9 = false by kernel_rfl)
theorem permsSteps_card : Rows.PermsStepsUptoCardSaid :=
  Claim7.holds_tied_plain_at .later [] _ _ _ _ permsSteps_saidUpto (fun _ h => by cases h) (by kernel_rfl) (fun _ h => by cases h) permsStepsUpto_row_tie rfl ⟨rfl, rfl⟩ (by kernel_rfl) rfl permsSteps_plain (by kernel_rfl)
end Go.Proofs.YtbkclmpopofebaaDoor
