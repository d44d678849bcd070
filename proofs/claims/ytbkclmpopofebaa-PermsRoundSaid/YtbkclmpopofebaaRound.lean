/-
  PermsRound: for every kind, mode and text, PermsRound returns true. No condition.
-/
import Derived.Test.YtbkclmpopofebaaParses
namespace Go.Proofs.Ytbkclmpopofebaa
open Go.ChangeShapes Go.WideShapes Go.ChangeAt Go.RowKit
open Go.ChangeMaps (open_string shut_string)
set_option linter.unusedVariables false

theorem toList_eq (s : ByteArray) (l : List UInt8) (h : l = s.data.toList) : s = ⟨l.toArray⟩ := by subst h; rfl

set_option maxHeartbeats 4000000 in
theorem permsRound_calls (kd m : Int) (s : ByteArray) (_ : -9223372036854775808 ≤ kd ∧ kd ≤ 9223372036854775807) (hm : -9223372036854775808 ≤ m ∧ m ≤ 9223372036854775807) (hs : s.size ≤ 140737488351232) (w : World) :
    Calls Try.prog 7 #[.int .i64 kd, .int .i64 m, .string s] w (Holds w) := by
  have hp := parse_calls s (by omega)
  have hback := parse_back s.data.toList
  generalize hx : parseP s.data.toList = x at hp hback
  clear hx
  obtain ⟨k2, m2, c2⟩ := x
  have HP := Lib.hid hp; clear hp
  have HB := Lib.hid hback; clear hback
  by_cases h : 1 ≤ kd ∧ kd ≤ 5 ∧ 0 ≤ m ∧ m ≤ 4095
  · obtain ⟨g1, g2, g3, g4⟩ := h
    have hp2 := parse_calls ⟨(textL kd m).toArray⟩ (by show (textL kd m).toArray.size ≤ _; simp [textL_len])
    have e1 : (⟨(textL kd m).toArray⟩ : ByteArray).data.toList = textL kd m := rfl
    rw [e1, parse_text g1 g2 g3 g4] at hp2
    have hz : (⟨(textL kd m).toArray⟩ : ByteArray).size = 10 := by show (textL kd m).toArray.size = _; simp [textL_len]
    have HQ := Lib.hid hp2; clear hp2
    have HT := Lib.hid (text_good kd m g1 g2 g3 g4)
    generalize hgen : (⟨(textL kd m).toArray⟩ : ByteArray) = t at *
    go_enter Try.func7, Try.ntmps7
    go_wp2_with fail
    refine (alive_calls w).mono ?_
    rintro e w1 ⟨rfl, hb1⟩
    go_wp2_with fail
    refine (HT.out w1).mono ?_
    rintro e w2 ⟨rfl, hb2⟩
    rw [hgen]
    go_wp2_with fail
    refine (HQ.out w2).mono ?_
    rintro e w3 ⟨rfl, hd3⟩
    simp only [tup3]
    go_wp2_with fail
    refine (HP.out w3).mono ?_
    rintro e w4 ⟨rfl, hd4⟩
    simp only [tup3]
    have hbb := Below.next (Below.next (Below.next hb1 hb2) hd3.below) hd4.below
    rcases HB.out with hh | ⟨k3, m3, hh, q1, q2, q3, q4, q5⟩
    · obtain ⟨rfl, rfl, rfl⟩ : k2 = 0 ∧ m2 = 0 ∧ c2 = 120 := by simpa using hh
      go_wp2
      go_ret
      exact holds_mk hbb
    · obtain ⟨rfl, rfl, rfl⟩ : k2 = k3 ∧ m2 = m3 ∧ c2 = 0 := by simpa using hh
      have H3 := Lib.hid (text_good k2 m2 q1 q2 q3 q4); 
      have h5 : s = ⟨(textL k2 m2).toArray⟩ := toList_eq s _ q5
      clear hh q5
      go_wp2_with fail
      refine (H3.out w4).mono ?_
      rintro e w5 ⟨rfl, hb5⟩
      rw [← h5]
      clear h5
      go_wp2
      go_ret
      exact holds_mk (Below.next hbb hb5)
  · have HT := Lib.hid (text_bad kd m hm h)
    rcases (show kd < 1 ∨ (1 ≤ kd ∧ 5 < kd) ∨ ((1 ≤ kd ∧ kd ≤ 5) ∧ m < 0) ∨ ((1 ≤ kd ∧ kd ≤ 5) ∧ 0 ≤ m ∧ 4095 < m) by omega) with g1 | ⟨g1, g2⟩ | ⟨⟨g1, g2⟩, g3⟩ | ⟨⟨g1, g2⟩, g3, g4⟩
    all_goals
      clear h
      go_enter Try.func7, Try.ntmps7
      go_wp2_with fail
      refine (alive_calls w).mono ?_
      rintro e w1 ⟨rfl, hb1⟩
      go_wp2_with fail
      refine (HT.out w1).mono ?_
      rintro e w2 ⟨rfl, rfl⟩
      go_wp2_with fail
      refine (HP.out w1).mono ?_
      rintro e w4 ⟨rfl, hd4⟩
      simp only [tup3]
      have hbb := Below.next hb1 hd4.below
      rcases HB.out with hh | ⟨k3, m3, hh, q1, q2, q3, q4, q5⟩
      · obtain ⟨rfl, rfl, rfl⟩ : k2 = 0 ∧ m2 = 0 ∧ c2 = 120 := by simpa using hh
        go_wp2
        go_ret
        exact holds_mk hbb
      · obtain ⟨rfl, rfl, rfl⟩ : k2 = k3 ∧ m2 = m3 ∧ c2 = 0 := by simpa using hh
        have H3 := Lib.hid (text_good k2 m2 q1 q2 q3 q4)
        have h5 : s = ⟨(textL k2 m2).toArray⟩ := toList_eq s _ q5
        clear hh q5
        go_wp2_with fail
        refine (H3.out w4).mono ?_
        rintro e w5 ⟨rfl, hb5⟩
        rw [← h5]
        clear h5
        go_wp2
        go_ret
        exact holds_mk (Below.next hbb hb5)

theorem permsRound_core {H : Type} (enc : TypeId × Value → H) (W : World) (base : Nat) (args : Array Value) (ds : List (DataW H)) (before : List MemPlace)
    (hval : ∀ (j : Nat) t v, Try.f7.params[j]? = some t → args[j]? = some v → Value.okWide Try.prog W .any base t v)
    (hW : DataW.Whole enc Try.prog Try.f7.params.toList [] false W args.toList ds [] before)
    (hsz : (DataW.weightsEach Try.prog (Try.f7.params.toList ++ []) (ds ++ [])).all (· ≤ reachBytes) = true) (hsh : W.ShapedOpen Try.prog) :
    Calls Try.prog 7 args W (Holds W) := by
  obtain ⟨p, q, hA0, hV, rfl, _, _⟩ := hW
  have hA : DataW.TrodAll enc Try.prog W 0 (fun _ => true) true Try.f7.params.toList args.toList ds p := hA0
  rw [Try.params7] at hA hval hsz
  obtain ⟨v0, vs0, d0, ds0, p0, q0, hargs, rfl, rfl, h0, r0⟩ := trodAll_cons hA
  obtain ⟨v1, vs1, d1, ds1, p1, q1, rfl, rfl, rfl, h1, r1⟩ := trodAll_cons r0
  obtain ⟨v2, vs2, d2, ds2, p2, q2, rfl, rfl, rfl, h2, r2⟩ := trodAll_cons r1
  obtain ⟨rfl, rfl, rfl⟩ := trodAll_nil r2
  obtain rfl : args = #[v0, v1, v2] := by cases args; simp_all
  obtain ⟨a0, rfl, rfl, rfl, w0⟩ := open_int Try.underlying3 (hval 0 _ v0 rfl rfl) h0
  obtain ⟨a1, rfl, rfl, rfl, w1⟩ := open_int Try.underlying3 (hval 1 _ v1 rfl rfl) h1
  obtain ⟨a2, rfl, rfl, rfl, w2⟩ := open_string Try.underlying9 (hval 2 _ v2 rfl rfl) h2
  have z2 : a2.size ≤ 140737488351232 := by
    have := sized_string hsz (j := 2) (t := 9) rfl rfl
    rw [Array.length_toList] at this; exact this
  exact permsRound_calls a0 a1 a2 (int_bounds w0) (int_bounds w1) z2 W

set_option maxRecDepth 100000 in
theorem permsRound_reads (os : Os) {H : Type} (enc : TypeId × Value → H) : ∃ places, DataW.whole enc Try.prog ((World.holding Try.prog os ⟨#[], #[], []⟩).forCall (fun _ _ => 0) ⟨#[], #[.int .i64 0, .int .i64 0, .string .empty], []⟩).memory Try.f7.params.toList Rows.permsRoundSpec.vars false (#[.int .i64 0, .int .i64 0, .string .empty] : Array Value).toList 8 = some ([.lit (.int .i64 0), .lit (.int .i64 0), .lit (.string [])], [], places) :=
  ⟨[], by kernel_rfl⟩
set_option maxRecDepth 100000 in
theorem permsRound_lifted (os : Os) (started : os.Started) (H : Type) (enc : TypeId × Value → H) (F : Stop.Interp) :
    ReturnsInHanded {} Try.checked os 7 .any ((OpenSpec.ofChange Rows.permsRoundSpec).preRow enc Try.prog Try.f7 Rows.permsRoundRow.domain false Rows.permsRoundRow.laid) (((OpenSpec.ofChange Rows.permsRoundSpec).at F).post enc Try.prog Try.f7 false true false false) := by
  obtain ⟨places, hx⟩ := permsRound_reads os enc
  refine returnsInHanded_of_row (C := Try.checked) (s := OpenSpec.ofChange Rows.permsRoundSpec) own started (by kernel_rfl) Try.func7
    (witness_row_at (enc := enc) (C := Try.checked) false (World.holding Try.prog os ⟨#[], #[], []⟩) #[.int .i64 0, .int .i64 0, .string .empty] rfl (by kernel_rfl) (by kernel_rfl) (by kernel_rfl)
      (OpenSpec.preRow_of_cond 8 hx (by kernel_rfl) (fun k hk => by cases hk) (by kernel_rfl) (laidMetH_nil _ _))) ?_
  intro W base args ds gs before hval hW _ hcond hsz hL hsh _
  obtain rfl : gs = [] := by
    obtain ⟨p, q, hA0, hV, _⟩ := hW
    exact (trodVars_none hV).1
  obtain ⟨d0, d1, d2, rfl⟩ : ∃ d0 d1 d2, ds = [d0, d1, d2] := by
    obtain ⟨p, q, hA0, _⟩ := hW
    have hA : DataW.TrodAll enc Try.prog W 0 (fun _ => true) true Try.f7.params.toList args.toList ds p := hA0
    rw [Try.params7] at hA
    obtain ⟨v0, vs0, d0, ds0, p0, q0, _, rfl, _, _, r0⟩ := trodAll_cons hA
    obtain ⟨v1, vs1, d1, ds1, p1, q1, _, rfl, _, _, r1⟩ := trodAll_cons r0
    obtain ⟨v2, vs2, d2, ds2, p2, q2, _, rfl, _, _, r2⟩ := trodAll_cons r1
    obtain ⟨_, rfl, _⟩ := trodAll_nil r2
    exact ⟨_, _, _, rfl⟩
  refine (permsRound_core enc W base args _ before hval hW hsz hsh).mono fun e W' ⟨he, hb⟩ => ?_
  subst he
  exact ⟨_, rfl, law_post hW rfl (fun t ht => by rw [Try.params7] at ht; simp only [List.mem_cons, List.not_mem_nil, or_false] at ht; rcases ht with rfl | rfl | rfl <;> exact ⟨by kernel_rfl, of_decide_eq_true (by kernel_rfl)⟩) rfl rfl rfl rfl hb⟩
theorem permsRound_said : Rows.PermsRoundSaid :=
  OpenClaim.holds_of_cond 7 Try.f7 rfl rfl rfl rfl rfl rfl rfl ⟨rfl, rfl, rfl, rfl, rfl⟩ rfl rfl rfl rfl rfl (by kernel_rfl) Try.func7 (by kernel_rfl)
    (of_decide_eq_true (by kernel_rfl)) (by unfold Func.isWrapper; first | (rw [if_pos (by decide +kernel)]; kernel_rfl) | (rw [if_neg (by decide +kernel)]; exact ⟨rfl, rfl⟩))
    (fun os started H enc _ F => by rw [OpenClaim.pre_eq_preRow]; exact permsRound_lifted os started H enc F)
end Go.Proofs.Ytbkclmpopofebaa
