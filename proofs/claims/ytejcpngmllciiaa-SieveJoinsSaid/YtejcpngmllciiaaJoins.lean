/-
  SieveJoins: for all patterns and texts, SieveJoins returns true. No condition.
-/
import Derived.Test.YtejcpngmllciiaaMatchKit
import Derived.Test.YtejcpngmllciiaaSeam
namespace Go.Proofs.Ytejcpngmllciiaa
open Go.ChangeShapes Go.WideShapes Go.ChangeAt Go.RowKit
open Go.ChangeMaps (open_string shut_string)
set_option linter.unusedVariables false

set_option maxHeartbeats 2000000 in
theorem sieveJoins_calls (p q a b : ByteArray) (hp : p.size ≤ 140737488351232) (hq : q.size ≤ 140737488351232) (ha : a.size ≤ 140737488351232) (hb0 : b.size ≤ 140737488351232) (w : World) : Calls Try.prog 7 #[.string p, .string q, .string a, .string b] w (Holds w) := by
  have S1 := Lib.hid (fun w => short_calls w p a)
  have S2 := Lib.hid (fun w => short_calls w q b)
  have SS : (decide (p.size ≤ 5000) && decide (a.size ≤ 200)) = true → a.size ≤ 200 := by simp
  have SS2 : (decide (q.size ≤ 5000) && decide (b.size ≤ 200)) = true → b.size ≤ 200 := by simp
  have H1 := Lib.hid SS
  have H2 := Lib.hid SS2
  clear SS SS2
  generalize (decide (p.size ≤ 5000) && decide (a.size ≤ 200)) = sp at S1 H1
  generalize (decide (q.size ≤ 5000) && decide (b.size ≤ 200)) = sq at S2 H2
  go_enter Try.func7, Try.ntmps7
  go_wp2_with fail
  refine (alive_calls w).mono ?_
  rintro e w1 ⟨rfl, hb⟩
  have X1 := Lib.hid hb
  clear hb
  go_wp2_with fail
  refine (S1.out w1).mono ?_
  rintro e w2 ⟨rfl, rfl⟩
  cases sp with
  | false =>
    go_wp2_with fail
    go_ret
    exact ⟨rfl, X1.out⟩
  | true =>
    have A2 := Lib.hid (H1.out rfl)
    clear H1
    go_wp2_with fail
    refine (S2.out w2).mono ?_
    rintro e w3 ⟨rfl, rfl⟩
    cases sq with
    | false =>
      go_wp2_with fail
      go_ret
      exact ⟨rfl, X1.out⟩
    | true =>
      have B2 := Lib.hid (H2.out rfl)
      clear H2
      by_cases h1 : p.size ≤ 2048
      · have g1 : ¬ (2048 : Int) < (p.size : Int) := by omega
        by_cases h2 : q.size ≤ 2048
        · have g2 : ¬ (2048 : Int) < (q.size : Int) := by omega
          go_wp2_with fail
          refine (match_calls w3 p a hp ha).mono ?_
          rintro e w4 ⟨rfl, hb⟩
          have X2 := Lib.hid (X1.out.trans (hb.mono X1.out.size))
          clear hb X1
          generalize hma : matchAns p.data.toList a.data.toList = ma
          have MA := Lib.hid hma
          clear hma
          go_wp2_with fail
          refine (match_calls w4 q b hq hb0).mono ?_
          rintro e w5 ⟨rfl, hb⟩
          have X3 := Lib.hid (X2.out.trans (hb.mono X2.out.size))
          clear hb X2
          generalize hmb : matchAns q.data.toList b.data.toList = mb
          have MB2 := Lib.hid hmb
          clear hmb
          cases ma with
          | false =>
            go_wp2_with fail
            go_ret
            exact ⟨rfl, X3.out⟩
          | true =>
            cases mb with
            | false =>
              go_wp2_with fail
              go_ret
              exact ⟨rfl, X3.out⟩
            | true =>
              have hj := ans_join (by rw [len_list]; exact h1) (by rw [len_list]; exact h2) MA.out MB2.out
              have M := Lib.hid (fun w => match_calls w (p ++ q) (a ++ b) (by rw [ByteArray.size_append]; omega) (by have := A2.out; have := B2.out; rw [ByteArray.size_append]; omega))
              have e1 : (p ++ q).data.toList = p.data.toList ++ q.data.toList := by rw [ByteArray.data_append, Array.toList_append]
              have e2 : (a ++ b).data.toList = a.data.toList ++ b.data.toList := by rw [ByteArray.data_append, Array.toList_append]
              rw [e1, e2, hj.1, hj.2] at M
              clear e1 e2 hj
              go_wp2_with fail
              refine (M.out _).mono ?_
              rintro e w6 ⟨rfl, hb⟩
              have X4 := Lib.hid (X3.out.trans (hb.mono X3.out.size))
              clear hb X3
              go_wp2_with fail
              go_ret
              exact ⟨rfl, X4.out⟩
        · have g2 : (2048 : Int) < (q.size : Int) := by omega
          go_wp2_with fail
          go_ret
          exact ⟨rfl, X1.out⟩
      · have g1 : (2048 : Int) < (p.size : Int) := by omega
        go_wp2_with fail
        go_ret
        exact ⟨rfl, X1.out⟩
theorem sieveJoins_core {H : Type} (enc : TypeId × Value → H) (W : World) (base : Nat) (args : Array Value) (ds : List (DataW H)) (before : List MemPlace)
    (hval : ∀ (j : Nat) t v, Try.f7.params[j]? = some t → args[j]? = some v → Value.okWide Try.prog W .any base t v)
    (hW : DataW.Whole enc Try.prog Try.f7.params.toList [] false W args.toList ds [] before)
    (hsz : (DataW.weightsEach Try.prog (Try.f7.params.toList ++ []) (ds ++ [])).all (· ≤ reachBytes) = true) (hsh : W.ShapedOpen Try.prog) :
    Calls Try.prog 7 args W (Holds W) := by
  obtain ⟨p, q, hA0, hV, rfl, _, _⟩ := hW
  have hA : DataW.TrodAll enc Try.prog W 0 (fun _ => true) true Try.f7.params.toList args.toList ds p := hA0
  rw [Try.params7] at hA hval hsz
  obtain ⟨v0, vs0, d0, ds0, p0, q0, hargs, rfl, rfl, h0, r0⟩ := trodAll_cons hA
  obtain ⟨v1, vs1, d1, ds1, p1, q1, rfl, rfl, rfl, h1, r1⟩ := trodAll_cons r0
  obtain ⟨v2, vs2, d2, ds2, p2, q2, rfl, rfl, rfl, h2, r2⟩ := trodAll_cons r1
  obtain ⟨v3, vs3, d3, ds3, p3, q3, rfl, rfl, rfl, h3, r3⟩ := trodAll_cons r2
  obtain ⟨rfl, rfl, rfl⟩ := trodAll_nil r3
  obtain rfl : args = #[v0, v1, v2, v3] := by cases args; simp_all
  obtain ⟨a0, rfl, rfl, rfl, w0⟩ := open_string Try.underlying9 (hval 0 _ v0 rfl rfl) h0
  obtain ⟨a1, rfl, rfl, rfl, w1⟩ := open_string Try.underlying9 (hval 1 _ v1 rfl rfl) h1
  obtain ⟨a2, rfl, rfl, rfl, w2⟩ := open_string Try.underlying9 (hval 2 _ v2 rfl rfl) h2
  obtain ⟨a3, rfl, rfl, rfl, w3⟩ := open_string Try.underlying9 (hval 3 _ v3 rfl rfl) h3
  have z0 : a0.size ≤ 140737488351232 := by
    have := sized_string hsz (j := 0) (t := 9) rfl rfl
    rw [Array.length_toList] at this; exact this
  have z1 : a1.size ≤ 140737488351232 := by
    have := sized_string hsz (j := 1) (t := 9) rfl rfl
    rw [Array.length_toList] at this; exact this
  have z2 : a2.size ≤ 140737488351232 := by
    have := sized_string hsz (j := 2) (t := 9) rfl rfl
    rw [Array.length_toList] at this; exact this
  have z3 : a3.size ≤ 140737488351232 := by
    have := sized_string hsz (j := 3) (t := 9) rfl rfl
    rw [Array.length_toList] at this; exact this
  exact sieveJoins_calls a0 a1 a2 a3 z0 z1 z2 z3 W

set_option maxRecDepth 100000 in
theorem sieveJoins_reads (os : Os) {H : Type} (enc : TypeId × Value → H) : ∃ places, DataW.whole enc Try.prog ((World.holding Try.prog os ⟨#[], #[], []⟩).forCall (fun _ _ => 0) ⟨#[], #[.string .empty, .string .empty, .string .empty, .string .empty], []⟩).memory Try.f7.params.toList Rows.sieveJoinsSpec.vars false (#[.string .empty, .string .empty, .string .empty, .string .empty] : Array Value).toList 8 = some ([.lit (.string []), .lit (.string []), .lit (.string []), .lit (.string [])], [], places) :=
  ⟨[], by kernel_rfl⟩
set_option maxRecDepth 100000 in
theorem sieveJoins_lifted (os : Os) (started : os.Started) (H : Type) (enc : TypeId × Value → H) (F : Stop.Interp) :
    ReturnsInHanded {} Try.checked os 7 .any ((OpenSpec.ofChange Rows.sieveJoinsSpec).preRow enc Try.prog Try.f7 Rows.sieveJoinsRow.domain false Rows.sieveJoinsRow.laid) (((OpenSpec.ofChange Rows.sieveJoinsSpec).at F).post enc Try.prog Try.f7 false true false false) := by
  obtain ⟨places, hx⟩ := sieveJoins_reads os enc
  refine returnsInHanded_of_row (C := Try.checked) (s := OpenSpec.ofChange Rows.sieveJoinsSpec) own started (by kernel_rfl) Try.func7
    (witness_row_at (enc := enc) (C := Try.checked) false (World.holding Try.prog os ⟨#[], #[], []⟩) #[.string .empty, .string .empty, .string .empty, .string .empty] rfl (by kernel_rfl) (by kernel_rfl) (by kernel_rfl)
      (OpenSpec.preRow_of_cond 8 hx (by kernel_rfl) (fun k hk => by cases hk) (by kernel_rfl) (laidMetH_nil _ _))) ?_
  intro W base args ds gs before hval hW _ hcond hsz hL hsh _
  obtain rfl : gs = [] := by
    obtain ⟨p, q, hA0, hV, _⟩ := hW
    exact (trodVars_none hV).1
  obtain ⟨d0, d1, d2, d3, rfl⟩ : ∃ d0 d1 d2 d3, ds = [d0, d1, d2, d3] := by
    obtain ⟨p, q, hA0, _⟩ := hW
    have hA : DataW.TrodAll enc Try.prog W 0 (fun _ => true) true Try.f7.params.toList args.toList ds p := hA0
    rw [Try.params7] at hA
    obtain ⟨v0, vs0, d0, ds0, p0, q0, _, rfl, _, _, r0⟩ := trodAll_cons hA
    obtain ⟨v1, vs1, d1, ds1, p1, q1, _, rfl, _, _, r1⟩ := trodAll_cons r0
    obtain ⟨v2, vs2, d2, ds2, p2, q2, _, rfl, _, _, r2⟩ := trodAll_cons r1
    obtain ⟨v3, vs3, d3, ds3, p3, q3, _, rfl, _, _, r3⟩ := trodAll_cons r2
    obtain ⟨_, rfl, _⟩ := trodAll_nil r3
    exact ⟨_, _, _, _, rfl⟩
  refine (sieveJoins_core enc W base args _ before hval hW hsz hsh).mono fun e W' ⟨he, hb⟩ => ?_
  subst he
  exact ⟨_, rfl, law_post hW rfl (fun t ht => by rw [Try.params7] at ht; simp only [List.mem_cons, List.not_mem_nil, or_false] at ht; rcases ht with rfl | rfl | rfl | rfl <;> exact ⟨by kernel_rfl, of_decide_eq_true (by kernel_rfl)⟩) rfl rfl rfl rfl hb⟩
theorem sieveJoins_said : Rows.SieveJoinsSaid :=
  OpenClaim.holds_of_cond 7 Try.f7 rfl rfl rfl rfl rfl rfl rfl ⟨rfl, rfl, rfl, rfl, rfl⟩ rfl rfl rfl rfl rfl (by kernel_rfl) Try.func7 (by kernel_rfl)
    (of_decide_eq_true (by kernel_rfl)) (by unfold Func.isWrapper; first | (rw [if_pos (by decide +kernel)]; kernel_rfl) | (rw [if_neg (by decide +kernel)]; exact ⟨rfl, rfl⟩))
    (fun os started H enc _ F => by rw [OpenClaim.pre_eq_preRow]; exact sieveJoins_lifted os started H enc F)
end Go.Proofs.Ytejcpngmllciiaa
