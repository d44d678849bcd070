/-
  RouteGoods: for every text, RouteGoods returns true. No condition.
-/
import Derived.Test.YthhggganhegfhaaGoods
import Derived.ShutString
import Derived.SizedLaws
namespace Go.Proofs.Ythhggganhegfhaa
open Go.ChangeShapes Go.WideShapes Go.ChangeAt Go.RowKit
open Go.ChangeMaps (open_string shut_string)
set_option linter.unusedVariables false

set_option maxHeartbeats 4000000 in
theorem refGood_calls (s : ByteArray) (w : World) (hz : s.size ≤ 9223372036854775807) : Calls Try.prog 16 #[.string s] w fun e w' => e = .returned (.bool (goodB s)) ∧ w' = w := by
  have hl : s.data.toList.length = s.size := Array.length_toList
  have HIT := Lib.hid (show ∀ i (hi : i < s.size), sepB (s[i]'hi) = true → goodB s = false from fun i hi h => by
    have : s.data.toList.any sepB = true := by
      refine List.any_eq_true.2 ⟨s[i]'hi, ?_, h⟩
      have : s[i]'hi = s.data.toList[i]'(by omega) := rfl
      rw [this]
      exact List.getElem_mem _
    unfold goodB; rw [this]; simp)
  have NONE := Lib.hid (show (∀ j (hj : j < s.size), sepB (s[j]'hj) = false) → goodB s = (!(s.toList.isEmpty || (s.toList == [46]) || (s.toList == [46, 46])) && decide (s.size ≤ 255)) from fun h => by
    have : s.data.toList.any sepB = false := by
      refine List.any_eq_false.2 fun x hx => ?_
      obtain ⟨i, hi, rfl⟩ := List.getElem_of_mem hx
      have h1 := h i (by omega)
      have e : s.data.toList[i] = s[i]'(by omega) := rfl
      rw [e, h1]; simp
    unfold goodB; rw [this, Lib.toList_data]; simp)
  have EMP := Lib.hid (show s.toList.isEmpty = decide (s.size < 1) by
    rw [Lib.toList_data]
    cases e : s.data.toList with
    | nil => rw [e, List.length_nil] at hl; rw [decide_eq_true (by omega)]; rfl
    | cons a l => rw [e, List.length_cons] at hl; rw [decide_eq_false (by omega)]; rfl)
  generalize goodB s = R at *
  clear hl
  go_enter Try.func16, Try.ntmps16
  go_wp2
  go_loopg [3] s.size (fun g s3 wr => ∃ i : Nat, s3 = .int .i64 i ∧ i ≤ s.size ∧ s.size - i ≤ g ∧ wr = w ∧ Hid (∀ j (hj : j < s.size), j < i → sepB (s[j]'hj) = false))
  case atStart => exact ⟨0, rfl, Nat.zero_le _, by omega, rfl, Lib.hid fun j _ h => absurd h (Nat.not_lt_zero _)⟩
  case round =>
    obtain ⟨i, rfl, hi, hg, rfl, HN⟩ := hrel
    by_cases hlt : i < s.size
    · by_cases h0 : s[i]'hlt = 0
      · have e := HIT.out i hlt (by rw [h0]; rfl)
        have b0 : (((s[i]'hlt).toNat : Int) == 0) = true := by rw [h0]; rfl
        subst e
        clear h0
        go_wp2
        go_ret
        exact ⟨rfl, rfl⟩
      · have b0 : (((s[i]'hlt).toNat : Int) == 0) = false := beq_eq_false_iff_ne.2 fun e => h0 (by
          have : (s[i]'hlt).toNat = 0 := by omega
          exact UInt8.toNat_inj.1 this)
        by_cases h1 : s[i]'hlt = 47
        · have e := HIT.out i hlt (by rw [h1]; rfl)
          have b1 : (((s[i]'hlt).toNat : Int) == 47) = true := by rw [h1]; rfl
          subst e
          clear h0 h1
          go_wp2
          go_ret
          exact ⟨rfl, rfl⟩
        · have b1 : (((s[i]'hlt).toNat : Int) == 47) = false := beq_eq_false_iff_ne.2 fun e => h1 (by
            have : (s[i]'hlt).toNat = 47 := by omega
            exact UInt8.toNat_inj.1 this)
          have HB := Lib.hid (show sepB (s[i]'hlt) = false by unfold sepB; simp [h0, h1])
          clear h0 h1
          go_wp2
          go_roundg (s.size - (i + 1))
          case measure => omega
          case rel =>
            refine ⟨i + 1, by go_num, by omega, Nat.le_refl _, rfl, Lib.hid fun j hj hk => ?_⟩
            by_cases e : j = i
            · subst e; exact HB.out
            · exact HN.out j hj (by omega)
    · have e := NONE.out (fun j hj => HN.out j hj (by omega))
      rw [EMP.out] at e
      have E := Lib.hid e
      clear e
      have hge : ¬ ((i : Int) < (s.size : Int)) := by omega
      by_cases h1 : s.size < 1
      · have d1 : decide (s.size < 1) = true := decide_eq_true h1
        have z1 : ¬ ((1 : Int) ≤ (s.size : Int)) := by omega
        have E2 := Lib.hid (show R = false by rw [E.out, d1]; simp)
        clear d1
        go_wp2
        go_ret
        exact ⟨by rw [E2.out]; rfl, rfl⟩
      · have d1 : decide (s.size < 1) = false := decide_eq_false h1
        have z1 : (1 : Int) ≤ (s.size : Int) := by omega
        by_cases h2 : s.size ≤ 255
        · have d2 : decide (s.size ≤ 255) = true := decide_eq_true h2
          have z2 : (s.size : Int) ≤ 255 := by omega
          have E2 := Lib.hid (show R = (!(s.toList == [46]) && !(s.toList == [46, 46])) by rw [E.out, d1, d2]; simp)
          clear d1 d2
          cases q1 : (s.toList == [46])
          · cases q2 : (s.toList == [46, 46])
            · have E3 := Lib.hid (show R = true by rw [E2.out, q1, q2]; rfl)
              go_wp2
              go_ret
              exact ⟨by rw [E3.out]; rfl, rfl⟩
            · have E3 := Lib.hid (show R = false by rw [E2.out, q1, q2]; rfl)
              go_wp2
              go_ret
              exact ⟨by rw [E3.out]; rfl, rfl⟩
          · have E3 := Lib.hid (show R = false by rw [E2.out, q1]; rfl)
            go_wp2
            go_ret
            exact ⟨by rw [E3.out]; rfl, rfl⟩
        · have d2 : decide (s.size ≤ 255) = false := decide_eq_false h2
          have z2 : ¬ ((s.size : Int) ≤ 255) := by omega
          have E2 := Lib.hid (show R = false by rw [E.out, d2]; simp)
          clear d1 d2
          go_wp2
          go_ret
          exact ⟨by rw [E2.out]; rfl, rfl⟩

theorem goodB_dots : goodB ⟨#[46, 46, 46]⟩ = true := by decide

set_option maxHeartbeats 1000000 in
theorem routeGoods_calls (s : ByteArray) (hz : s.size ≤ 140737488351232) (w : World) : Calls Try.prog 6 #[.string s] w (Holds w) := by
  have h0 := good_calls ⟨#[46, 46, 46]⟩ w
  rw [goodB_dots] at h0
  have H0 := Lib.hid h0
  have H1 := Lib.hid (fun wz => good_calls s wz)
  have H2 := Lib.hid (fun wz => refGood_calls s wz (by omega))
  clear h0
  generalize goodB s = R at *
  go_enter Try.func6, Try.ntmps6
  go_wp2_with fail
  refine H0.out.mono ?_
  rintro e w1 ⟨rfl, hb1⟩
  go_wp2_with fail
  refine (H1.out _).mono ?_
  rintro e w2 ⟨rfl, hb2⟩
  go_wp2_with fail
  refine (H2.out _).mono ?_
  rintro e w3 ⟨rfl, rfl⟩
  have hb := Below.next hb1 hb2
  cases R
  all_goals go_wp2
  all_goals go_ret
  all_goals exact ⟨rfl, hb⟩

theorem routeGoods_core {H : Type} (enc : TypeId × Value → H) (W : World) (base : Nat) (args : Array Value) (ds : List (DataW H)) (before : List MemPlace)
    (hval : ∀ (j : Nat) t v, Try.f6.params[j]? = some t → args[j]? = some v → Value.okWide Try.prog W .any base t v)
    (hW : DataW.Whole enc Try.prog Try.f6.params.toList [] false W args.toList ds [] before)
    (hsz : (DataW.weightsEach Try.prog (Try.f6.params.toList ++ []) (ds ++ [])).all (· ≤ reachBytes) = true) (hsh : W.ShapedOpen Try.prog) :
    Calls Try.prog 6 args W (Holds W) := by
  obtain ⟨p, q, hA0, hV, rfl, _, _⟩ := hW
  have hA : DataW.TrodAll enc Try.prog W 0 (fun _ => true) true Try.f6.params.toList args.toList ds p := hA0
  rw [Try.params6] at hA hval hsz
  obtain ⟨v0, vs0, d0, ds0, p0, q0, hargs, rfl, rfl, h0, r0⟩ := trodAll_cons hA
  obtain ⟨rfl, rfl, rfl⟩ := trodAll_nil r0
  obtain rfl : args = #[v0] := by cases args; simp_all
  obtain ⟨a0, rfl, rfl, rfl, w0⟩ := open_string Try.underlying9 (hval 0 _ v0 rfl rfl) h0
  have z0 : a0.size ≤ 140737488351232 := by
    have := sized_string hsz (j := 0) (t := 9) rfl rfl
    rw [Array.length_toList] at this; exact this
  exact routeGoods_calls a0 z0 W

set_option maxRecDepth 100000 in
theorem routeGoods_reads (os : Os) {H : Type} (enc : TypeId × Value → H) : ∃ places, DataW.whole enc Try.prog ((World.holding Try.prog os ⟨#[], #[], []⟩).forCall (fun _ _ => 0) ⟨#[], #[.string .empty], []⟩).memory Try.f6.params.toList Rows.routeGoodsSpec.vars false (#[.string .empty] : Array Value).toList 8 = some ([.lit (.string [])], [], places) :=
  ⟨[], by kernel_rfl⟩
set_option maxRecDepth 100000 in
theorem routeGoods_lifted (os : Os) (started : os.Started) (H : Type) (enc : TypeId × Value → H) (F : Stop.Interp) :
    ReturnsInHanded {} Try.checked os 6 .any ((OpenSpec.ofChange Rows.routeGoodsSpec).preRow enc Try.prog Try.f6 Rows.routeGoodsRow.domain false Rows.routeGoodsRow.laid) (((OpenSpec.ofChange Rows.routeGoodsSpec).at F).post enc Try.prog Try.f6 false true false false) := by
  obtain ⟨places, hx⟩ := routeGoods_reads os enc
  refine returnsInHanded_of_row (C := Try.checked) (s := OpenSpec.ofChange Rows.routeGoodsSpec) own started (by kernel_rfl) Try.func6
    (witness_row_at (enc := enc) (C := Try.checked) false (World.holding Try.prog os ⟨#[], #[], []⟩) #[.string .empty] rfl (by kernel_rfl) (by kernel_rfl) (by kernel_rfl)
      (OpenSpec.preRow_of_cond 8 hx (by kernel_rfl) (fun k hk => by cases hk) (by kernel_rfl) (laidMetH_nil _ _))) ?_
  intro W base args ds gs before hval hW _ hcond hsz hL hsh _
  obtain rfl : gs = [] := by
    obtain ⟨p, q, hA0, hV, _⟩ := hW
    exact (trodVars_none hV).1
  obtain ⟨d0, rfl⟩ : ∃ d0, ds = [d0] := by
    obtain ⟨p, q, hA0, _⟩ := hW
    have hA : DataW.TrodAll enc Try.prog W 0 (fun _ => true) true Try.f6.params.toList args.toList ds p := hA0
    rw [Try.params6] at hA
    obtain ⟨v0, vs0, d0, ds0, p0, q0, _, rfl, _, _, r0⟩ := trodAll_cons hA
    obtain ⟨_, rfl, _⟩ := trodAll_nil r0
    exact ⟨_, rfl⟩
  refine (routeGoods_core enc W base args _ before hval hW hsz hsh).mono fun e W' ⟨he, hb⟩ => ?_
  subst he
  exact ⟨_, rfl, law_post hW rfl (fun t ht => by rw [Try.params6] at ht; simp only [List.mem_cons, List.not_mem_nil, or_false] at ht; rcases ht with rfl <;> exact ⟨by kernel_rfl, of_decide_eq_true (by kernel_rfl)⟩) rfl rfl rfl rfl hb⟩
theorem routeGoods_said : Rows.RouteGoodsSaid :=
  OpenClaim.holds_of_cond 6 Try.f6 rfl rfl rfl rfl rfl rfl rfl ⟨rfl, rfl, rfl, rfl, rfl⟩ rfl rfl rfl rfl rfl (by kernel_rfl) Try.func6 (by kernel_rfl)
    (of_decide_eq_true (by kernel_rfl)) (by unfold Func.isWrapper; first | (rw [if_pos (by decide +kernel)]; kernel_rfl) | (rw [if_neg (by decide +kernel)]; exact ⟨rfl, rfl⟩))
    (fun os started H enc _ F => by rw [OpenClaim.pre_eq_preRow]; exact routeGoods_lifted os started H enc F)
end Go.Proofs.Ythhggganhegfhaa
