/-
  SieveStars: for every text, SieveStars returns true. No condition.
-/
import Derived.Test.YtejcpngmllciiaaMatchKit
import Derived.Test.YtejcpngmllciiaaPlaces
namespace Go.Proofs.Ytejcpngmllciiaa
open Go.ChangeShapes Go.WideShapes Go.ChangeAt Go.RowKit
open Go.ChangeMaps (open_string shut_string)
set_option linter.unusedVariables false

set_option maxHeartbeats 1000000 in
theorem sieveStars_calls (t : ByteArray) (ht : t.size ≤ 140737488351232) (w : World) : Calls Try.prog 6 #[.string t] w (Holds w) := by
  have M1 := Lib.hid (fun w => match_calls w ⟨#[42, 42]⟩ t (by decide) ht)
  have M2 := Lib.hid (fun w => match_calls w ⟨#[42]⟩ t (by decide) ht)
  have M3 := Lib.hid (fun w => match_calls w ⟨#[63]⟩ t (by decide) ht)
  have M4 := Lib.hid (fun w => match_calls w ⟨#[]⟩ t (by decide) ht)
  have hl := len_list t
  have E1 : matchAns (ByteArray.mk #[42, 42]).data.toList t.data.toList = true := ans_stars _
  have E2 : matchAns (ByteArray.mk #[42]).data.toList t.data.toList = !strokeTo t.data.toList t.size := by rw [← hl]; exact stars_star _
  have E3 : matchAns (ByteArray.mk #[63]).data.toList t.data.toList = (decide (t.size = 1) && !strokeTo t.data.toList t.size) := by rw [← hl]; exact stars_quest _
  have E4 : matchAns (ByteArray.mk #[]).data.toList t.data.toList = decide (t.size = 0) := by rw [← hl]; exact stars_none _
  rw [E1] at M1
  rw [E2] at M2
  rw [E3] at M3
  rw [E4] at M4
  have HL2 := Lib.hid hl
  clear E1 E2 E3 E4 hl
  obtain ⟨S, hS⟩ : ∃ S, S = strokeTo t.data.toList t.size := ⟨_, rfl⟩
  have HS := Lib.hid hS
  rw [← hS] at M2 M3
  clear hS
  go_enter Try.func6, Try.ntmps6
  go_wp2_with fail
  refine (alive_calls w).mono ?_
  rintro e w1 ⟨rfl, hb⟩
  have X1 := Lib.hid hb
  clear hb
  go_wp2_with fail
  go_loopg [3, 4] t.size (fun g s3 s4 wr => ∃ i : Nat, i ≤ t.size ∧ t.size - i ≤ g ∧ s3 = .bool (strokeTo t.data.toList i) ∧ s4 = .int .i64 i ∧ wr = w1)
  case atStart => exact ⟨0, Nat.zero_le _, Nat.le_refl _, rfl, rfl, rfl⟩
  case round =>
    obtain ⟨i, hi, hg, rfl, rfl, rfl⟩ := hrel
    by_cases hlt : i < t.size
    · have h0 : (0 : Int) ≤ (i : Int) := by omega
      have h1 : (i : Int) < (t.size : Int) := by omega
      have hbt := bt_get t i hlt
      by_cases h47 : bt t.data.toList i = 47
      · have ST := Lib.hid (show Value.bool true = .bool (strokeTo t.data.toList (i + 1)) from by simp [strokeTo, h47])
        have HB := Lib.hid h47
        rw [h47] at hbt
        clear h47
        go_wp2_with fail
        go_roundg (t.size - (i + 1))
        case measure => omega
        case rel => exact ⟨i + 1, by omega, by omega, ST.out, by go_num, rfl⟩
      · have ST := Lib.hid (show strokeTo t.data.toList i = strokeTo t.data.toList (i + 1) from by simp [strokeTo, h47])
        have t4 : (((bt t.data.toList i : Nat) : Int) == 47) = false := by simp; omega
        have HB := Lib.hid h47
        clear h47
        go_wp2_with fail
        go_roundg (t.size - (i + 1))
        case measure => omega
        case rel => exact ⟨i + 1, by omega, by omega, by rw [ST.out], by go_num, rfl⟩
    · obtain rfl : i = t.size := by omega
      rw [← HS.out]
      go_wp2_with fail
      refine (M1.out _).mono ?_
      rintro e w2 ⟨rfl, hb⟩
      have X2 := Lib.hid (X1.out.trans (hb.mono X1.out.size))
      clear hb X1
      go_wp2_with fail
      refine (M2.out _).mono ?_
      rintro e w3 ⟨rfl, hb⟩
      have X3 := Lib.hid (X2.out.trans (hb.mono X2.out.size))
      clear hb X2
      go_wp2_with fail
      refine (M3.out _).mono ?_
      rintro e w4 ⟨rfl, hb⟩
      have X4 := Lib.hid (X3.out.trans (hb.mono X3.out.size))
      clear hb X3
      go_wp2_with fail
      refine (M4.out _).mono ?_
      rintro e w5 ⟨rfl, hb⟩
      have X5 := Lib.hid (X4.out.trans (hb.mono X4.out.size))
      clear hb X4
      clear M1 M2 M3 M4 HS
      have TE : t.toList.isEmpty = decide (t.size = 0) := by
        rw [ByteArray.toList_eq, ← HL2.out]
        cases t.data.toList <;> simp
      by_cases h1 : t.size = 1
      · have n1 : ((t.size : Int) == 1) = true := by simp; omega
        have n0 : decide (t.size = 0) = false := decide_eq_false (by omega)
        have d1 : decide (t.size = 1) = true := decide_eq_true h1
        rw [n0] at TE
        rw [n0, d1]
        clear h1 n0 d1
        cases S with
        | true =>
          go_wp2_with fail
          go_ret
          exact ⟨rfl, X5.out⟩
        | false =>
          go_wp2_with fail
          go_ret
          exact ⟨rfl, X5.out⟩
      · have n1 : ((t.size : Int) == 1) = false := by simp; omega
        have d1 : decide (t.size = 1) = false := decide_eq_false h1
        rw [d1]
        by_cases h0 : t.size = 0
        · have n0 : decide (t.size = 0) = true := decide_eq_true h0
          rw [n0] at TE ⊢
          clear h1 h0 n0 d1
          cases S with
          | true =>
            go_wp2_with fail
            go_ret
            exact ⟨rfl, X5.out⟩
          | false =>
            go_wp2_with fail
            go_ret
            exact ⟨rfl, X5.out⟩
        · have n0 : decide (t.size = 0) = false := decide_eq_false h0
          rw [n0] at TE ⊢
          clear h1 h0 n0 d1
          cases S with
          | true =>
            go_wp2_with fail
            go_ret
            exact ⟨rfl, X5.out⟩
          | false =>
            go_wp2_with fail
            go_ret
            exact ⟨rfl, X5.out⟩
theorem sieveStars_core {H : Type} (enc : TypeId × Value → H) (W : World) (base : Nat) (args : Array Value) (ds : List (DataW H)) (before : List MemPlace)
    (hval : ∀ (j : Nat) t v, Try.f6.params[j]? = some t → args[j]? = some v → Value.okWide Try.prog W .any base t v)
    (hW : DataW.Whole enc Try.prog Try.f6.params.toList [] false W args.toList ds [] before)
    (hsz : (DataW.weightsEach Try.prog (Try.f6.params.toList ++ []) (ds ++ [])).all (· ≤ reachBytes) = true) (hsh : W.ShapedOpen Try.prog) :
    Calls Try.prog 6 args W (Holds W) := by
  obtain ⟨p, q, hA0, hV, rfl, _, _⟩ := hW
  have hA : DataW.TrodAll enc Try.prog W 0 (fun _ => true) true Try.f6.params.toList args.toList ds p := hA0
  rw [Try.params6] at hA hval hsz
  obtain ⟨v0, vs0, d0, ds0, p0, q0, hargs, rfl, rfl, h0, r0⟩ := trodAll_cons hA
  obtain ⟨rfl, rfl, rfl⟩ := trodAll_nil r0
  obtain rfl : args = #[v0] := by cases args; simp_all
  obtain ⟨a0, rfl, rfl, rfl, w0⟩ := open_string Try.underlying9 (hval 0 _ v0 rfl rfl) h0
  have z0 : a0.size ≤ 140737488351232 := by
    have := sized_string hsz (j := 0) (t := 9) rfl rfl
    rw [Array.length_toList] at this; exact this
  exact sieveStars_calls a0 z0 W

set_option maxRecDepth 100000 in
theorem sieveStars_reads (os : Os) {H : Type} (enc : TypeId × Value → H) : ∃ places, DataW.whole enc Try.prog ((World.holding Try.prog os ⟨#[], #[], []⟩).forCall (fun _ _ => 0) ⟨#[], #[.string .empty], []⟩).memory Try.f6.params.toList Rows.sieveStarsSpec.vars false (#[.string .empty] : Array Value).toList 8 = some ([.lit (.string [])], [], places) :=
  ⟨[], by kernel_rfl⟩
set_option maxRecDepth 100000 in
theorem sieveStars_lifted (os : Os) (started : os.Started) (H : Type) (enc : TypeId × Value → H) (F : Stop.Interp) :
    ReturnsInHanded {} Try.checked os 6 .any ((OpenSpec.ofChange Rows.sieveStarsSpec).preRow enc Try.prog Try.f6 Rows.sieveStarsRow.domain false Rows.sieveStarsRow.laid) (((OpenSpec.ofChange Rows.sieveStarsSpec).at F).post enc Try.prog Try.f6 false true false false) := by
  obtain ⟨places, hx⟩ := sieveStars_reads os enc
  refine returnsInHanded_of_row (C := Try.checked) (s := OpenSpec.ofChange Rows.sieveStarsSpec) own started (by kernel_rfl) Try.func6
    (witness_row_at (enc := enc) (C := Try.checked) false (World.holding Try.prog os ⟨#[], #[], []⟩) #[.string .empty] rfl (by kernel_rfl) (by kernel_rfl) (by kernel_rfl)
      (OpenSpec.preRow_of_cond 8 hx (by kernel_rfl) (fun k hk => by cases hk) (by kernel_rfl) (laidMetH_nil _ _))) ?_
  intro W base args ds gs before hval hW _ hcond hsz hL hsh _
  obtain rfl : gs = [] := by
    obtain ⟨p, q, hA0, hV, _⟩ := hW
    exact (trodVars_none hV).1
  obtain ⟨d0, rfl⟩ : ∃ d0, ds = [d0] := by
    obtain ⟨p, q, hA0, _⟩ := hW
    have hA : DataW.TrodAll enc Try.prog W 0 (fun _ => true) true Try.f6.params.toList args.toList ds p := hA0
    rw [Try.params6] at hA
    obtain ⟨v0, vs0, d0, ds0, p0, q0, _, rfl, _, _, r0⟩ := trodAll_cons hA
    obtain ⟨_, rfl, _⟩ := trodAll_nil r0
    exact ⟨_, rfl⟩
  refine (sieveStars_core enc W base args _ before hval hW hsz hsh).mono fun e W' ⟨he, hb⟩ => ?_
  subst he
  exact ⟨_, rfl, law_post hW rfl (fun t ht => by rw [Try.params6] at ht; simp only [List.mem_cons, List.not_mem_nil, or_false] at ht; rcases ht with rfl <;> exact ⟨by kernel_rfl, of_decide_eq_true (by kernel_rfl)⟩) rfl rfl rfl rfl hb⟩
theorem sieveStars_said : Rows.SieveStarsSaid :=
  OpenClaim.holds_of_cond 6 Try.f6 rfl rfl rfl rfl rfl rfl rfl ⟨rfl, rfl, rfl, rfl, rfl⟩ rfl rfl rfl rfl rfl (by kernel_rfl) Try.func6 (by kernel_rfl)
    (of_decide_eq_true (by kernel_rfl)) (by unfold Func.isWrapper; first | (rw [if_pos (by decide +kernel)]; kernel_rfl) | (rw [if_neg (by decide +kernel)]; exact ⟨rfl, rfl⟩))
    (fun os started H enc _ F => by rw [OpenClaim.pre_eq_preRow]; exact sieveStars_lifted os started H enc F)
end Go.Proofs.Ytejcpngmllciiaa
