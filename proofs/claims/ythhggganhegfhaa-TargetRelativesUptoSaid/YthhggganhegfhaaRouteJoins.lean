/-
  RouteJoins: for every list of texts that is of bulk at most 1048576, RouteJoins returns true.
-/
import Derived.Test.YthhggganhegfhaaJoinR
import Derived.ShutString
namespace Go.Proofs.Ythhggganhegfhaa
open Go.ChangeShapes Go.WideShapes Go.ChangeAt Go.RowKit
open Go.ChangeMaps (open_string shut_string)
set_option linter.unusedVariables false

theorem tbulk_strs {H : Type} : ∀ xs : List ByteArray, tbulk xs ≤ Rows.uptoBulkAll (strs xs : List (DataW H))
  | [] => Nat.zero_le _
  | x :: xs => by
    have := tbulk_strs (H := H) xs
    have e : Rows.uptoBulk (DataW.lit (.string x.data.toList) : DataW H) = x.size + 1 := by simp [Rows.uptoBulk]
    simp only [strs, List.map_cons, Rows.uptoBulkAll, tbulk] at this ⊢
    omega
theorem tbulk_le {H : Type} {d : DataW H} {xs : List ByteArray} (h : TextsD d xs) : tbulk xs ≤ Rows.uptoBulk d := by
  rcases h with ⟨rfl, rfl⟩ | ⟨sp, rfl⟩
  · simp [tbulk]
  · have := tbulk_strs (H := H) xs
    simp only [Rows.uptoBulk]
    omega
theorem joinB_ab : joinB [⟨#[97]⟩, ⟨#[98]⟩] = ⟨#[97, 47, 98]⟩ := by decide

set_option maxHeartbeats 2000000 in
theorem routeJoins_calls (v : Value) (xs : List ByteArray) (w : World) (h : Rd w strE v xs) (hz : xs.length * 16 ≤ 140737488351232) (hk : tbulk xs ≤ 1048576) :
    Calls Try.prog 4 #[v] w (Holds w) := by
  have hA := rd_lit w strE [⟨#[97]⟩, ⟨#[98]⟩] 9 _ rfl (by decide)
  have hc := join_calls _ _ _ hA (by decide)
  rw [joinB_ab] at hc
  have HC := Lib.hid hc
  have H1 := Lib.hid h
  obtain ⟨ao1, c1, rfl⟩ := h.any
  clear h hA hc
  have hb0 : Below w.heap.size w (w.alloc (.cells #[.string ⟨#[97]⟩, .string ⟨#[98]⟩] 9)) := (Below.refl _ _).alloc (Nat.le_refl _) _
  go_enter Try.func4, Try.ntmps4
  go_wp2_with fail
  refine HC.out.mono ?_
  rintro e w1 ⟨rfl, hd1⟩
  have hb1 := hb0.trans (hd1.mono hb0.size)
  clear hb0 hd1
  go_wp2_with fail
  refine (copyTexts_calls _ xs w1 (H1.out.below hb1) (by omega)).mono ?_
  rintro e w2 ⟨g1, k1, rfl, ho1, hb2⟩
  have hbb2 := Below.next hb1 hb2
  have R1 := Lib.hid ho1.rd
  clear ho1 hb1 hb2
  go_wp2_with fail
  refine (join_calls _ xs w2 R1.out (by omega)).mono ?_
  rintro e w3 ⟨rfl, hb3⟩
  have hbb3 := Below.next hbb2 hb3
  have R1' := Lib.hid (R1.out.below hb3)
  clear hbb2 hb3
  go_wp2_with fail
  refine (refJoin_calls _ xs w3 (H1.out.below hbb3) (by omega)).mono ?_
  rintro e w4 ⟨rfl, rfl⟩
  go_wp2_with fail
  refine (sameTexts_calls _ _ xs xs _ R1'.out (H1.out.below hbb3)).mono ?_
  rintro e w5 ⟨rfl, hd5⟩
  go_wp2
  go_ret
  exact ⟨by simp, hbb3.trans (hd5.below _)⟩

theorem routeJoins_core {H : Type} (enc : TypeId × Value → H) (W : World) (base : Nat) (args : Array Value) (ds : List (DataW H)) (before : List MemPlace)
    (hval : ∀ (j : Nat) t v, Try.f4.params[j]? = some t → args[j]? = some v → Value.okWide Try.prog W .any base t v)
    (hW : DataW.Whole enc Try.prog Try.f4.params.toList [] false W args.toList ds [] before) (hk : Rows.uptoSmall H (ds ++ []) = true)
    (hsz : (DataW.weightsEach Try.prog (Try.f4.params.toList ++ []) (ds ++ [])).all (· ≤ reachBytes) = true) (hsh : W.ShapedOpen Try.prog) :
    Calls Try.prog 4 args W (Holds W) := by
  obtain ⟨p, q, hA0, hV, rfl, _, _⟩ := hW
  have hA : DataW.TrodAll enc Try.prog W 0 (fun _ => true) true Try.f4.params.toList args.toList ds p := hA0
  rw [Try.params4] at hA hval hsz
  obtain ⟨v0, vs0, d0, ds0, p0, q0, hargs, rfl, rfl, h0, r0⟩ := trodAll_cons hA
  obtain ⟨rfl, rfl, rfl⟩ := trodAll_nil r0
  obtain rfl : args = #[v0] := by cases args; simp_all
  obtain ⟨a0, rd0, td0, ws0⟩ := open_texts (hval 0 _ v0 rfl rfl) h0
  have z0 := texts_bound hsz (j := 0) rfl rfl td0
  have bk0 : tbulk a0 ≤ Rows.uptoBulk d0 := tbulk_le td0
  have hkk : tbulk a0 ≤ 1048576 := by
    have hk2 := of_decide_eq_true hk
    simp only [List.cons_append, List.nil_append, Rows.uptoBulkAll] at hk2
    omega
  exact routeJoins_calls v0 a0 W rd0 z0 hkk

set_option maxRecDepth 100000 in
theorem routeJoins_reads (os : Os) {H : Type} (enc : TypeId × Value → H) : ∃ places, DataW.whole enc Try.prog ((World.holding Try.prog os ⟨#[], #[], []⟩).forCall (fun _ _ => 0) ⟨#[], #[.slice none 0 0], []⟩).memory Try.f4.params.toList Rows.routeJoinsSpec.vars false (#[.slice none 0 0] : Array Value).toList 8 = some ([.nil], [], places) :=
  ⟨[], by kernel_rfl⟩
set_option maxRecDepth 100000 in
theorem routeJoins_lifted (os : Os) (started : os.Started) (H : Type) (enc : TypeId × Value → H) (F : Stop.Interp) :
    ReturnsInHanded {} Try.checked os 4 .any ((Rows.OpenSpec.upto Rows.routeJoinsSpec).preRow enc Try.prog Try.f4 Rows.routeJoinsUptoRow.domain false Rows.routeJoinsUptoRow.laid) (((Rows.OpenSpec.upto Rows.routeJoinsSpec).at F).post enc Try.prog Try.f4 false true false false) := by
  obtain ⟨places, hx⟩ := routeJoins_reads os enc
  refine returnsInHanded_of_row (C := Try.checked) (s := Rows.OpenSpec.upto Rows.routeJoinsSpec) own started (by kernel_rfl) Try.func4
    (witness_row_at (enc := enc) (C := Try.checked) false (World.holding Try.prog os ⟨#[], #[], []⟩) #[.slice none 0 0] rfl (by kernel_rfl) (by kernel_rfl) (by kernel_rfl)
      (OpenSpec.preRow_of_cond 8 hx (by kernel_rfl) (fun k hk => by cases hk; kernel_rfl) (by kernel_rfl) (laidMetH_nil _ _))) ?_
  intro W base args ds gs before hval hW _ hcond hsz hL hsh _
  obtain rfl : gs = [] := by
    obtain ⟨p, q, hA0, hV, _⟩ := hW
    exact (trodVars_none hV).1
  obtain ⟨d0, rfl⟩ : ∃ d0, ds = [d0] := by
    obtain ⟨p, q, hA0, _⟩ := hW
    have hA : DataW.TrodAll enc Try.prog W 0 (fun _ => true) true Try.f4.params.toList args.toList ds p := hA0
    rw [Try.params4] at hA
    obtain ⟨v0, vs0, d0, ds0, p0, q0, _, rfl, _, _, r0⟩ := trodAll_cons hA
    obtain ⟨_, rfl, _⟩ := trodAll_nil r0
    exact ⟨_, rfl⟩
  refine (routeJoins_core enc W base args _ before hval hW (hcond _ rfl) hsz hsh).mono fun e W' ⟨he, hb⟩ => ?_
  subst he
  exact ⟨_, rfl, law_post hW rfl (fun t ht => by rw [Try.params4] at ht; simp only [List.mem_cons, List.not_mem_nil, or_false] at ht; rcases ht with rfl <;> exact ⟨by kernel_rfl, of_decide_eq_true (by kernel_rfl)⟩) rfl rfl rfl rfl hb⟩
theorem routeJoins_saidUpto : Rows.RouteJoinsUptoSaid :=
  OpenClaim.holds_of_cond 4 Try.f4 rfl rfl rfl rfl rfl rfl rfl ⟨rfl, rfl, rfl, rfl, rfl⟩ rfl rfl rfl rfl rfl (by kernel_rfl) Try.func4 (by kernel_rfl)
    (of_decide_eq_true (by kernel_rfl)) (by unfold Func.isWrapper; first | (rw [if_pos (by decide +kernel)]; kernel_rfl) | (rw [if_neg (by decide +kernel)]; exact ⟨rfl, rfl⟩))
    (fun os started H enc _ F => by rw [OpenClaim.pre_eq_preRow]; exact routeJoins_lifted os started H enc F)
end Go.Proofs.Ythhggganhegfhaa
