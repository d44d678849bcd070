/-
  RouteWithins: for every two lists of texts, RouteWithins returns true. No condition.
-/
import Derived.Test.YthhggganhegfhaaWithin
import Derived.Test.YthhggganhegfhaaOpenTexts
import Derived.ShutString
namespace Go.Proofs.Ythhggganhegfhaa
open Go.ChangeShapes Go.WideShapes Go.ChangeAt Go.RowKit
open Go.ChangeMaps (open_string shut_string)
set_option linter.unusedVariables false

theorem within_ab : within [⟨#[97]⟩] [⟨#[97]⟩, ⟨#[98]⟩] = true := by decide

set_option maxHeartbeats 1000000 in
theorem routeWithins_calls (v1 : Value) (xs : List ByteArray) (v2 : Value) (ys : List ByteArray) (w : World) (h1 : Rd w strE v1 xs) (z1 : xs.length * 16 ≤ 140737488351232) (h2 : Rd w strE v2 ys) (z2 : ys.length * 16 ≤ 140737488351232) :
    Calls Try.prog 3 #[v1, v2] w (Holds w) := by
  have hA := rd_lit w strE [⟨#[97]⟩] 9 _ rfl (by decide)
  have hB := rd_lit (w.alloc (.cells #[.string ⟨#[97]⟩] 9)) strE [⟨#[97]⟩, ⟨#[98]⟩] 9 (w.heap.size + 1) (by simp) (by decide)
  have hc := within_calls _ _ _ _ _ (hA.alloc (.cells #[.string ⟨#[97]⟩, .string ⟨#[98]⟩] 9)) hB
  rw [within_ab] at hc
  have HC := Lib.hid hc
  have H1 := Lib.hid h1
  have H2 := Lib.hid h2
  obtain ⟨ao1, c1, rfl⟩ := h1.any
  obtain ⟨ao2, c2, rfl⟩ := h2.any
  clear h1 h2 hA hB hc
  have hb0 : Below w.heap.size w ((w.alloc (.cells #[.string ⟨#[97]⟩] 9)).alloc (.cells #[.string ⟨#[97]⟩, .string ⟨#[98]⟩] 9)) := ((Below.refl _ _).alloc (Nat.le_refl _) _).alloc (by simp) _
  go_enter Try.func3, Try.ntmps3
  go_wp2_with fail
  refine HC.out.mono ?_
  rintro e w1 ⟨rfl, hd1⟩
  have hb1 := hb0.trans (hd1.below _)
  clear hb0
  go_wp2_with fail
  refine (copyTexts_calls _ xs w1 (H1.out.below hb1) z1).mono ?_
  rintro e w2 ⟨g1, k1, rfl, ho1, hb2⟩
  have hbb2 := Below.next hb1 hb2
  go_wp2_with fail
  refine (copyTexts_calls _ ys w2 (H2.out.below hbb2) z2).mono ?_
  rintro e w3 ⟨g2, k2, rfl, ho2, hb3⟩
  have hbb3 := Below.next hbb2 hb3
  have r1 := (ho1.rd.below hb3)
  have r2 := ho2.rd
  have R1 := Lib.hid r1
  have R2 := Lib.hid r2
  clear r1 r2 ho1 ho2 hb1 hb2 hb3 hbb2
  go_wp2_with fail
  refine (within_calls _ _ xs ys w3 R1.out R2.out).mono ?_
  rintro e w4 ⟨rfl, hd4⟩
  go_wp2_with fail
  refine (refWithin_calls _ _ xs ys w4 (H1.out.below (hbb3.trans (hd4.below _))) (H2.out.below (hbb3.trans (hd4.below _)))).mono ?_
  rintro e w5 ⟨rfl, hd5⟩
  have hd5' := hd4.trans hd5
  go_wp2_with fail
  refine (sameTexts_calls _ _ xs xs w5 (R1.out.drawn hd5') (H1.out.below (hbb3.trans (hd5'.below _)))).mono ?_
  rintro e w6 ⟨rfl, hd6⟩
  have hd6' := hd5'.trans hd6
  go_wp2_with fail
  refine (sameTexts_calls _ _ ys ys w6 (R2.out.drawn hd6') (H2.out.below (hbb3.trans (hd6'.below _)))).mono ?_
  rintro e w7 ⟨rfl, hd7⟩
  go_wp2
  go_ret
  exact ⟨by simp, hbb3.trans ((hd6'.trans hd7).below _)⟩

theorem routeWithins_core {H : Type} (enc : TypeId × Value → H) (W : World) (base : Nat) (args : Array Value) (ds : List (DataW H)) (before : List MemPlace)
    (hval : ∀ (j : Nat) t v, Try.f3.params[j]? = some t → args[j]? = some v → Value.okWide Try.prog W .any base t v)
    (hW : DataW.Whole enc Try.prog Try.f3.params.toList [] false W args.toList ds [] before)
    (hsz : (DataW.weightsEach Try.prog (Try.f3.params.toList ++ []) (ds ++ [])).all (· ≤ reachBytes) = true) (hsh : W.ShapedOpen Try.prog) :
    Calls Try.prog 3 args W (Holds W) := by
  obtain ⟨p, q, hA0, hV, rfl, _, _⟩ := hW
  have hA : DataW.TrodAll enc Try.prog W 0 (fun _ => true) true Try.f3.params.toList args.toList ds p := hA0
  rw [Try.params3] at hA hval hsz
  obtain ⟨v0, vs0, d0, ds0, p0, q0, hargs, rfl, rfl, h0, r0⟩ := trodAll_cons hA
  obtain ⟨v1, vs1, d1, ds1, p1, q1, rfl, rfl, rfl, h1, r1⟩ := trodAll_cons r0
  obtain ⟨rfl, rfl, rfl⟩ := trodAll_nil r1
  obtain rfl : args = #[v0, v1] := by cases args; simp_all
  obtain ⟨a0, rd0, td0, ws0⟩ := open_texts (hval 0 _ v0 rfl rfl) h0
  have z0 := texts_bound hsz (j := 0) rfl rfl td0
  obtain ⟨a1, rd1, td1, ws1⟩ := open_texts (hval 1 _ v1 rfl rfl) h1
  have z1 := texts_bound hsz (j := 1) rfl rfl td1
  exact routeWithins_calls v0 a0 v1 a1 W rd0 z0 rd1 z1

set_option maxRecDepth 100000 in
theorem routeWithins_reads (os : Os) {H : Type} (enc : TypeId × Value → H) : ∃ places, DataW.whole enc Try.prog ((World.holding Try.prog os ⟨#[], #[], []⟩).forCall (fun _ _ => 0) ⟨#[], #[.slice none 0 0, .slice none 0 0], []⟩).memory Try.f3.params.toList Rows.routeWithinsSpec.vars false (#[.slice none 0 0, .slice none 0 0] : Array Value).toList 8 = some ([.nil, .nil], [], places) :=
  ⟨[], by kernel_rfl⟩
set_option maxRecDepth 100000 in
theorem routeWithins_lifted (os : Os) (started : os.Started) (H : Type) (enc : TypeId × Value → H) (F : Stop.Interp) :
    ReturnsInHanded {} Try.checked os 3 .any ((OpenSpec.ofChange Rows.routeWithinsSpec).preRow enc Try.prog Try.f3 Rows.routeWithinsRow.domain false Rows.routeWithinsRow.laid) (((OpenSpec.ofChange Rows.routeWithinsSpec).at F).post enc Try.prog Try.f3 false true false false) := by
  obtain ⟨places, hx⟩ := routeWithins_reads os enc
  refine returnsInHanded_of_row (C := Try.checked) (s := OpenSpec.ofChange Rows.routeWithinsSpec) own started (by kernel_rfl) Try.func3
    (witness_row_at (enc := enc) (C := Try.checked) false (World.holding Try.prog os ⟨#[], #[], []⟩) #[.slice none 0 0, .slice none 0 0] rfl (by kernel_rfl) (by kernel_rfl) (by kernel_rfl)
      (OpenSpec.preRow_of_cond 8 hx (by kernel_rfl) (fun k hk => by cases hk) (by kernel_rfl) (laidMetH_nil _ _))) ?_
  intro W base args ds gs before hval hW _ hcond hsz hL hsh _
  obtain rfl : gs = [] := by
    obtain ⟨p, q, hA0, hV, _⟩ := hW
    exact (trodVars_none hV).1
  obtain ⟨d0, d1, rfl⟩ : ∃ d0 d1, ds = [d0, d1] := by
    obtain ⟨p, q, hA0, _⟩ := hW
    have hA : DataW.TrodAll enc Try.prog W 0 (fun _ => true) true Try.f3.params.toList args.toList ds p := hA0
    rw [Try.params3] at hA
    obtain ⟨v0, vs0, d0, ds0, p0, q0, _, rfl, _, _, r0⟩ := trodAll_cons hA
    obtain ⟨v1, vs1, d1, ds1, p1, q1, _, rfl, _, _, r1⟩ := trodAll_cons r0
    obtain ⟨_, rfl, _⟩ := trodAll_nil r1
    exact ⟨_, _, rfl⟩
  refine (routeWithins_core enc W base args _ before hval hW hsz hsh).mono fun e W' ⟨he, hb⟩ => ?_
  subst he
  exact ⟨_, rfl, law_post hW rfl (fun t ht => by rw [Try.params3] at ht; simp only [List.mem_cons, List.not_mem_nil, or_false] at ht; rcases ht with rfl | rfl <;> exact ⟨by kernel_rfl, of_decide_eq_true (by kernel_rfl)⟩) rfl rfl rfl rfl hb⟩
theorem routeWithins_said : Rows.RouteWithinsSaid :=
  OpenClaim.holds_of_cond 3 Try.f3 rfl rfl rfl rfl rfl rfl rfl ⟨rfl, rfl, rfl, rfl, rfl⟩ rfl rfl rfl rfl rfl (by kernel_rfl) Try.func3 (by kernel_rfl)
    (of_decide_eq_true (by kernel_rfl)) (by unfold Func.isWrapper; first | (rw [if_pos (by decide +kernel)]; kernel_rfl) | (rw [if_neg (by decide +kernel)]; exact ⟨rfl, rfl⟩))
    (fun os started H enc _ F => by rw [OpenClaim.pre_eq_preRow]; exact routeWithins_lifted os started H enc F)
end Go.Proofs.Ythhggganhegfhaa
