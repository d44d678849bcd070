/-
  SieveChosen: for all lists of patterns and every text, SieveChosen returns true. No condition.
-/
import Derived.Test.YtejcpngmllciiaaRefChosen
import Derived.Test.YtejcpngmllciiaaMatchKit
import Derived.Test.YtejcpngmllciiaaOpenTexts
namespace Go.Proofs.Ytejcpngmllciiaa
open Go.ChangeShapes Go.WideShapes Go.ChangeAt Go.RowKit
open Go.ChangeMaps (open_string shut_string)
set_option linter.unusedVariables false

set_option maxHeartbeats 1000000 in
theorem sieveChosen_calls (v1 : Value) (inc : List ByteArray) (v2 : Value) (exc : List ByteArray) (t : ByteArray) (w : World)
    (h1 : Rd w strE v1 inc) (z1 : inc.length * 16 ≤ 140737488351232) (y1 : ∀ p ∈ inc, p.size ≤ 140737488351232)
    (h2 : Rd w strE v2 exc) (z2 : exc.length * 16 ≤ 140737488351232) (y2 : ∀ p ∈ exc, p.size ≤ 140737488351232) (ht : t.size ≤ 140737488351232) :
    Calls Try.prog 8 #[v1, v2, .string t] w (Holds w) := by
  obtain ⟨ao, c, rfl⟩ := h1.any
  obtain ⟨ao2, c2, rfl⟩ := h2.any
  have R1 := Lib.hid h1
  have R2 := Lib.hid h2
  have Y := Lib.hid (show ∀ p ∈ inc ++ exc, p.size ≤ 140737488351232 from fun p hp => by
    rcases List.mem_append.1 hp with h | h
    · exact y1 p h
    · exact y2 p h)
  clear h1 h2 y1 y2
  by_cases hs : t.size ≤ 200
  · have HT := Lib.hid hs
    have g2 : ¬ (200 : Int) < (t.size : Int) := by omega
    clear hs
    go_enter Try.func8, Try.ntmps8
    go_wp2_with fail
    refine (alive_calls w).mono ?_
    rintro e w1 ⟨rfl, hb⟩
    have X1 := Lib.hid hb
    clear hb
    go_wp2_with fail
    refine (copyTexts_calls _ inc w1 (R1.out.below X1.out) z1).mono ?_
    rintro e w2 ⟨g1, k1, rfl, ho1, hb2⟩
    have X2 := Lib.hid (Below.next X1.out hb2)
    have C1 := Lib.hid ho1.rd
    clear hb2 ho1
    go_wp2_with fail
    refine (copyTexts_calls _ exc w2 (R2.out.below X2.out) z2).mono ?_
    rintro e w3 ⟨g2, k2, rfl, ho2, hb3⟩
    have X3 := Lib.hid (Below.next X2.out hb3)
    have C1' := Lib.hid (C1.out.below hb3)
    have C2 := Lib.hid ho2.rd
    clear hb3 ho2 C1
    go_wp2_with fail
    refine (chosen_calls w3 _ _ inc exc t C1'.out C2.out Y.out ht).mono ?_
    rintro e w4 ⟨rfl, hb⟩
    have X4 := Lib.hid (Below.next X3.out hb)
    have C1 := Lib.hid (C1'.out.below hb)
    have C2' := Lib.hid (C2.out.below hb)
    clear hb C1' C2
    go_wp2_with fail
    refine (refChosen_calls w4 _ _ inc exc t (R1.out.below X4.out) (R2.out.below X4.out) Y.out HT.out).mono ?_
    rintro e w5 ⟨rfl, hb⟩
    have X5 := Lib.hid (Below.next X4.out hb)
    have C1' := Lib.hid (C1.out.below hb)
    have C2 := Lib.hid (C2'.out.below hb)
    clear hb C1 C2'
    go_wp2_with fail
    refine (sameTexts_calls _ _ inc inc w5 C1'.out (R1.out.below X5.out)).mono ?_
    rintro e w6 ⟨rfl, hd⟩
    have X6 := Lib.hid (X5.out.trans (hd.below _))
    have C2' := Lib.hid (C2.out.drawn hd)
    clear hd C2
    go_wp2_with fail
    refine (sameTexts_calls _ _ exc exc w6 C2'.out (R2.out.below X6.out)).mono ?_
    rintro e w7 ⟨rfl, hd⟩
    have X7 := Lib.hid (X6.out.trans (hd.below _))
    clear hd
    go_wp2_with fail
    go_ret
    exact ⟨by simp, X7.out⟩
  · have g2 : (200 : Int) < (t.size : Int) := by omega
    clear hs
    go_enter Try.func8, Try.ntmps8
    go_wp2_with fail
    refine (alive_calls w).mono ?_
    rintro e w1 ⟨rfl, hb⟩
    have X1 := Lib.hid hb
    clear hb
    go_wp2_with fail
    go_ret
    exact ⟨rfl, X1.out⟩
theorem sieveChosen_core {H : Type} (enc : TypeId × Value → H) (W : World) (base : Nat) (args : Array Value) (ds : List (DataW H)) (before : List MemPlace)
    (hval : ∀ (j : Nat) t v, Try.f8.params[j]? = some t → args[j]? = some v → Value.okWide Try.prog W .any base t v)
    (hW : DataW.Whole enc Try.prog Try.f8.params.toList [] false W args.toList ds [] before)
    (hsz : (DataW.weightsEach Try.prog (Try.f8.params.toList ++ []) (ds ++ [])).all (· ≤ reachBytes) = true) (hsh : W.ShapedOpen Try.prog) :
    Calls Try.prog 8 args W (Holds W) := by
  obtain ⟨p, q, hA0, hV, rfl, _, _⟩ := hW
  have hA : DataW.TrodAll enc Try.prog W 0 (fun _ => true) true Try.f8.params.toList args.toList ds p := hA0
  rw [Try.params8] at hA hval hsz
  obtain ⟨v0, vs0, d0, ds0, p0, q0, hargs, rfl, rfl, h0, r0⟩ := trodAll_cons hA
  obtain ⟨v1, vs1, d1, ds1, p1, q1, rfl, rfl, rfl, h1, r1⟩ := trodAll_cons r0
  obtain ⟨v2, vs2, d2, ds2, p2, q2, rfl, rfl, rfl, h2, r2⟩ := trodAll_cons r1
  obtain ⟨rfl, rfl, rfl⟩ := trodAll_nil r2
  obtain rfl : args = #[v0, v1, v2] := by cases args; simp_all
  obtain ⟨a0, rd0, td0, ws0⟩ := open_texts (hval 0 _ v0 rfl rfl) h0
  have z0 := texts_bound hsz (j := 0) rfl rfl td0
  have y0 := texts_sizes hsz (j := 0) rfl rfl td0
  obtain ⟨a1, rd1, td1, ws1⟩ := open_texts (hval 1 _ v1 rfl rfl) h1
  have z1 := texts_bound hsz (j := 1) rfl rfl td1
  have y1 := texts_sizes hsz (j := 1) rfl rfl td1
  obtain ⟨a2, rfl, rfl, rfl, w2⟩ := open_string Try.underlying9 (hval 2 _ v2 rfl rfl) h2
  have z2 : a2.size ≤ 140737488351232 := by
    have := sized_string hsz (j := 2) (t := 9) rfl rfl
    rw [Array.length_toList] at this; exact this
  exact sieveChosen_calls v0 a0 v1 a1 a2 W rd0 z0 y0 rd1 z1 y1 z2

set_option maxRecDepth 100000 in
theorem sieveChosen_reads (os : Os) {H : Type} (enc : TypeId × Value → H) : ∃ places, DataW.whole enc Try.prog ((World.holding Try.prog os ⟨#[], #[], []⟩).forCall (fun _ _ => 0) ⟨#[], #[.slice none 0 0, .slice none 0 0, .string .empty], []⟩).memory Try.f8.params.toList Rows.sieveChosenSpec.vars false (#[.slice none 0 0, .slice none 0 0, .string .empty] : Array Value).toList 8 = some ([.nil, .nil, .lit (.string [])], [], places) :=
  ⟨[], by kernel_rfl⟩
set_option maxRecDepth 100000 in
theorem sieveChosen_lifted (os : Os) (started : os.Started) (H : Type) (enc : TypeId × Value → H) (F : Stop.Interp) :
    ReturnsInHanded {} Try.checked os 8 .any ((OpenSpec.ofChange Rows.sieveChosenSpec).preRow enc Try.prog Try.f8 Rows.sieveChosenRow.domain false Rows.sieveChosenRow.laid) (((OpenSpec.ofChange Rows.sieveChosenSpec).at F).post enc Try.prog Try.f8 false true false false) := by
  obtain ⟨places, hx⟩ := sieveChosen_reads os enc
  refine returnsInHanded_of_row (C := Try.checked) (s := OpenSpec.ofChange Rows.sieveChosenSpec) own started (by kernel_rfl) Try.func8
    (witness_row_at (enc := enc) (C := Try.checked) false (World.holding Try.prog os ⟨#[], #[], []⟩) #[.slice none 0 0, .slice none 0 0, .string .empty] rfl (by kernel_rfl) (by kernel_rfl) (by kernel_rfl)
      (OpenSpec.preRow_of_cond 8 hx (by kernel_rfl) (fun k hk => by cases hk) (by kernel_rfl) (laidMetH_nil _ _))) ?_
  intro W base args ds gs before hval hW _ hcond hsz hL hsh _
  obtain rfl : gs = [] := by
    obtain ⟨p, q, hA0, hV, _⟩ := hW
    exact (trodVars_none hV).1
  obtain ⟨d0, d1, d2, rfl⟩ : ∃ d0 d1 d2, ds = [d0, d1, d2] := by
    obtain ⟨p, q, hA0, _⟩ := hW
    have hA : DataW.TrodAll enc Try.prog W 0 (fun _ => true) true Try.f8.params.toList args.toList ds p := hA0
    rw [Try.params8] at hA
    obtain ⟨v0, vs0, d0, ds0, p0, q0, _, rfl, _, _, r0⟩ := trodAll_cons hA
    obtain ⟨v1, vs1, d1, ds1, p1, q1, _, rfl, _, _, r1⟩ := trodAll_cons r0
    obtain ⟨v2, vs2, d2, ds2, p2, q2, _, rfl, _, _, r2⟩ := trodAll_cons r1
    obtain ⟨_, rfl, _⟩ := trodAll_nil r2
    exact ⟨_, _, _, rfl⟩
  refine (sieveChosen_core enc W base args _ before hval hW hsz hsh).mono fun e W' ⟨he, hb⟩ => ?_
  subst he
  exact ⟨_, rfl, law_post hW rfl (fun t ht => by rw [Try.params8] at ht; simp only [List.mem_cons, List.not_mem_nil, or_false] at ht; rcases ht with rfl | rfl | rfl <;> exact ⟨by kernel_rfl, of_decide_eq_true (by kernel_rfl)⟩) rfl rfl rfl rfl hb⟩
theorem sieveChosen_said : Rows.SieveChosenSaid :=
  OpenClaim.holds_of_cond 8 Try.f8 rfl rfl rfl rfl rfl rfl rfl ⟨rfl, rfl, rfl, rfl, rfl⟩ rfl rfl rfl rfl rfl (by kernel_rfl) Try.func8 (by kernel_rfl)
    (of_decide_eq_true (by kernel_rfl)) (by unfold Func.isWrapper; first | (rw [if_pos (by decide +kernel)]; kernel_rfl) | (rw [if_neg (by decide +kernel)]; exact ⟨rfl, rfl⟩))
    (fun os started H enc _ F => by rw [OpenClaim.pre_eq_preRow]; exact sieveChosen_lifted os started H enc F)
end Go.Proofs.Ytejcpngmllciiaa
