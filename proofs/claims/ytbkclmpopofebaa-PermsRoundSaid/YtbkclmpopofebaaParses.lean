/-
  PermsParses and PermsRound: for every argument they return true. No condition.
-/
import Derived.Test.YtbkclmpopofebaaParsePlain
import Derived.ShutString
namespace Go.Proofs.Ytbkclmpopofebaa
open Go.ChangeShapes Go.WideShapes Go.ChangeAt Go.RowKit
open Go.ChangeMaps (open_string shut_string)
set_option linter.unusedVariables false

theorem refParse_calls (s : ByteArray) (hs64 : s.size ≤ 9223372036854775807) (w : World) :
    Calls Try.prog 16 #[.string s] w fun e w' => e = .returned (tup3 (parseP s.data.toList)) ∧ Below w.heap.size w w' := by
  rw [parse_one]
  by_cases hs : s.size = 10
  · have hl : s.data.toList.length = 10 := by rw [Array.length_toList]; exact hs
    have hk := rk_le s.data.toList 5
    have hm := rm_le s.data.toList
    by_cases h1 : 1 ≤ rk s.data.toList 5
    · refine refParse_loops s hs ⟨(textL (rk s.data.toList 5) (rm s.data.toList 9)).toArray⟩ 0 (parseR s.data.toList) w (fun w1 => refText_good _ _ h1 (by omega) hm.1 hm.2 w1) ?_
      unfold parseR
      by_cases he : textL (rk s.data.toList 5) (rm s.data.toList 9) = s.data.toList
      · rw [if_pos ⟨hl, h1, he⟩]
        exact Or.inr (Or.inl ⟨rfl, by rw [he], rfl⟩)
      · rw [if_neg (fun h => he h.2.2)]
        refine Or.inr (Or.inr ⟨rfl, fun h => he ?_, rfl⟩)
        have := congrArg (fun b : ByteArray => b.data.toList) h
        simpa using this
    · refine refParse_loops s hs ⟨#[]⟩ 120 (parseR s.data.toList) w (fun w1 => (refText_bad _ _ (by omega) w1).mono fun e w' ⟨h, h'⟩ => ⟨h, h' ▸ Below.refl _ _⟩) ?_
      unfold parseR
      rw [if_neg (fun h => h1 h.2.1)]
      exact Or.inl ⟨rfl, rfl⟩
  · have e : parseR s.data.toList = (0, 0, 120) := by
      unfold parseR
      rw [if_neg (fun h => hs (by have := h.1; rw [Array.length_toList] at this; exact this))]
    rw [e]
    exact refParse_short s hs64 hs w

theorem permsParses_calls (s : ByteArray) (hs : s.size ≤ 140737488351232) (w : World) :
    Calls Try.prog 6 #[.string s] w (Holds w) := by
  have hp := parse_calls s (by omega)
  have hr := refParse_calls s (by omega)
  generalize parseP s.data.toList = x at hp hr
  obtain ⟨k, m, c⟩ := x
  have HP := Lib.hid hp; clear hp
  have HR := Lib.hid hr; clear hr
  go_enter Try.func6, Try.ntmps6
  go_wp2_with fail
  refine (alive_calls w).mono ?_
  rintro e w1 ⟨rfl, hb1⟩
  go_wp2_with fail
  refine (HP.out w1).mono ?_
  rintro e w2 ⟨rfl, hd⟩
  simp only [tup3]
  go_wp2_with fail
  refine (HR.out w2).mono ?_
  rintro e w3 ⟨rfl, hb3⟩
  simp only [tup3]
  go_wp2
  go_ret
  exact holds_mk (Below.next (Below.next hb1 hd.below) hb3)

theorem permsParses_core {H : Type} (enc : TypeId × Value → H) (W : World) (base : Nat) (args : Array Value) (ds : List (DataW H)) (before : List MemPlace)
    (hval : ∀ (j : Nat) t v, Try.f6.params[j]? = some t → args[j]? = some v → Value.okWide Try.prog W .any base t v)
    (hW : DataW.Whole enc Try.prog Try.f6.params.toList [] false W args.toList ds [] before)
    (hsz : (DataW.weightsEach Try.prog (Try.f6.params.toList ++ []) (ds ++ [])).all (· ≤ reachBytes) = true) (hsh : W.ShapedOpen Try.prog) :
    Calls Try.prog 6 args W (Holds W) := by
  obtain ⟨p, q, hA0, hV, rfl, _, _⟩ := hW
  have hA : DataW.TrodAll enc Try.prog W 0 (fun _ => true) true Try.f6.params.toList args.toList ds p := hA0
  rw [Try.params6] at hA hval hsz
  obtain ⟨v0, vs0, d0, ds0, p0, q0, hargs, rfl, rfl, h0, r0⟩ := trodAll_cons hA
  obtain ⟨rfl, rfl, rfl⟩ := trodAll_nil r0
  obtain rfl : args = #[v0] := by cases args; simp_all
  obtain ⟨a0, rfl, rfl, rfl, w0⟩ := open_string Try.underlying9 (hval 0 _ v0 rfl rfl) h0
  have z0 : a0.size ≤ 140737488351232 := by
    have := sized_string hsz (j := 0) (t := 9) rfl rfl
    rw [Array.length_toList] at this; exact this
  exact permsParses_calls a0 z0 W

set_option maxRecDepth 100000 in
theorem permsParses_reads (os : Os) {H : Type} (enc : TypeId × Value → H) : ∃ places, DataW.whole enc Try.prog ((World.holding Try.prog os ⟨#[], #[], []⟩).forCall (fun _ _ => 0) ⟨#[], #[.string .empty], []⟩).memory Try.f6.params.toList Rows.permsParsesSpec.vars false (#[.string .empty] : Array Value).toList 8 = some ([.lit (.string [])], [], places) :=
  ⟨[], by kernel_rfl⟩
set_option maxRecDepth 100000 in
theorem permsParses_lifted (os : Os) (started : os.Started) (H : Type) (enc : TypeId × Value → H) (F : Stop.Interp) :
    ReturnsInHanded {} Try.checked os 6 .any ((OpenSpec.ofChange Rows.permsParsesSpec).preRow enc Try.prog Try.f6 Rows.permsParsesRow.domain false Rows.permsParsesRow.laid) (((OpenSpec.ofChange Rows.permsParsesSpec).at F).post enc Try.prog Try.f6 false true false false) := by
  obtain ⟨places, hx⟩ := permsParses_reads os enc
  refine returnsInHanded_of_row (C := Try.checked) (s := OpenSpec.ofChange Rows.permsParsesSpec) own started (by kernel_rfl) Try.func6
    (witness_row_at (enc := enc) (C := Try.checked) false (World.holding Try.prog os ⟨#[], #[], []⟩) #[.string .empty] rfl (by kernel_rfl) (by kernel_rfl) (by kernel_rfl)
      (OpenSpec.preRow_of_cond 8 hx (by kernel_rfl) (fun k hk => by cases hk) (by kernel_rfl) (laidMetH_nil _ _))) ?_
  intro W base args ds gs before hval hW _ hcond hsz hL hsh _
  obtain rfl : gs = [] := by
    obtain ⟨p, q, hA0, hV, _⟩ := hW
    exact (trodVars_none hV).1
  obtain ⟨d0, rfl⟩ : ∃ d0, ds = [d0] := by
    obtain ⟨p, q, hA0, _⟩ := hW
    have hA : DataW.TrodAll enc Try.prog W 0 (fun _ => true) true Try.f6.params.toList args.toList ds p := hA0
    rw [Try.params6] at hA
    obtain ⟨v0, vs0, d0, ds0, p0, q0, _, rfl, _, _, r0⟩ := trodAll_cons hA
    obtain ⟨_, rfl, _⟩ := trodAll_nil r0
    exact ⟨_, rfl⟩
  refine (permsParses_core enc W base args _ before hval hW hsz hsh).mono fun e W' ⟨he, hb⟩ => ?_
  subst he
  exact ⟨_, rfl, law_post hW rfl (fun t ht => by rw [Try.params6] at ht; simp only [List.mem_cons, List.not_mem_nil, or_false] at ht; rcases ht with rfl <;> exact ⟨by kernel_rfl, of_decide_eq_true (by kernel_rfl)⟩) rfl rfl rfl rfl hb⟩
theorem permsParses_said : Rows.PermsParsesSaid :=
  OpenClaim.holds_of_cond 6 Try.f6 rfl rfl rfl rfl rfl rfl rfl ⟨rfl, rfl, rfl, rfl, rfl⟩ rfl rfl rfl rfl rfl (by kernel_rfl) Try.func6 (by kernel_rfl)
    (of_decide_eq_true (by kernel_rfl)) (by unfold Func.isWrapper; first | (rw [if_pos (by decide +kernel)]; kernel_rfl) | (rw [if_neg (by decide +kernel)]; exact ⟨rfl, rfl⟩))
    (fun os started H enc _ F => by rw [OpenClaim.pre_eq_preRow]; exact permsParses_lifted os started H enc F)
end Go.Proofs.Ytbkclmpopofebaa
