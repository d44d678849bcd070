/-
  SieveLiteral: for all texts, SieveLiteral returns true. No condition.
-/
import Derived.Test.YtejcpngmllciiaaMatchKit
import Derived.Test.YtejcpngmllciiaaEscape
namespace Go.Proofs.Ytejcpngmllciiaa
open Go.ChangeShapes Go.WideShapes Go.ChangeAt Go.RowKit
open Go.ChangeMaps (open_string shut_string)
set_option linter.unusedVariables false

/-- 'out = append(out, x, y)' -/
theorem wpList_push2 {α : Type} {P : Program} {ops : Array Oper} {rest : List Oper} {o : Oper} {a : Act} {Q : Exit → Act → World → Prop} (w : World) (hgd : o.guard = none) (s x : Operand) (t : TypeId)
    (ho : o.op = .call { callee := .builtin .append, args := #[s, x], argTypes := #[t, t] })
    (B : Nat) (e : TypeId) (z : Value) (bytes : Nat) (enc : α → Value) (ht : P.underlying t = some (.slice e)) (hi : (P.info? e).map (fun i => (i.zero, i.size, i.bytes)) = some (some z, 1, bytes)) (hzs : z.cells.size = 1)
    (v : Value) (xs : List α) (y y' : α) (n : Nat) (hs : a.eval s = v) (hown : Own w B e enc v xs) (hn : xs.length = n) (N : Nat) (hx : a.eval x = .slice (some ⟨N, 0, none⟩) 2 2) (hN : N = w.heap.size) (h1 : (enc y).oneCell' = true) (h1' : (enc y').oneCell' = true)
    (hbytes : (n + 2) * bytes ≤ 140737488355328) (h63 : n + 2 ≤ maxLen) (hB : B ≤ w.heap.size)
    (h : ∀ g cap w', Own w' B e enc (.slice (some ⟨g, 0, none⟩) (n + 2) cap) (xs ++ [y, y']) → Below B w w' → wpList P ops Q rest (a.put o.dst (.slice (some ⟨g, 0, none⟩) (n + 2) cap)) w') :
    wpList P ops Q (o :: rest) a (w.alloc (.cells #[enc y, enc y'] e)) := by
  subst hN
  subst hn
  obtain ⟨i0, hi1, hz0, hz1, hz2⟩ := info_parts hi
  refine wpList_append_own (w.alloc (.cells #[enc y, enc y'] e)) hgd s x t ho B e i0 z 1 bytes ht hi1 hz0 hz1 hz2 hzs (by omega) v xs.length (xs.map enc) hs (hown.alloc _) ⟨w.heap.size, 0, none⟩ 2 2 [enc y, enc y'] hx rfl ?_ ?_ h63 hbytes (by simp; omega) ?_
  · intro j u hj
    match j, hj with
    | 0, hj =>
      simp only [List.getElem?_cons_zero, Option.some.injEq] at hj
      subst hj
      rw [WideShapes.add_plain, World.cell?_alloc_at _ _ _ _ rfl]; rfl
    | 1, hj =>
      simp only [List.getElem?_cons_succ, List.getElem?_cons_zero, Option.some.injEq] at hj
      subst hj
      rw [WideShapes.add_plain, World.cell?_alloc_at _ _ _ _ rfl]; rfl
  · intro u hu
    simp only [List.mem_cons, List.not_mem_nil, or_false] at hu
    rcases hu with rfl | rfl
    · exact h1
    · exact h1'
  · intro v' w' hown' hgrow hnil
    have hb : Below B w w' := ((Below.refl B w).alloc hB _).grown hgrow (by simp; omega) (fun k hk => (World.ownsRow.lt hown k hk).1)
    have hl : (xs ++ [y, y']).length = xs.length + 2 := by simp
    rcases hown'.2 with ⟨h2, h3⟩ | ⟨g, cap, cur, rfl, _⟩
    · exact absurd h3 (by omega)
    · refine h g cap w' ?_ hb
      unfold Own
      rw [hl, List.map_append]
      exact hown'

theorem Own.below {α : Type} {w w' : World} {N B : Nat} {e : TypeId} {enc : α → Value} {g n cap : Nat} {xs : List α} (h : Own w B e enc (.slice (some ⟨g, 0, none⟩) n cap) xs) (hb : Below N w w') (hg : g < N) : Own w' B e enc (.slice (some ⟨g, 0, none⟩) n cap) xs := by
  obtain ⟨h1, h2⟩ := h
  refine ⟨h1, ?_⟩
  rcases h2 with h2 | ⟨g', cap', cur, hv, hg', hh, r⟩
  · exact Or.inl h2
  · cases hv
    exact Or.inr ⟨_, _, cur, rfl, hg', by rw [hb.block _ hg]; exact hh, r⟩

abbrev enU (b : UInt8) : Value := .int .u8 (b.toNat : Int)

set_option maxHeartbeats 1000000 in
theorem sieveLiteral_calls (a b : ByteArray) (ha : a.size ≤ 140737488351232) (hb0 : b.size ≤ 140737488351232) (w : World) : Calls Try.prog 5 #[.string a, .string b] w (Holds w) := by
  by_cases hs : a.size ≤ 2048
  · have g1 : ¬ (2048 : Int) < (a.size : Int) := by omega
    go_enter Try.func5, Try.ntmps5
    go_wp2_with fail
    refine (alive_calls w).mono ?_
    rintro e w1 ⟨rfl, hb⟩
    have X1 := Lib.hid hb
    clear hb
    go_wp2_with fail
    go_loopg [5, 6] a.size (fun g s5 s6 wr => ∃ i g5 cap : Nat, i ≤ a.size ∧ a.size - i ≤ g ∧ s5 = .slice (some ⟨g5, 0, none⟩) (2 * i) cap ∧ s6 = .int .i64 i ∧ Own wr w.heap.size 5 enU s5 (esc (a.data.toList.take i)) ∧ Below w.heap.size w wr)
    case atStart => exact ⟨0, _, _, Nat.zero_le _, Nat.le_refl _, rfl, rfl, own_empty _ _ _ _ X1.out.size, X1.out.alloc X1.out.size _⟩
    case round =>
      obtain ⟨i, g5, cap, hi, hg, rfl, rfl, hown, hbw⟩ := hrel
      have HL := Lib.hid (show (esc (a.data.toList.take i)).length = 2 * i from by rw [esc_len, List.length_take, len_list, Nat.min_eq_left hi])
      by_cases hlt : i < a.size
      · have h0 : (0 : Int) ≤ (i : Int) := by omega
        have h1 : (i : Int) < (a.size : Int) := by omega
        have EE := Lib.hid (show esc (a.data.toList.take i) ++ [92, a[i]'hlt] = esc (a.data.toList.take (i + 1)) from by
          rw [List.take_add_one, esc_append]
          congr 1
          have hll : i < a.data.toList.length := by rw [len_list]; exact hlt
          rw [List.getElem?_eq_getElem hll]
          rfl)
        have hsz := hbw.size
        have BW := Lib.hid hbw
        clear hbw
        go_wp2_with (at_builtin; refine wpList_push2 wr rfl (.tmp 23) (.tmp 27) 29 rfl w.heap.size 5 (.int .u8 0) 1 enU rfl rfl rfl _ (esc (a.data.toList.take i)) 92 (a[i]'hlt) (2 * i) rfl hown HL.out _ rfl rfl rfl rfl (by omega) (by simp [maxLen]; omega) hsz ?_; intro g2 cap2 w2 hown2 hb2)
        rw [EE.out] at hown2
        have H2 := Lib.hid hown2
        have B2 := Lib.hid (BW.out.trans hb2)
        clear hown2 hb2 hown
        go_wp2_with fail
        go_roundg (a.size - (i + 1))
        case measure => omega
        case rel => exact ⟨i + 1, g2, cap2, by omega, by omega, rfl, by go_num, H2.out, B2.out⟩
      · obtain rfl : i = a.size := by omega
        rw [show a.data.toList.take a.size = a.data.toList from by rw [← len_list, List.take_length]] at hown
        have hconv := conv_own (P := Try.prog) (src := 29) (dst := 9) hown rfl rfl rfl
        have hconv2 := fun (wz : World) (hz : Below w.heap.size wr wz) => True.intro
        have BW := Lib.hid hbw
        have HO := Lib.hid hown
        have M1 := Lib.hid (fun w => match_calls w ⟨(esc a.data.toList).toArray⟩ a (by show (esc a.data.toList).toArray.size ≤ _; rw [List.size_toArray, esc_len, len_list]; omega) ha)
        have M2 := Lib.hid (fun w => match_calls w ⟨(esc a.data.toList).toArray⟩ b (by show (esc a.data.toList).toArray.size ≤ _; rw [List.size_toArray, esc_len, len_list]; omega) hb0)
        have E0 : (ByteArray.mk (esc a.data.toList).toArray).data.toList = esc a.data.toList := rfl
        rw [E0, ans_esc _ _ (by rw [len_list]; exact hs), err_esc _ (by rw [len_list]; exact hs)] at M1 M2
        rw [decide_eq_true rfl] at M1
        clear hbw hown E0 hconv2
        go_wp2_with fail
        refine (M1.out wr).mono ?_
        rintro e w2 ⟨rfl, hb⟩
        have X2 := Lib.hid (BW.out.trans (hb.mono BW.out.size))
        have hconv2 := conv_own (P := Try.prog) (src := 29) (dst := 9) (HO.out.below hb HO.out.len.2.2.2.2) rfl rfl rfl
        clear hb hconv BW HO M1
        go_wp2_with fail
        refine (M2.out w2).mono ?_
        rintro e w3 ⟨rfl, hb⟩
        have X3 := Lib.hid (X2.out.trans (hb.mono X2.out.size))
        clear hb hconv2 M2 X2
        by_cases hab : a = b
        · subst hab
          go_wp2_with fail
          go_ret
          exact ⟨rfl, X3.out⟩
        · have hab2 : ¬ a.data.toList = b.data.toList := fun h => hab (ByteArray.ext (Array.toList_inj.1 h))
          rw [decide_eq_false hab2]
          have hab3 : (a.toList == b.toList) = false := by rw [ByteArray.toList_eq, ByteArray.toList_eq]; simpa using hab2
          replace hab := Lib.hid hab
          clear hab2
          go_wp2_with fail
          go_ret
          exact ⟨rfl, X3.out⟩
  · have g1 : (2048 : Int) < (a.size : Int) := by omega
    go_enter Try.func5, Try.ntmps5
    go_wp2_with fail
    refine (alive_calls w).mono ?_
    rintro e w1 ⟨rfl, hb⟩
    have X1 := Lib.hid hb
    clear hb
    go_wp2_with fail
    go_ret
    exact ⟨rfl, X1.out⟩
theorem sieveLiteral_core {H : Type} (enc : TypeId × Value → H) (W : World) (base : Nat) (args : Array Value) (ds : List (DataW H)) (before : List MemPlace)
    (hval : ∀ (j : Nat) t v, Try.f5.params[j]? = some t → args[j]? = some v → Value.okWide Try.prog W .any base t v)
    (hW : DataW.Whole enc Try.prog Try.f5.params.toList [] false W args.toList ds [] before)
    (hsz : (DataW.weightsEach Try.prog (Try.f5.params.toList ++ []) (ds ++ [])).all (· ≤ reachBytes) = true) (hsh : W.ShapedOpen Try.prog) :
    Calls Try.prog 5 args W (Holds W) := by
  obtain ⟨p, q, hA0, hV, rfl, _, _⟩ := hW
  have hA : DataW.TrodAll enc Try.prog W 0 (fun _ => true) true Try.f5.params.toList args.toList ds p := hA0
  rw [Try.params5] at hA hval hsz
  obtain ⟨v0, vs0, d0, ds0, p0, q0, hargs, rfl, rfl, h0, r0⟩ := trodAll_cons hA
  obtain ⟨v1, vs1, d1, ds1, p1, q1, rfl, rfl, rfl, h1, r1⟩ := trodAll_cons r0
  obtain ⟨rfl, rfl, rfl⟩ := trodAll_nil r1
  obtain rfl : args = #[v0, v1] := by cases args; simp_all
  obtain ⟨a0, rfl, rfl, rfl, w0⟩ := open_string Try.underlying9 (hval 0 _ v0 rfl rfl) h0
  obtain ⟨a1, rfl, rfl, rfl, w1⟩ := open_string Try.underlying9 (hval 1 _ v1 rfl rfl) h1
  have z0 : a0.size ≤ 140737488351232 := by
    have := sized_string hsz (j := 0) (t := 9) rfl rfl
    rw [Array.length_toList] at this; exact this
  have z1 : a1.size ≤ 140737488351232 := by
    have := sized_string hsz (j := 1) (t := 9) rfl rfl
    rw [Array.length_toList] at this; exact this
  exact sieveLiteral_calls a0 a1 z0 z1 W

set_option maxRecDepth 100000 in
theorem sieveLiteral_reads (os : Os) {H : Type} (enc : TypeId × Value → H) : ∃ places, DataW.whole enc Try.prog ((World.holding Try.prog os ⟨#[], #[], []⟩).forCall (fun _ _ => 0) ⟨#[], #[.string .empty, .string .empty], []⟩).memory Try.f5.params.toList Rows.sieveLiteralSpec.vars false (#[.string .empty, .string .empty] : Array Value).toList 8 = some ([.lit (.string []), .lit (.string [])], [], places) :=
  ⟨[], by kernel_rfl⟩
set_option maxRecDepth 100000 in
theorem sieveLiteral_lifted (os : Os) (started : os.Started) (H : Type) (enc : TypeId × Value → H) (F : Stop.Interp) :
    ReturnsInHanded {} Try.checked os 5 .any ((OpenSpec.ofChange Rows.sieveLiteralSpec).preRow enc Try.prog Try.f5 Rows.sieveLiteralRow.domain false Rows.sieveLiteralRow.laid) (((OpenSpec.ofChange Rows.sieveLiteralSpec).at F).post enc Try.prog Try.f5 false true false false) := by
  obtain ⟨places, hx⟩ := sieveLiteral_reads os enc
  refine returnsInHanded_of_row (C := Try.checked) (s := OpenSpec.ofChange Rows.sieveLiteralSpec) own started (by kernel_rfl) Try.func5
    (witness_row_at (enc := enc) (C := Try.checked) false (World.holding Try.prog os ⟨#[], #[], []⟩) #[.string .empty, .string .empty] rfl (by kernel_rfl) (by kernel_rfl) (by kernel_rfl)
      (OpenSpec.preRow_of_cond 8 hx (by kernel_rfl) (fun k hk => by cases hk) (by kernel_rfl) (laidMetH_nil _ _))) ?_
  intro W base args ds gs before hval hW _ hcond hsz hL hsh _
  obtain rfl : gs = [] := by
    obtain ⟨p, q, hA0, hV, _⟩ := hW
    exact (trodVars_none hV).1
  obtain ⟨d0, d1, rfl⟩ : ∃ d0 d1, ds = [d0, d1] := by
    obtain ⟨p, q, hA0, _⟩ := hW
    have hA : DataW.TrodAll enc Try.prog W 0 (fun _ => true) true Try.f5.params.toList args.toList ds p := hA0
    rw [Try.params5] at hA
    obtain ⟨v0, vs0, d0, ds0, p0, q0, _, rfl, _, _, r0⟩ := trodAll_cons hA
    obtain ⟨v1, vs1, d1, ds1, p1, q1, _, rfl, _, _, r1⟩ := trodAll_cons r0
    obtain ⟨_, rfl, _⟩ := trodAll_nil r1
    exact ⟨_, _, rfl⟩
  refine (sieveLiteral_core enc W base args _ before hval hW hsz hsh).mono fun e W' ⟨he, hb⟩ => ?_
  subst he
  exact ⟨_, rfl, law_post hW rfl (fun t ht => by rw [Try.params5] at ht; simp only [List.mem_cons, List.not_mem_nil, or_false] at ht; rcases ht with rfl | rfl <;> exact ⟨by kernel_rfl, of_decide_eq_true (by kernel_rfl)⟩) rfl rfl rfl rfl hb⟩
theorem sieveLiteral_said : Rows.SieveLiteralSaid :=
  OpenClaim.holds_of_cond 5 Try.f5 rfl rfl rfl rfl rfl rfl rfl ⟨rfl, rfl, rfl, rfl, rfl⟩ rfl rfl rfl rfl rfl (by kernel_rfl) Try.func5 (by kernel_rfl)
    (of_decide_eq_true (by kernel_rfl)) (by unfold Func.isWrapper; first | (rw [if_pos (by decide +kernel)]; kernel_rfl) | (rw [if_neg (by decide +kernel)]; exact ⟨rfl, rfl⟩))
    (fun os started H enc _ F => by rw [OpenClaim.pre_eq_preRow]; exact sieveLiteral_lifted os started H enc F)
end Go.Proofs.Ytejcpngmllciiaa
