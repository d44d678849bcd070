/-
  TargetSyms: for every list of texts, every text and every pair of numbers that are together of bulk at most 1048576, TargetSyms returns true.
-/
import Derived.Test.YthhggganhegfhaaDoorTargetAlive
import Derived.Deep.RegionHeld3
namespace Go.Proofs.YthhggganhegfhaaDoor
open Go.ChangeShapes Go.WideShapes Go.ChangeAt Go.RowKit
open Go.ChangeMaps (open_string shut_string)
set_option linter.unusedVariables false

/-- 'out = append(out, x, y)' -/
theorem wpList_push2 {α : Type} {P : Program} {ops : Array Oper} {rest : List Oper} {o : Oper} {a : Act} {Q : Exit → Act → World → Prop} (w : World) (hgd : o.guard = none) (s x : Operand) (t : TypeId)
    (ho : o.op = .call { callee := .builtin .append, args := #[s, x], argTypes := #[t, t] })
    (B : Nat) (e : TypeId) (z : Value) (bytes : Nat) (enc : α → Value) (ht : P.underlying t = some (.slice e)) (hi : (P.info? e).map (fun i => (i.zero, i.size, i.bytes)) = some (some z, 1, bytes)) (hzs : z.cells.size = 1)
    (v : Value) (xs : List α) (y y' : α) (n : Nat) (hs : a.eval s = v) (hown : Own w B e enc v xs) (hn : xs.length = n) (N : Nat) (hx : a.eval x = .slice (some ⟨N, 0, none⟩) 2 2) (hN : N = w.heap.size) (h1 : (enc y).oneCell' = true) (h1' : (enc y').oneCell' = true)
    (hbytes : (n + 2) * bytes ≤ 140737488355328) (h63 : n + 2 ≤ maxLen) (hB : B ≤ w.heap.size)
    (h : ∀ g cap w', Own w' B e enc (.slice (some ⟨g, 0, none⟩) (n + 2) cap) (xs ++ [y, y']) → Below B w w' → wpList P ops Q rest (a.put o.dst (.slice (some ⟨g, 0, none⟩) (n + 2) cap)) w') :
    wpList P ops Q (o :: rest) a (w.alloc (.cells #[enc y, enc y'] e)) := by
  subst hN
  subst hn
  obtain ⟨i0, hi1, hz0, hz1, hz2⟩ := info_parts hi
  refine wpList_append_own (w.alloc (.cells #[enc y, enc y'] e)) hgd s x t ho B e i0 z 1 bytes ht hi1 hz0 hz1 hz2 hzs (by omega) v xs.length (xs.map enc) hs (hown.alloc _) ⟨w.heap.size, 0, none⟩ 2 2 [enc y, enc y'] hx rfl ?_ ?_ h63 hbytes (by simp; omega) ?_
  · intro j u hj
    match j, hj with
    | 0, hj =>
      simp only [List.getElem?_cons_zero, Option.some.injEq] at hj
      subst hj
      rw [WideShapes.add_plain, World.cell?_alloc_at _ _ _ _ rfl]; rfl
    | 1, hj =>
      simp only [List.getElem?_cons_succ, List.getElem?_cons_zero, Option.some.injEq] at hj
      subst hj
      rw [WideShapes.add_plain, World.cell?_alloc_at _ _ _ _ rfl]; rfl
  · intro u hu
    simp only [List.mem_cons, List.not_mem_nil, or_false] at hu
    rcases hu with rfl | rfl
    · exact h1
    · exact h1'
  · intro v' w' hown' hgrow hnil
    have hb : Below B w w' := ((Below.refl B w).alloc hB _).grown hgrow (by simp; omega) (fun k hk => (World.ownsRow.lt hown k hk).1)
    have hl : (xs ++ [y, y']).length = xs.length + 2 := by simp
    rcases hown'.2 with ⟨h2, h3⟩ | ⟨g, cap, cur, rfl, _⟩
    · exact absurd h3 (by omega)
    · refine h g cap w' ?_ hb
      unfold Own
      rw [hl, List.map_append]
      exact hown'


def mark : ByteArray := ⟨#[109, 97, 114, 107]⟩
set_option maxHeartbeats 8000000 in
theorem targetSyms_calls (v : Value) (dir : List ByteArray) (text : ByteArray) (a b : Int) (w : World) (h : Rd w strE v dir) (hz : dir.length * 16 ≤ 140737488351232) (hy : text.size ≤ 140737488351232) (hk : tbulk dir + text.size ≤ 1048576) :
    Calls Tryd.prog 3 #[v, .string text, .agg #[.int .i64 a, .int .i64 b]] w (Holds w) := by
  have hl := tbulk_len dir
  obtain ⟨ao, c, rfl⟩ := h.any
  have nb0 := Blk.new w #[.int .i64 a, .int .i64 b] 23
  have b0 : Below w.heap.size w (w.alloc (.cells #[.int .i64 a, .int .i64 b] 23)) := (Below.refl _ _).alloc (Nat.le_refl _) _
  have H := Lib.hid h
  have CPB := Lib.hid (show ∀ wz, Below w.heap.size w wz → Calls Tryd.prog 15 #[.slice ao dir.length c] wz (Fresh wz dir) from fun wz hz' => copyTexts_calls _ dir wz (H.out.below hz') (by omega))
  have S1 := Lib.hid (show ∀ wz u, Rd wz strE u dir → Calls Tryd.prog 16 #[u, .string text, .int .i64 a, .int .i64 b] wz (SymAns wz (symP dir text a b)) from fun wz u hu => sym_calls u dir text a b wz hu (by omega) (by omega))
  have S2 := Lib.hid (show ∀ wz u, Rd wz strE u dir → Calls Tryd.prog 17 #[u, .string text, .int .i64 a, .int .i64 b] wz (SymAns wz (symP dir text a b)) from fun wz u hu => refSym_calls u dir text a b wz hu (by omega) (by omega))
  generalize symP dir text a b = R at *
  have B0 := Lib.hid b0
  have NB0 := Lib.hid nb0
  have hdl : dir.length ≤ 1048576 := by omega
  clear h hz hl b0 nb0 hk
  obtain ⟨dn, hdn⟩ : ∃ dn, dn = dir.length := ⟨_, rfl⟩
  rw [← hdn] at H CPB hdl ⊢
  have HDN := Lib.hid hdn
  clear hdn
  have AL := Lib.hid (fun wz => alive_calls wz)
  go_enter Tryd.func3, Tryd.ntmps3
  go_wp2_with fail
  refine (AL.out _).mono ?_
  rintro e w1 ⟨rfl, hb1⟩
  have B1 := Lib.hid (Below.next B0.out hb1)
  have N1 := Lib.hid (NB0.out.below hb1 NB0.out.lt)
  clear hb1
  go_wp2_with fail
  refine (CPB.out _ B1.out).mono ?_
  rintro e w2 ⟨g2, k2, rfl, ho2, hb2⟩
  rw [← HDN.out] at ho2 ⊢
  have hs2 := hb2.size
  have B2 := Lib.hid (Below.next B1.out hb2)
  have N2 := Lib.hid (N1.out.below hb2 N1.out.lt)
  have L2 := Lib.hid hb2
  clear hb2
  go_wp2_with (at_builtin; refine wpList_push2 w2 rfl (.tmp 16) (.tmp 17) 22 rfl w1.heap.size 9 (.string ⟨#[]⟩) 16 strE Tryd.underlying22 Tryd.info9 rfl _ dir mark mark dn rfl ho2 HDN.out.symm _ rfl rfl rfl rfl (by omega) (by unfold maxLen; omega) hs2 ?_; intro g3 cap3 w3 hown3 hb3)
  have O3 := Lib.hid hown3
  have B3 := Lib.hid (B2.out.trans (hb3.mono B1.out.size))
  have N3 := Lib.hid (N2.out.below hb3 N1.out.lt)
  clear hown3 hb3 ho2 hs2
  have hcap : dn + 2 ≤ cap3 := by have := O3.out.len; omega
  go_wp2_with fail
  have RD3 := Lib.hid (show Rd w3 strE (.slice (some ⟨g3, 0, none⟩) dn cap3) dir from by
    have := (O3.out.cut dn (by rw [List.length_append, ← HDN.out]; omega)).rd
    rw [HDN.out, List.take_left] at this
    rw [HDN.out]
    exact this)
  have CM := Lib.hid (show w3.cell? ⟨g3, dn, none⟩ = some (strE mark) ∧ w3.cell? ⟨g3, dn + 1, none⟩ = some (strE mark) from by
    have k0 := O3.out.cell dn (by rw [List.length_append, ← HDN.out]; simp)
    have k1 := O3.out.cell (dn + 1) (by rw [List.length_append, ← HDN.out]; simp)
    rw [k0, k1]
    simp [HDN.out])
  have G3 := Lib.hid (O3.out.lt (k := g3) rfl).2
  have MK := Lib.hid (show ∀ wz, Below w3.heap.size w3 wz → Below w3.heap.size w3 wz ∧ wz.cell? ⟨w.heap.size, 0, none⟩ = some (.int .i64 a) ∧ wz.cell? ⟨w.heap.size, 1, none⟩ = some (.int .i64 b) from
    fun wz hz' => ⟨hz', (N3.out.below hz' N3.out.lt).cell 0, (N3.out.below hz' N3.out.lt).cell 1⟩)
  have hd0 : (0 : Int) ≤ (dn : Int) := by omega
  have hd1 : (dn : Int) ≤ (cap3 : Int) := by omega
  clear O3 B2 N2 L2 B1 N1 B0 NB0
  go_region_held3 (fun wz => Below w3.heap.size w3 wz ∧ wz.cell? ⟨w.heap.size, 0, none⟩ = some (.int .i64 a) ∧ wz.cell? ⟨w.heap.size, 1, none⟩ = some (.int .i64 b))
    ((refine MK.out _ ?_; first | exact BX.out | exact BX.out.drew | exact Below.refl _ _ | exact (Below.refl _ _).drew))
    (first
      | (go_at_call 16; refine (S1.out _ _ (by first | exact RD3.out | exact RD3.out.drawn ((Drawn.refl _).drew))).mono ?_; rintro e wx ⟨ao4, c4, rfl, ho4, hb4⟩; have BX : Hid (Below w3.heap.size w3 wx) := Lib.hid (Below.next (by first | exact Below.refl _ _ | exact (Below.refl _ _).drew) hb4); have RX := Lib.hid ho4.rd'; clear ho4 hb4))
  rename World => w4
  have B4 := Lib.hid (Below.next B3.out BX.out)
  have N4 := Lib.hid (N3.out.below BX.out N3.out.lt)
  have c0 := N4.out.cell 0
  have c1 := N4.out.cell 1
  simp at c0 c1
  go_wp2_with fail
  refine (S2.out _ _ (H.out.below B4.out)).mono ?_
  rintro e w5 ⟨ao5, c5, rfl, ho5, hb5⟩
  have R5 := Lib.hid ho5.rd'
  have X5 := Lib.hid (Below.next BX.out hb5)
  have RX5 := Lib.hid (RX.out.below hb5)
  have B5 := Lib.hid (Below.next B4.out hb5)
  clear ho5 hb5 c0 c1
  go_wp2_with fail
  refine (sameTexts_calls _ _ _ _ _ RX5.out R5.out).mono ?_
  rintro e w6 ⟨rfl, hd6⟩
  rw [decide_eq_true rfl]
  have X6 := Lib.hid (X5.out.trans (hd6.below _))
  have B6 := Lib.hid (B5.out.trans (hd6.below _))
  clear hd6
  go_wp2_with fail
  refine (sameTexts_calls _ _ dir dir _ (RD3.out.below X6.out) (H.out.below B6.out)).mono ?_
  rintro e w7 ⟨rfl, hd7⟩
  rw [decide_eq_true rfl]
  have X7 := Lib.hid (X6.out.trans (hd7.below _))
  have B7 := Lib.hid (B6.out.trans (hd7.below _))
  have m0 : w7.cell? ⟨g3, dn, none⟩ = some (strE mark) := by rw [X7.out.cell G3.out]; exact CM.out.1
  have m1 : w7.cell? ⟨g3, dn + 1, none⟩ = some (strE mark) := by rw [X7.out.cell G3.out]; exact CM.out.2
  have mk0 : (mark.toList == [109, 97, 114, 107]) = true := by rw [Lib.toList_data]; rfl
  clear hd7
  go_wp2
  go_ret
  exact ⟨rfl, B7.out⟩

theorem targetSyms_core {H : Type} (enc : TypeId × Value → H) (W : World) (base : Nat) (args : Array Value) (ds : List (DataW H)) (before : List MemPlace)
    (hval : ∀ (j : Nat) t v, Tryd.f3.params[j]? = some t → args[j]? = some v → Value.okWide Tryd.prog W .any base t v)
    (hW : DataW.Whole enc Tryd.prog Tryd.f3.params.toList [] false W args.toList ds [] before) (hk : Rows.uptoSmall H (ds ++ []) = true)
    (hsz : (DataW.weightsEach Tryd.prog (Tryd.f3.params.toList ++ []) (ds ++ [])).all (· ≤ reachBytes) = true) (hL : laidMetH Tryd.prog Rows.targetSymsUptoRow.laid W) (hsh : W.ShapedOpen Tryd.prog) :
    Calls Tryd.prog 3 args W (Holds W) := by
  obtain ⟨p, q, hA0, hV, rfl, _, _⟩ := hW
  have hA : DataW.TrodAll enc Tryd.prog W 0 (fun _ => true) true Tryd.f3.params.toList args.toList ds p := hA0
  rw [Tryd.params3] at hA hval hsz
  obtain ⟨v0, vs0, d0, ds0, p0, q0, hargs, rfl, rfl, h0, r0⟩ := trodAll_cons hA
  obtain ⟨v1, vs1, d1, ds1, p1, q1, rfl, rfl, rfl, h1, r1⟩ := trodAll_cons r0
  obtain ⟨v2, vs2, d2, ds2, p2, q2, rfl, rfl, rfl, h2, r2⟩ := trodAll_cons r1
  obtain ⟨rfl, rfl, rfl⟩ := trodAll_nil r2
  obtain rfl : args = #[v0, v1, v2] := by cases args; simp_all
  obtain ⟨a0, rd0, td0, ws0⟩ := open_texts (hval 0 _ v0 rfl rfl) h0
  have z0 := texts_bound hsz (j := 0) rfl rfl td0
  obtain ⟨a1, rfl, rfl, rfl, w1⟩ := open_string Tryd.underlying9 (hval 1 _ v1 rfl rfl) h1
  obtain ⟨a2, b2, rfl⟩ := open_pair (hval 2 _ v2 rfl rfl) h2
  have z1 : a1.size ≤ 140737488351232 := by
    have := sized_string hsz (j := 1) (t := 9) rfl rfl
    rw [Array.length_toList] at this; exact this
  have bk0 : tbulk a0 ≤ Rows.uptoBulk d0 := tbulk_le td0
  have bk1 : a1.size ≤ Rows.uptoBulk (DataW.lit (H := H) (.string a1.data.toList)) := by simp [Rows.uptoBulk]
  have hkk : tbulk a0 + a1.size ≤ 1048576 := by
    have hk2 := of_decide_eq_true hk
    simp only [List.cons_append, List.nil_append, Rows.uptoBulkAll] at hk2
    omega
  exact targetSyms_calls v0 a0 a1 a2 b2 W rd0 z0 z1 hkk

set_option maxRecDepth 100000 in
theorem targetSyms_reads (os : Os) {H : Type} (enc : TypeId × Value → H) : ∃ places, DataW.whole enc Tryd.prog ((laidWorld os).forCall (fun _ _ => 0) ⟨#[], #[.slice none 0 0, .string .empty, .agg #[.int .i64 0, .int .i64 0]], []⟩).memory Tryd.f3.params.toList Rows.targetSymsSpec.vars false (#[.slice none 0 0, .string .empty, .agg #[.int .i64 0, .int .i64 0]] : Array Value).toList 8 = some ([.nil, .lit (.string []), .agg [.lit (.int .i64 0), .lit (.int .i64 0)]], [], places) :=
  ⟨[], by kernel_rfl⟩
set_option maxRecDepth 100000 in
theorem targetSyms_lifted (os : Os) (started : os.Started) (H : Type) (enc : TypeId × Value → H) (F : Stop.Interp) :
    ReturnsInHanded {} Tryd.checked os 3 .any ((Rows.OpenSpec.upto Rows.targetSymsSpec).preRow enc Tryd.prog Tryd.f3 Rows.targetSymsUptoRow.domain false Rows.targetSymsUptoRow.laid) (((Rows.OpenSpec.upto Rows.targetSymsSpec).at F).post enc Tryd.prog Tryd.f3 false true false false) := by
  obtain ⟨places, hx⟩ := targetSyms_reads os enc
  refine returnsInHanded_of_row (C := Tryd.checked) (s := Rows.OpenSpec.upto Rows.targetSymsSpec) own started (by kernel_rfl) Tryd.func3
    (witness_row_at (enc := enc) (C := Tryd.checked) false (laidWorld os) #[.slice none 0 0, .string .empty, .agg #[.int .i64 0, .int .i64 0]] rfl (by kernel_rfl) (by kernel_rfl) (by kernel_rfl)
      (OpenSpec.preRow_of_cond 8 hx (by kernel_rfl) (fun k hk => by cases hk; kernel_rfl) (by kernel_rfl) (laid_met os _))) ?_
  intro W base args ds gs before hval hW _ hcond hsz hL hsh _
  obtain rfl : gs = [] := by
    obtain ⟨p, q, hA0, hV, _⟩ := hW
    exact (trodVars_none hV).1
  obtain ⟨d0, d1, d2, rfl⟩ : ∃ d0 d1 d2, ds = [d0, d1, d2] := by
    obtain ⟨p, q, hA0, _⟩ := hW
    have hA : DataW.TrodAll enc Tryd.prog W 0 (fun _ => true) true Tryd.f3.params.toList args.toList ds p := hA0
    rw [Tryd.params3] at hA
    obtain ⟨v0, vs0, d0, ds0, p0, q0, _, rfl, _, _, r0⟩ := trodAll_cons hA
    obtain ⟨v1, vs1, d1, ds1, p1, q1, _, rfl, _, _, r1⟩ := trodAll_cons r0
    obtain ⟨v2, vs2, d2, ds2, p2, q2, _, rfl, _, _, r2⟩ := trodAll_cons r1
    obtain ⟨_, rfl, _⟩ := trodAll_nil r2
    exact ⟨_, _, _, rfl⟩
  refine (targetSyms_core enc W base args _ before hval hW (hcond _ rfl) hsz hL hsh).mono fun e W' ⟨he, hb⟩ => ?_
  subst he
  exact ⟨_, rfl, law_post hW rfl (fun t ht => by rw [Tryd.params3] at ht; simp only [List.mem_cons, List.not_mem_nil, or_false] at ht; rcases ht with rfl | rfl | rfl <;> exact ⟨by kernel_rfl, of_decide_eq_true (by kernel_rfl)⟩) rfl rfl rfl rfl hb⟩
theorem targetSyms_saidUpto : Rows.TargetSymsUptoSaid :=
  OpenClaim.holds_of_cond 3 Tryd.f3 rfl rfl rfl rfl rfl rfl rfl ⟨rfl, rfl, rfl, rfl, rfl⟩ rfl rfl rfl rfl rfl (by kernel_rfl) Tryd.func3 (by kernel_rfl)
    (of_decide_eq_true (by kernel_rfl)) (by unfold Func.isWrapper; first | (rw [if_pos (by decide +kernel)]; kernel_rfl) | (rw [if_neg (by decide +kernel)]; exact ⟨rfl, rfl⟩))
    (fun os started H enc _ F => by rw [OpenClaim.pre_eq_preRow]; exact targetSyms_lifted os started H enc F)
theorem targetSyms_plain (f : FuncId) (fn : Func) (hf : Tryd.pinned.checked.prog.funcNamed Tryd.f3.name = some f) (hfn : Tryd.pinned.checked.prog.funcs[f]? = some fn) :
    false = Tryd.pinned.checked.prog.looks [] ∧ ∀ (j : Nat) t, fn.params[j]? = some t → Tryd.pinned.checked.prog.wantsStandIn t = false := by
  obtain rfl : f = 3 := Option.some.inj ((show Tryd.prog.funcNamed Tryd.f3.name = some 3 by kernel_rfl).symm.trans hf) |>.symm
  obtain rfl : fn = Tryd.f3 := (Option.some.inj (Tryd.func3.symm.trans hfn)).symm
  refine ⟨by kernel_rfl, fun j t ht => ?_⟩
  rw [Tryd.params3] at ht
  have hm := Array.mem_of_getElem? ht
  simp only [List.mem_toArray, List.mem_cons, List.not_mem_nil, or_false] at hm
  rcases hm with rfl | rfl | rfl
  · exact (show Tryd.prog.wantsStandIn 22 = false by kernel_rfl)
  · exact (show Tryd.prog.wantsStandIn 9 = false by kernel_rfl)
  · exact (show Tryd.prog.wantsStandIn 23 = false by kernel_rfl)
theorem targetSyms_card : Rows.TargetSymsUptoCardSaid :=
  Claim7.holds_tied_plain_at .later [] _ _ _ _ targetSyms_saidUpto (fun _ h => by cases h) (by kernel_rfl) (fun _ h => by cases h) targetSymsUpto_row_tie rfl ⟨rfl, rfl⟩ (by kernel_rfl) rfl targetSyms_plain (by kernel_rfl)
end Go.Proofs.YthhggganhegfhaaDoor
