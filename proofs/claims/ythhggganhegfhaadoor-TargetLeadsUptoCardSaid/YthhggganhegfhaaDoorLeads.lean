/-
  TargetLeads: for every two lists of texts that are together of bulk at most 1048576, TargetLeads returns true.
-/
import Derived.Test.YthhggganhegfhaaDoorLeadsPlain
namespace Go.Proofs.YthhggganhegfhaaDoor
open Go.ChangeShapes Go.WideShapes Go.ChangeAt Go.RowKit
open Go.ChangeMaps (open_string shut_string)
set_option linter.unusedVariables false

theorem cell_of {w : World} {ao : Option Addr} {n c : Nat} {f : List ByteArray} (h : Rd w strE (.slice ao n c) f) (k : Nat) (hk : k < f.length) : ∃ b o, ao = some ⟨b, o, none⟩ ∧ w.cell? ⟨b, o + k, none⟩ = some (strE (f[k])) := by
  rcases h.cases with ⟨e, _⟩ | ⟨_, b, o, c, hv, _, _, hc⟩
  · rw [e] at hk; simp at hk
  · simp only [Value.slice.injEq] at hv
    exact ⟨b, o, hv.1, hc k hk⟩

set_option maxHeartbeats 8000000 in
theorem targetLeads_calls (v1 : Value) (f : List ByteArray) (v2 : Value) (t : List ByteArray) (w : World) (h1 : Rd w strE v1 f) (z1 : f.length * 16 ≤ 140737488351232) (h2 : Rd w strE v2 t) (z2 : t.length * 16 ≤ 140737488351232) (hk : tbulk f + tbulk t ≤ 1048576) :
    Calls Tryd.prog 13 #[v1, v2] w (Holds w) := by
  have hf := tbulk_len f
  have ht := tbulk_len t
  have hB := relB_size f t
  obtain ⟨ao1, c1, rfl⟩ := h1.any
  obtain ⟨ao2, c2, rfl⟩ := h2.any
  have H1 := Lib.hid h1
  have H2 := Lib.hid h2
  have AL := Lib.hid (fun wz => alive_calls wz)
  have F1 := Lib.hid (fun k hk => cell_of h1 k hk)
  have F2 := Lib.hid (fun k hk => cell_of h2 k hk)
  have CF := Lib.hid (show ∀ wz, Below w.heap.size w wz → Calls Tryd.prog 15 #[.slice ao1 f.length c1] wz fun e w' => ∃ g k, e = .returned (.slice (some ⟨g, 0, none⟩) f.length k) ∧ Rd w' strE (.slice (some ⟨g, 0, none⟩) f.length k) f ∧ Below wz.heap.size wz w' from fun wz hz' =>
    (copyTexts_calls _ f wz (h1.below hz') (by omega)).mono fun e w' ⟨g, k, he, ho, hb⟩ => ⟨g, k, he, ho.rd, hb⟩)
  have CT := Lib.hid (show ∀ wz, Below w.heap.size w wz → Calls Tryd.prog 15 #[.slice ao2 t.length c2] wz fun e w' => ∃ g k, e = .returned (.slice (some ⟨g, 0, none⟩) t.length k) ∧ Rd w' strE (.slice (some ⟨g, 0, none⟩) t.length k) t ∧ Below wz.heap.size wz w' from fun wz hz' =>
    (copyTexts_calls _ t wz (h2.below hz') (by omega)).mono fun e w' ⟨g, k, he, ho, hb⟩ => ⟨g, k, he, ho.rd, hb⟩)
  have RC := Lib.hid (fun wz u v (hu : Rd wz strE u f) (hv : Rd wz strE v t) => relative_calls u v f t wz hu hv (by omega))
  have SY := Lib.hid (show (∀ p ∈ t, goodB p = true) → ∀ wz u, Rd wz strE u f → Calls Tryd.prog 16 #[u, .string (relB f t), .int .i64 1, .int .i64 (relB f t).size] wz fun e w' => ∃ ao cap, e = .returned (.tuple #[.slice ao t.length cap, .int .i64 0]) ∧ Rd w' strE (.slice ao t.length cap) t ∧ Below wz.heap.size wz w' from fun hg wz u hu =>
    (sym_calls u f (relB f t) 1 _ wz hu (by omega) (by omega)).mono fun e w' ha => by
      rw [sym_rel hg] at ha
      obtain ⟨ao', cap, he, ho, hb⟩ := ha
      exact ⟨ao', cap, he, ho.rd', hb⟩)
  obtain ⟨n1, hn1⟩ : ∃ n1, n1 = f.length := ⟨_, rfl⟩
  obtain ⟨n2, hn2⟩ : ∃ n2, n2 = t.length := ⟨_, rfl⟩
  have HN1 := Lib.hid hn1
  have HN2 := Lib.hid hn2
  generalize relB f t = RR at *
  clear h1 h2 hB z1 z2
  have hf' : f.length ≤ 1048576 := by omega
  have ht' : t.length ≤ 1048576 := by omega
  rw [← hn1] at CF hf' ⊢
  rw [← hn2] at CT SY ht' H2 ⊢
  clear H1 hf ht
  clear hn1 hn2 hk
  go_enter Tryd.func13, Tryd.ntmps13
  go_wp2_with fail
  refine (AL.out _).mono ?_
  rintro e w1 ⟨rfl, hb1⟩
  have B1 := Lib.hid hb1
  clear hb1
  go_wp2_with fail
  go_loopg [5] n1 (fun g s5 wr => ∃ i : Nat, s5 = .int .i64 i ∧ i ≤ n1 ∧ n1 - i ≤ g ∧ Hid (Below w.heap.size w wr))
  case atStart => exact ⟨0, rfl, Nat.zero_le _, by omega, B1⟩
  case round =>
    obtain ⟨i, rfl, hi, hg, BB⟩ := hrel
    rename World => wr
    by_cases hlt : i < n1
    · obtain ⟨b, o, rfl, g1⟩ := F1.out i (by rw [← HN1.out]; exact hlt)
      have g2 := (BB.out.cell (lt_of_cell g1)).trans g1
      clear g1
      generalize f[i]'(by rw [← HN1.out]; exact hlt) = x at g2
      have hgc := good_calls x wr
      cases hgx : goodB x with
      | false =>
        rw [hgx] at hgc
        have GC := Lib.hid hgc
        clear hgc hgx
        go_wp2_with fail
        refine GC.out.mono ?_
        rintro e w5 ⟨rfl, hb5⟩
        have B5 := Lib.hid (Below.next BB.out hb5)
        clear hb5
        go_wp2
        go_ret
        exact ⟨rfl, B5.out⟩
      | true =>
        rw [hgx] at hgc
        have GC := Lib.hid hgc
        clear hgc hgx
        go_wp2_with fail
        refine GC.out.mono ?_
        rintro e w5 ⟨rfl, hb5⟩
        have B5 := Lib.hid (Below.next BB.out hb5)
        clear hb5
        go_wp2
        go_roundg (n1 - (i + 1))
        case measure => omega
        case rel => exact ⟨i + 1, by go_num, by omega, Nat.le_refl _, B5⟩
    · obtain rfl : i = n1 := by omega
      obtain ⟨w2, hw2⟩ : ∃ w2, w2 = wr := ⟨_, rfl⟩
      go_wp2_with fail
      go_loopg [6] n2 (fun g s6 wr => ∃ j : Nat, s6 = .int .i64 j ∧ j ≤ n2 ∧ n2 - j ≤ g ∧ Hid (∀ k (h : k < t.length), k < j → goodB t[k] = true) ∧ Hid (Below w.heap.size w wr))
      case atStart => exact ⟨0, rfl, Nat.zero_le _, by omega, Lib.hid (fun k _ h => absurd h (Nat.not_lt_zero _)), BB⟩
      case round =>
        clear hw2 w2
        obtain ⟨j, rfl, hj, hg', GG, BC⟩ := hrel
        rename World => wx
        by_cases hlt : j < n2
        · have hjl : j < t.length := by rw [← HN2.out]; exact hlt
          obtain ⟨b, o, rfl, g1⟩ := F2.out j hjl
          have g2 := (BC.out.cell (lt_of_cell g1)).trans g1
          have GN := Lib.hid (show goodB t[j] = true → ∀ k (h : k < t.length), k < j + 1 → goodB t[k] = true from fun e k h hkj => by
            rcases Nat.lt_or_ge k j with h' | h'
            · exact GG.out k h h'
            · obtain rfl : k = j := by omega
              exact e)
          clear g1 GG
          generalize t[j] = x at g2 GN
          have hgc := good_calls x wx
          cases hgx : goodB x with
          | false =>
            rw [hgx] at hgc
            have GC := Lib.hid hgc
            clear hgc hgx GN hjl
            go_wp2_with fail
            refine GC.out.mono ?_
            rintro e w5 ⟨rfl, hb5⟩
            have B5 := Lib.hid (Below.next BC.out hb5)
            clear hb5
            go_wp2
            go_ret
            exact ⟨rfl, B5.out⟩
          | true =>
            rw [hgx] at hgc
            have GC := Lib.hid hgc
            have G2 := Lib.hid (GN.out hgx)
            clear hgc hgx GN hjl
            go_wp2_with fail
            refine GC.out.mono ?_
            rintro e w5 ⟨rfl, hb5⟩
            have B5 := Lib.hid (Below.next BC.out hb5)
            clear hb5
            go_wp2
            go_roundg (n2 - (j + 1))
            case measure => omega
            case rel => exact ⟨j + 1, by go_num, by omega, Nat.le_refl _, G2, B5⟩
        · obtain rfl : j = n2 := by omega
          have SZ := Lib.hid (SY.out (fun p hp => by
            obtain ⟨k, hk, rfl⟩ := List.getElem_of_mem hp
            exact GG.out k hk (by rw [HN2.out]; exact hk)))
          clear SY GG hg hg' hlt
          go_wp2_with fail
          refine (CF.out _ BC.out).mono ?_
          rintro e w3 ⟨g3, k3, rfl, hr3, hb3⟩
          have R3 := Lib.hid hr3
          have B3 := Lib.hid (Below.next BC.out hb3)
          clear hr3 hb3
          go_wp2_with fail
          refine (CT.out _ B3.out).mono ?_
          rintro e w4 ⟨g4, k4, rfl, hr4, hb4⟩
          have R4 := Lib.hid hr4
          have R34 := Lib.hid (R3.out.below hb4)
          have B4 := Lib.hid (Below.next B3.out hb4)
          clear hr4 hb4
          go_wp2_with fail
          refine (RC.out _ _ _ R34.out R4.out).mono ?_
          rintro e w5 ⟨rfl, hb5⟩
          have B5 := Lib.hid (Below.next B4.out hb5)
          clear hb5
          go_wp2_with fail
          refine (CF.out _ B5.out).mono ?_
          rintro e w6 ⟨g6, k6, rfl, hr6, hb6⟩
          have R6 := Lib.hid hr6
          have B6 := Lib.hid (Below.next B5.out hb6)
          clear hr6 hb6
          go_wp2_with fail
          refine (SZ.out _ _ R6.out).mono ?_
          rintro e w7 ⟨ao7, c7, rfl, hr7, hb7⟩
          have R7 := Lib.hid hr7
          have B7 := Lib.hid (Below.next B6.out hb7)
          clear hr7 hb7
          go_wp2_with fail
          refine (sameTexts_calls _ _ t t _ R7.out (H2.out.below B7.out)).mono ?_
          rintro e w8 ⟨rfl, hd⟩
          go_wp2
          go_ret
          exact ⟨by simp, B7.out.trans (hd.below _)⟩

theorem targetLeads_core {H : Type} (enc : TypeId × Value → H) (W : World) (base : Nat) (args : Array Value) (ds : List (DataW H)) (before : List MemPlace)
    (hval : ∀ (j : Nat) t v, Tryd.f13.params[j]? = some t → args[j]? = some v → Value.okWide Tryd.prog W .any base t v)
    (hW : DataW.Whole enc Tryd.prog Tryd.f13.params.toList [] false W args.toList ds [] before) (hk : Rows.uptoSmall H (ds ++ []) = true)
    (hsz : (DataW.weightsEach Tryd.prog (Tryd.f13.params.toList ++ []) (ds ++ [])).all (· ≤ reachBytes) = true) (hL : laidMetH Tryd.prog Rows.targetLeadsUptoRow.laid W) (hsh : W.ShapedOpen Tryd.prog) :
    Calls Tryd.prog 13 args W (Holds W) := by
  obtain ⟨p, q, hA0, hV, rfl, _, _⟩ := hW
  have hA : DataW.TrodAll enc Tryd.prog W 0 (fun _ => true) true Tryd.f13.params.toList args.toList ds p := hA0
  rw [Tryd.params13] at hA hval hsz
  obtain ⟨v0, vs0, d0, ds0, p0, q0, hargs, rfl, rfl, h0, r0⟩ := trodAll_cons hA
  obtain ⟨v1, vs1, d1, ds1, p1, q1, rfl, rfl, rfl, h1, r1⟩ := trodAll_cons r0
  obtain ⟨rfl, rfl, rfl⟩ := trodAll_nil r1
  obtain rfl : args = #[v0, v1] := by cases args; simp_all
  obtain ⟨a0, rd0, td0, ws0⟩ := open_texts (hval 0 _ v0 rfl rfl) h0
  have z0 := texts_bound hsz (j := 0) rfl rfl td0
  obtain ⟨a1, rd1, td1, ws1⟩ := open_texts (hval 1 _ v1 rfl rfl) h1
  have z1 := texts_bound hsz (j := 1) rfl rfl td1
  have bk0 : tbulk a0 ≤ Rows.uptoBulk d0 := tbulk_le td0
  have bk1 : tbulk a1 ≤ Rows.uptoBulk d1 := tbulk_le td1
  have hkk : tbulk a0 + tbulk a1 ≤ 1048576 := by
    have hk2 := of_decide_eq_true hk
    simp only [List.cons_append, List.nil_append, Rows.uptoBulkAll] at hk2
    omega
  exact targetLeads_calls v0 a0 v1 a1 W rd0 z0 rd1 z1 hkk

set_option maxRecDepth 100000 in
theorem targetLeads_reads (os : Os) {H : Type} (enc : TypeId × Value → H) : ∃ places, DataW.whole enc Tryd.prog ((laidWorld os).forCall (fun _ _ => 0) ⟨#[], #[.slice none 0 0, .slice none 0 0], []⟩).memory Tryd.f13.params.toList Rows.targetLeadsSpec.vars false (#[.slice none 0 0, .slice none 0 0] : Array Value).toList 8 = some ([.nil, .nil], [], places) :=
  ⟨[], by kernel_rfl⟩
set_option maxRecDepth 100000 in
theorem targetLeads_lifted (os : Os) (started : os.Started) (H : Type) (enc : TypeId × Value → H) (F : Stop.Interp) :
    ReturnsInHanded {} Tryd.checked os 13 .any ((Rows.OpenSpec.upto Rows.targetLeadsSpec).preRow enc Tryd.prog Tryd.f13 Rows.targetLeadsUptoRow.domain false Rows.targetLeadsUptoRow.laid) (((Rows.OpenSpec.upto Rows.targetLeadsSpec).at F).post enc Tryd.prog Tryd.f13 false true false false) := by
  obtain ⟨places, hx⟩ := targetLeads_reads os enc
  refine returnsInHanded_of_row (C := Tryd.checked) (s := Rows.OpenSpec.upto Rows.targetLeadsSpec) own started (by kernel_rfl) Tryd.func13
    (witness_row_at (enc := enc) (C := Tryd.checked) false (laidWorld os) #[.slice none 0 0, .slice none 0 0] rfl (by kernel_rfl) (by kernel_rfl) (by kernel_rfl)
      (OpenSpec.preRow_of_cond 8 hx (by kernel_rfl) (fun k hk => by cases hk; kernel_rfl) (by kernel_rfl) (laid_met os _))) ?_
  intro W base args ds gs before hval hW _ hcond hsz hL hsh _
  obtain rfl : gs = [] := by
    obtain ⟨p, q, hA0, hV, _⟩ := hW
    exact (trodVars_none hV).1
  obtain ⟨d0, d1, rfl⟩ : ∃ d0 d1, ds = [d0, d1] := by
    obtain ⟨p, q, hA0, _⟩ := hW
    have hA : DataW.TrodAll enc Tryd.prog W 0 (fun _ => true) true Tryd.f13.params.toList args.toList ds p := hA0
    rw [Tryd.params13] at hA
    obtain ⟨v0, vs0, d0, ds0, p0, q0, _, rfl, _, _, r0⟩ := trodAll_cons hA
    obtain ⟨v1, vs1, d1, ds1, p1, q1, _, rfl, _, _, r1⟩ := trodAll_cons r0
    obtain ⟨_, rfl, _⟩ := trodAll_nil r1
    exact ⟨_, _, rfl⟩
  refine (targetLeads_core enc W base args _ before hval hW (hcond _ rfl) hsz hL hsh).mono fun e W' ⟨he, hb⟩ => ?_
  subst he
  exact ⟨_, rfl, law_post hW rfl (fun t ht => by rw [Tryd.params13] at ht; simp only [List.mem_cons, List.not_mem_nil, or_false] at ht; rcases ht with rfl | rfl <;> exact ⟨by kernel_rfl, of_decide_eq_true (by kernel_rfl)⟩) rfl rfl rfl rfl hb⟩
theorem targetLeads_saidUpto : Rows.TargetLeadsUptoSaid :=
  OpenClaim.holds_of_cond 13 Tryd.f13 rfl rfl rfl rfl rfl rfl rfl ⟨rfl, rfl, rfl, rfl, rfl⟩ rfl rfl rfl rfl rfl (by kernel_rfl) Tryd.func13 (by kernel_rfl)
    (of_decide_eq_true (by kernel_rfl)) (by unfold Func.isWrapper; first | (rw [if_pos (by decide +kernel)]; kernel_rfl) | (rw [if_neg (by decide +kernel)]; exact ⟨rfl, rfl⟩))
    (fun os started H enc _ F => by rw [OpenClaim.pre_eq_preRow]; exact targetLeads_lifted os started H enc F)
theorem targetLeads_plain (f : FuncId) (fn : Func) (hf : Tryd.pinned.checked.prog.funcNamed Tryd.f13.name = some f) (hfn : Tryd.pinned.checked.prog.funcs[f]? = some fn) :
    false = Tryd.pinned.checked.prog.looks [] ∧ ∀ (j : Nat) t, fn.params[j]? = some t → Tryd.pinned.checked.prog.wantsStandIn t = false := by
  obtain rfl : f = 13 := Option.some.inj ((show Tryd.prog.funcNamed Tryd.f13.name = some 13 by kernel_rfl).symm.trans hf) |>.symm
  obtain rfl : fn = Tryd.f13 := (Option.some.inj (Tryd.func13.symm.trans hfn)).symm
  refine ⟨by kernel_rfl, fun j t ht => ?_⟩
  rw [Tryd.params13] at ht
  have hm := Array.mem_of_getElem? ht
  simp only [List.mem_toArray, List.mem_cons, List.not_mem_nil, or_false] at hm
  rcases hm with rfl | rfl
  · exact (show Tryd.prog.wantsStandIn 22 = false by kernel_rfl)
  · exact (show Tryd.prog.wantsStandIn 22 = false by kernel_rfl)
theorem targetLeads_card : Rows.TargetLeadsUptoCardSaid :=
  Claim7.holds_tied_plain_at .later [] _ _ _ _ targetLeads_saidUpto (fun _ h => by cases h) (by kernel_rfl) (fun _ h => by cases h) targetLeadsUpto_row_tie rfl ⟨rfl, rfl⟩ (by kernel_rfl) rfl targetLeads_plain (by kernel_rfl)
end Go.Proofs.YthhggganhegfhaaDoor
