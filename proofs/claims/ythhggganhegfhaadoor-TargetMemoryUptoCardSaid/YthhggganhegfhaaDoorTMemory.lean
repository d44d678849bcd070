/-
  TargetMemory: for every list of texts and every text that are together of bulk at most 1048576, TargetMemory returns true.
-/
import Derived.Test.YthhggganhegfhaaDoorMemKit
import Derived.Test.YthhggganhegfhaaDoorTargetAlive
import Derived.ShutString
namespace Go.Proofs.YthhggganhegfhaaDoor
open Go.ChangeShapes Go.WideShapes Go.ChangeAt Go.RowKit
open Go.ChangeMaps (open_string shut_string)
set_option linter.unusedVariables false

theorem climb_len : ∀ (ps a r : List ByteArray), climb a ps = some r → r.length ≤ a.length + ps.length
  | [], a, r, h => by simp only [climb, Option.some.injEq] at h; subst h; simp
  | p :: ps, a, r, h => by
    rw [climb] at h
    split at h
    · have := climb_len ps a r h; simp only [List.length_cons]; omega
    · split at h
      · split at h
        · cases h
        · have := climb_len ps _ r h
          rw [List.length_dropLast] at this
          simp only [List.length_cons]; omega
      · have := climb_len ps _ r h
        rw [List.length_append] at this
        simp only [List.length_cons, List.length_nil] at this ⊢; omega
theorem symP_len (dir : List ByteArray) (text : ByteArray) (pol mx : Int) (hd : dir.length ≤ 16777216) (hs : text.size ≤ 16777216) : (symP dir text pol mx).1.length ≤ 33554433 := by
  have h1 := pcs_len text.data.toList
  rw [show text.data.toList.length = text.size from Array.length_toList] at h1
  unfold symP
  repeat' split
  all_goals first
    | (simp; done)
    | (rename_i a ha
       have := climb_len _ _ _ ha
       unfold pieces at this
       rw [List.length_map] at this
       simp only
       omega)

def tmark : ByteArray := ⟨#[109, 97, 114, 107]⟩
def ownT : ByteArray := ⟨#[111, 119, 110]⟩

set_option maxHeartbeats 8000000 in
theorem targetMemory_calls (v : Value) (dir : List ByteArray) (text : ByteArray) (w : World) (h : Rd w strE v dir) (hz : dir.length * 16 ≤ 140737488351232) (hy : text.size ≤ 140737488351232) (hk : tbulk dir + text.size ≤ 1048576) :
    Calls Tryd.prog 6 #[v, .string text] w (Holds w) := by
  have hlb := tbulk_len dir
  have AL := Lib.hid (fun wz => alive_calls wz)
  have H := Lib.hid h
  have hCP := copyTexts_calls v dir
  have CP := Lib.hid (show ∀ wz, Below w.heap.size w wz → Calls Tryd.prog 15 #[v] wz (Fresh wz dir) from fun wz hz' => hCP wz (H.out.below hz') (by omega))
  have S1 := Lib.hid (show ∀ wz u, Rd wz strE u dir → Calls Tryd.prog 16 #[u, .string text, .int .i64 1, .int .i64 1048576] wz (SymAns wz (symP dir text 1 1048576)) from fun wz u hu => sym_calls u dir text 1 1048576 wz hu (by omega) (by omega))
  have S2 := Lib.hid (show ∀ wz u, Rd wz strE u dir → Calls Tryd.prog 17 #[u, .string text, .int .i64 1, .int .i64 1048576] wz (SymAns wz (symP dir text 1 1048576)) from fun wz u hu => refSym_calls u dir text 1 1048576 wz hu (by omega) (by omega))
  have hl := symP_len dir text 1 1048576 (by omega) (by omega)
  generalize symP dir text 1 1048576 = R at *
  obtain ⟨xs, err⟩ := R
  simp only at hl
  obtain ⟨n, hn⟩ : ∃ n, n = xs.length := ⟨_, rfl⟩
  have HN := Lib.hid hn
  rw [← hn] at hl
  unfold SymAns at S1 S2
  simp only at S1 S2
  rw [← hn] at S1 S2
  clear hn hCP
  have hdl : dir.length ≤ 1048576 := by omega
  obtain ⟨m, hm⟩ : ∃ m, m = dir.length := ⟨_, rfl⟩
  have HM := Lib.hid hm
  unfold Fresh at CP
  rw [← hm] at hdl
  obtain ⟨ao0, c0, rfl⟩ := h.any
  rw [← hm] at H CP ⊢
  clear h hz hlb hk hm
  go_enter Tryd.func6, Tryd.ntmps6
  go_wp2_with fail
  refine (AL.out _).mono ?_
  rintro e w1 ⟨rfl, hb1⟩
  have B1 := Lib.hid hb1
  go_wp2_with fail
  refine (CP.out _ B1.out).mono ?_
  rintro e w3 ⟨g3, k3, rfl, ho3, hb3⟩
  have O3 := Lib.hid ho3
  have B3 := Lib.hid (Below.next B1.out hb3)
  clear ho3 hb1 hb3
  go_wp2_with fail
  refine (S1.out _ _ O3.out.rd').mono ?_
  rintro e w4 ⟨ao4, c4, rfl, ho4, hb4⟩
  have O4 := Lib.hid ho4
  have O34 := Lib.hid (O3.out.below' hb4)
  have B4 := Lib.hid (Below.next B3.out hb4)
  clear ho4
  go_wp2_with fail
  refine (S1.out _ _ O34.out.rd').mono ?_
  rintro e w5 ⟨ao5, c5, rfl, ho5, hb5⟩
  have O5 := Lib.hid ho5
  have O35 := Lib.hid (O34.out.below' hb5)
  have O45 := Lib.hid (O4.out.below' hb5)
  have B5 := Lib.hid (Below.next B4.out hb5)
  clear ho5
  go_wp2_with fail
  refine (S2.out _ _ (H.out.below B5.out)).mono ?_
  rintro e w6 ⟨ao6, c6, rfl, ho6, hb6⟩
  have O6 := Lib.hid ho6
  have O36 := Lib.hid (O35.out.below' hb6)
  have O46 := Lib.hid (O45.out.below' hb6)
  have O56 := Lib.hid (O5.out.below' hb6)
  have B6 := Lib.hid (Below.next B5.out hb6)
  have AP3 := Lib.hid (show ∀ k, (Value.slice (some ⟨g3, 0, none⟩) m k3).ownBlock = some k → (Value.slice ao4 n c4).ownBlock ≠ some k from fun k hk e => rows_apart (w1 := w3) (w2 := w4) O3.out O4.out (Nat.le_refl _) k e hk)
  have AP5 := Lib.hid (rows_apart (w1 := w4) (w2 := w5) O4.out O5.out (Nat.le_refl _))
  have AP6 := Lib.hid (rows_apart (w1 := w4) (w2 := w6) O4.out O6.out hb5.size)
  have AQ5 := Lib.hid (rows_apart (w1 := w3) (w2 := w5) O3.out O5.out hb4.size)
  have AQ6 := Lib.hid (rows_apart (w1 := w3) (w2 := w6) O3.out O6.out (Nat.le_trans hb4.size hb5.size))
  have I0 := Lib.hid (show MI w w6 w6 [.slice (some ⟨g3, 0, none⟩) m k3, .slice ao5 n c5, .slice ao6 n c6] (.slice ao4 n c4) xs from MI.start (O46.out.mono B3.out.size) B6.out (fun u hu k hk => by
    simp only [List.mem_cons, List.not_mem_nil, or_false] at hu
    rcases hu with rfl | rfl | rfl
    · exact ⟨(O36.out.lt hk).2, AP3.out k hk⟩
    · exact ⟨(O56.out.lt hk).2, AP5.out k hk⟩
    · exact ⟨(O6.out.lt hk).2, AP6.out k hk⟩))
  clear hb4 hb5 hb6 AP3 AP5 AP6 ho6
  go_wp2_with fail
  refine (sameTexts_calls _ _ xs xs _ O46.out.rd' O6.out.rd').mono ?_
  rintro e w7 ⟨rfl, hd7⟩
  rw [decide_eq_true rfl]
  have D7 := Lib.hid hd7
  have I7 := Lib.hid (I0.out.drawn hd7)
  clear hd7
  go_wp2_with fail
  refine (sameTexts_calls _ _ xs xs _ (O56.out.rd'.drawn D7.out) (O6.out.rd'.drawn D7.out)).mono ?_
  rintro e w8 ⟨rfl, hd8⟩
  rw [decide_eq_true rfl]
  have I8 := Lib.hid (I7.out.drawn hd8)
  clear hd8 I7 I0 D7
  go_wp2_with fail
  go_loopg [12] n (fun g s12 wr => ∃ (i : Nat) (ys : List ByteArray), s12 = .int .i64 i ∧ i ≤ n ∧ n - i ≤ g ∧ Hid (ys.length = n) ∧ Hid (MI w w6 wr [.slice (some ⟨g3, 0, none⟩) m k3, .slice ao5 n c5, .slice ao6 n c6] (.slice ao4 n c4) ys))
  case atStart => exact ⟨0, xs, rfl, Nat.zero_le _, by omega, Lib.hid HN.out.symm, I8⟩
  case round =>
    obtain ⟨i, ys, rfl, hi, hg, HL, I⟩ := hrel
    rename World => wr
    by_cases hlt : i < n
    · have hne : ys ≠ [] := fun e => by have := HL.out; rw [e] at this; simp at this; omega
      obtain ⟨ga, ca, hv⟩ := I.out.own.addr hne
      simp only [Value.slice.injEq] at hv
      obtain ⟨rfl, _, rfl⟩ := hv
      have cl : ∃ old, wr.cell? ⟨ga, i, none⟩ = some old := ⟨_, I.out.own.cell i (by have := HL.out; omega)⟩
      obtain ⟨old, cl⟩ := cl
      have fl := I.out.own.free i
      have I2 := Lib.hid (I.out.store i tmark)
      go_wp2
      go_roundg (n - (i + 1))
      case measure => omega
      case rel => exact ⟨i + 1, ys.set i tmark, by go_num, by omega, Nat.le_refl _, Lib.hid (by rw [List.length_set]; exact HL.out), I2⟩
    · obtain rfl : i = n := by omega
      have hge : ¬ ((i : Int) < (i : Int)) := by omega
      have OW := Lib.hid (show Own wr w.heap.size 9 strE (.slice (some ⟨g3, 0, none⟩) m k3) dir from (O36.out.stay fun k hk => (I.out.kept _ (by simp) k hk).1).mono B1.out.size)
      have J0 := Lib.hid (show MI w w6 wr [.slice ao5 i c5, .slice ao6 i c6] (.slice (some ⟨g3, 0, none⟩) m k3) dir from ⟨OW.out, fun u hu k hk => by
        simp only [List.mem_cons, List.not_mem_nil, or_false] at hu
        rcases hu with rfl | rfl
        · obtain ⟨h1, h2, _⟩ := I.out.kept _ (by simp) k hk
          exact ⟨h1, h2, AQ5.out k hk⟩
        · obtain ⟨h1, h2, _⟩ := I.out.kept _ (by simp) k hk
          exact ⟨h1, h2, AQ6.out k hk⟩, I.out.below⟩)
      clear OW
      go_wp2_with fail
      go_loopg [13] m (fun g s13 wx => ∃ (j : Nat) (zs : List ByteArray), s13 = .int .i64 j ∧ j ≤ m ∧ m - j ≤ g ∧ Hid (zs.length = m) ∧ Hid (∀ q, j ≤ q → q < m → zs.getD q ByteArray.empty = dir.getD q ByteArray.empty) ∧ Hid (MI w w6 wx [.slice ao5 i c5, .slice ao6 i c6] (.slice (some ⟨g3, 0, none⟩) m k3) zs))
      case atStart => exact ⟨0, dir, rfl, Nat.zero_le _, by omega, Lib.hid HM.out.symm, Lib.hid fun _ _ _ => rfl, J0⟩
      case round =>
        obtain ⟨j, zs, rfl, hj, hg2, HZ, HD, J⟩ := hrel
        rename World => wx
        by_cases hlt2 : j < m
        · have hdne : dir ≠ [] := fun e => by have := HM.out; rw [e] at this; simp at this; omega
          have hjz : j < zs.length := by have := HZ.out; omega
          have hjd : j < dir.length := by have := HM.out; omega
          have c1 := J.out.own.cell j hjz
          have hzd := HD.out j (Nat.le_refl _) hlt2
          have e1 : zs[j] = dir.getD j ByteArray.empty := by rw [← hzd]; simp [List.getD, List.getElem?_eq_getElem hjz]
          rw [e1] at c1
          have c2 : ∃ b o, ao0 = some ⟨b, o, none⟩ ∧ wx.cell? ⟨b, o + j, none⟩ = some (strE (dir.getD j ByteArray.empty)) := by
            obtain ⟨ao', c', hv', _, _, _, hc'⟩ := H.out
            simp only [Value.slice.injEq] at hv'
            obtain ⟨rfl, _, rfl⟩ := hv'
            obtain ⟨b, o, hao, hcc⟩ := hc' hdne
            refine ⟨b, o, hao, ?_⟩
            have h1 := hcc j hjd
            rw [J.out.below.cell (lt_of_cell h1), h1]
            simp [List.getD, List.getElem?_eq_getElem hjd]
          obtain ⟨b, o, rfl, c2⟩ := c2
          generalize dir.getD j ByteArray.empty = x at c1 c2
          have fl := J.out.own.free j
          have J2 := Lib.hid ((J.out.drawn ((Drawn.refl _).drew)).store j ownT)
          clear e1 hzd
          go_wp2_with fail
          go_region
          go_wp2
          go_roundg (m - (j + 1))
          case measure => omega
          case rel =>
            refine ⟨j + 1, zs.set j ownT, by go_num, by omega, Nat.le_refl _, Lib.hid (by rw [List.length_set]; exact HZ.out), Lib.hid fun q hq hqm => ?_, J2⟩
            have := HD.out q (by omega) hqm
            rw [← this]
            simp [List.getD, show ¬ j = q by omega]
        · obtain rfl : j = m := by omega
          have hge2 : ¬ ((j : Int) < (j : Int)) := by omega
          have R5 := Lib.hid (J.out.rd (by simp) O56.out)
          have R6 := Lib.hid (J.out.rd (by simp) O6.out)
          have BJ := Lib.hid J.out.below
          go_wp2_with fail
          refine (sameTexts_calls _ _ xs xs _ R5.out R6.out).mono ?_
          rintro e w11 ⟨rfl, hd11⟩
          rw [decide_eq_true rfl]
          have B12 := Lib.hid (BJ.out.trans (hd11.below _))
          clear hd11
          go_wp2
          go_ret
          exact ⟨rfl, B12.out⟩

theorem targetMemory_core {H : Type} (enc : TypeId × Value → H) (W : World) (base : Nat) (args : Array Value) (ds : List (DataW H)) (before : List MemPlace)
    (hval : ∀ (j : Nat) t v, Tryd.f6.params[j]? = some t → args[j]? = some v → Value.okWide Tryd.prog W .any base t v)
    (hW : DataW.Whole enc Tryd.prog Tryd.f6.params.toList [] false W args.toList ds [] before) (hk : Rows.uptoSmall H (ds ++ []) = true)
    (hsz : (DataW.weightsEach Tryd.prog (Tryd.f6.params.toList ++ []) (ds ++ [])).all (· ≤ reachBytes) = true) (hL : laidMetH Tryd.prog Rows.targetMemoryUptoRow.laid W) (hsh : W.ShapedOpen Tryd.prog) :
    Calls Tryd.prog 6 args W (Holds W) := by
  obtain ⟨p, q, hA0, hV, rfl, _, _⟩ := hW
  have hA : DataW.TrodAll enc Tryd.prog W 0 (fun _ => true) true Tryd.f6.params.toList args.toList ds p := hA0
  rw [Tryd.params6] at hA hval hsz
  obtain ⟨v0, vs0, d0, ds0, p0, q0, hargs, rfl, rfl, h0, r0⟩ := trodAll_cons hA
  obtain ⟨v1, vs1, d1, ds1, p1, q1, rfl, rfl, rfl, h1, r1⟩ := trodAll_cons r0
  obtain ⟨rfl, rfl, rfl⟩ := trodAll_nil r1
  obtain rfl : args = #[v0, v1] := by cases args; simp_all
  obtain ⟨a0, rd0, td0, ws0⟩ := open_texts (hval 0 _ v0 rfl rfl) h0
  have z0 := texts_bound hsz (j := 0) rfl rfl td0
  obtain ⟨a1, rfl, rfl, rfl, w1⟩ := open_string Tryd.underlying9 (hval 1 _ v1 rfl rfl) h1
  have z1 : a1.size ≤ 140737488351232 := by
    have := sized_string hsz (j := 1) (t := 9) rfl rfl
    rw [Array.length_toList] at this; exact this
  have bk0 : tbulk a0 ≤ Rows.uptoBulk d0 := tbulk_le td0
  have bk1 : a1.size ≤ Rows.uptoBulk (DataW.lit (H := H) (.string a1.data.toList)) := by simp [Rows.uptoBulk]
  have hkk : tbulk a0 + a1.size ≤ 1048576 := by
    have hk2 := of_decide_eq_true hk
    simp only [List.cons_append, List.nil_append, Rows.uptoBulkAll] at hk2
    omega
  exact targetMemory_calls v0 a0 a1 W rd0 z0 z1 hkk

set_option maxRecDepth 100000 in
theorem targetMemory_reads (os : Os) {H : Type} (enc : TypeId × Value → H) : ∃ places, DataW.whole enc Tryd.prog ((laidWorld os).forCall (fun _ _ => 0) ⟨#[], #[.slice none 0 0, .string .empty], []⟩).memory Tryd.f6.params.toList Rows.targetMemorySpec.vars false (#[.slice none 0 0, .string .empty] : Array Value).toList 8 = some ([.nil, .lit (.string [])], [], places) :=
  ⟨[], by kernel_rfl⟩
set_option maxRecDepth 100000 in
theorem targetMemory_lifted (os : Os) (started : os.Started) (H : Type) (enc : TypeId × Value → H) (F : Stop.Interp) :
    ReturnsInHanded {} Tryd.checked os 6 .any ((Rows.OpenSpec.upto Rows.targetMemorySpec).preRow enc Tryd.prog Tryd.f6 Rows.targetMemoryUptoRow.domain false Rows.targetMemoryUptoRow.laid) (((Rows.OpenSpec.upto Rows.targetMemorySpec).at F).post enc Tryd.prog Tryd.f6 false true false false) := by
  obtain ⟨places, hx⟩ := targetMemory_reads os enc
  refine returnsInHanded_of_row (C := Tryd.checked) (s := Rows.OpenSpec.upto Rows.targetMemorySpec) own started (by kernel_rfl) Tryd.func6
    (witness_row_at (enc := enc) (C := Tryd.checked) false (laidWorld os) #[.slice none 0 0, .string .empty] rfl (by kernel_rfl) (by kernel_rfl) (by kernel_rfl)
      (OpenSpec.preRow_of_cond 8 hx (by kernel_rfl) (fun k hk => by cases hk; kernel_rfl) (by kernel_rfl) (laid_met os _))) ?_
  intro W base args ds gs before hval hW _ hcond hsz hL hsh _
  obtain rfl : gs = [] := by
    obtain ⟨p, q, hA0, hV, _⟩ := hW
    exact (trodVars_none hV).1
  obtain ⟨d0, d1, rfl⟩ : ∃ d0 d1, ds = [d0, d1] := by
    obtain ⟨p, q, hA0, _⟩ := hW
    have hA : DataW.TrodAll enc Tryd.prog W 0 (fun _ => true) true Tryd.f6.params.toList args.toList ds p := hA0
    rw [Tryd.params6] at hA
    obtain ⟨v0, vs0, d0, ds0, p0, q0, _, rfl, _, _, r0⟩ := trodAll_cons hA
    obtain ⟨v1, vs1, d1, ds1, p1, q1, _, rfl, _, _, r1⟩ := trodAll_cons r0
    obtain ⟨_, rfl, _⟩ := trodAll_nil r1
    exact ⟨_, _, rfl⟩
  refine (targetMemory_core enc W base args _ before hval hW (hcond _ rfl) hsz hL hsh).mono fun e W' ⟨he, hb⟩ => ?_
  subst he
  exact ⟨_, rfl, law_post hW rfl (fun t ht => by rw [Tryd.params6] at ht; simp only [List.mem_cons, List.not_mem_nil, or_false] at ht; rcases ht with rfl | rfl <;> exact ⟨by kernel_rfl, of_decide_eq_true (by kernel_rfl)⟩) rfl rfl rfl rfl hb⟩
theorem targetMemory_saidUpto : Rows.TargetMemoryUptoSaid :=
  OpenClaim.holds_of_cond 6 Tryd.f6 rfl rfl rfl rfl rfl rfl rfl ⟨rfl, rfl, rfl, rfl, rfl⟩ rfl rfl rfl rfl rfl (by kernel_rfl) Tryd.func6 (by kernel_rfl)
    (of_decide_eq_true (by kernel_rfl)) (by unfold Func.isWrapper; first | (rw [if_pos (by decide +kernel)]; kernel_rfl) | (rw [if_neg (by decide +kernel)]; exact ⟨rfl, rfl⟩))
    (fun os started H enc _ F => by rw [OpenClaim.pre_eq_preRow]; exact targetMemory_lifted os started H enc F)
theorem targetMemory_plain (f : FuncId) (fn : Func) (hf : Tryd.pinned.checked.prog.funcNamed Tryd.f6.name = some f) (hfn : Tryd.pinned.checked.prog.funcs[f]? = some fn) :
    false = Tryd.pinned.checked.prog.looks [] ∧ ∀ (j : Nat) t, fn.params[j]? = some t → Tryd.pinned.checked.prog.wantsStandIn t = false := by
  obtain rfl : f = 6 := Option.some.inj ((show Tryd.prog.funcNamed Tryd.f6.name = some 6 by kernel_rfl).symm.trans hf) |>.symm
  obtain rfl : fn = Tryd.f6 := (Option.some.inj (Tryd.func6.symm.trans hfn)).symm
  refine ⟨by kernel_rfl, fun j t ht => ?_⟩
  rw [Tryd.params6] at ht
  have hm := Array.mem_of_getElem? ht
  simp only [List.mem_toArray, List.mem_cons, List.not_mem_nil, or_false] at hm
  rcases hm with rfl | rfl
  · exact (show Tryd.prog.wantsStandIn 22 = false by kernel_rfl)
  · exact (show Tryd.prog.wantsStandIn 9 = false by kernel_rfl)
theorem targetMemory_card : Rows.TargetMemoryUptoCardSaid :=
  Claim7.holds_tied_plain_at .later [] _ _ _ _ targetMemory_saidUpto (fun _ h => by cases h) (by kernel_rfl) (fun _ h => by cases h) targetMemoryUpto_row_tie rfl ⟨rfl, rfl⟩ (by kernel_rfl) rfl targetMemory_plain (by kernel_rfl)
end Go.Proofs.YthhggganhegfhaaDoor
