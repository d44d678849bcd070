/-
  RouteMemory: for every name, RouteMemory returns true. No condition.
-/
import Derived.Test.YthhggganhegfhaaDoorMemKit
import Derived.ShutString
namespace Go.Proofs.YthhggganhegfhaaDoor
open Go.ChangeShapes Go.WideShapes Go.ChangeAt Go.RowKit
open Go.ChangeMaps (open_string shut_string)
set_option linter.unusedVariables false

theorem splitP_len' (s : ByteArray) (mx md : Int) (hs : s.size ≤ 16777216) : (splitP s mx md).1.length ≤ 16777217 := by
  have h1 := pcs_len s.data.toList
  rw [show s.data.toList.length = s.size from Array.length_toList] at h1
  have h2 := List.length_filter_le keepB ((pcs s.data.toList).map txt)
  rw [List.length_map] at h2
  have h3 : ((pieces s).filter keepB).length ≤ 16777217 := by
    show (((pcs s.data.toList).map txt).filter keepB).length ≤ _
    omega
  unfold splitP splitIn
  repeat' split
  all_goals first | (simp; done) | exact h3

/-- a name above its limit is refused, however long it is -/
theorem splitP_over (name : ByteArray) (mx md : Int) (w : World) (h : name.size ≤ 16777216 ∨ mx < (name.size : Int)) (hz : name.size ≤ 140737488351232) :
    Calls Tryd.prog 20 #[.string name, .int .i64 mx, .int .i64 md] w (SymAns w (splitP name mx md)) := by
  rcases h with h | hm
  · exact splitP_calls name mx md w h
  by_cases h0 : name.size = 0
  · exact splitP_calls name mx md w (by omega)
  have E := Lib.hid (show splitP name mx md = ([], 93) by unfold splitP; rw [if_neg h0, if_pos hm])
  have he := full_of h0
  generalize splitP name mx md = R at *
  clear h0
  go_enter Tryd.func20, Tryd.ntmps20
  go_wp2
  go_ret2
  exact SymAns.err 93 E.out (Below.refl _ _)
theorem refSplit_over (name : ByteArray) (mx md : Int) (w : World) (h : name.size ≤ 16777216 ∨ mx < (name.size : Int)) (hz : name.size ≤ 140737488351232) :
    Calls Tryd.prog 21 #[.string name, .int .i64 mx, .int .i64 md] w (SymAns w (splitP name mx md)) := by
  rcases h with h | hm
  · exact refSplit_calls name mx md w h
  by_cases h0 : name.size = 0
  · exact refSplit_calls name mx md w (by omega)
  have E := Lib.hid (show splitP name mx md = ([], 93) by unfold splitP; rw [if_neg h0, if_pos hm])
  have he := full_of h0
  generalize splitP name mx md = R at *
  clear h0
  go_enter Tryd.func21, Tryd.ntmps21
  go_wp2
  go_ret2
  exact SymAns.err 93 E.out (Below.refl _ _)
theorem splitP_len2 (s : ByteArray) (mx md : Int) (h : s.size ≤ 16777216 ∨ mx < (s.size : Int)) : (splitP s mx md).1.length ≤ 16777217 := by
  rcases h with h | hm
  · exact splitP_len' s mx md h
  · unfold splitP
    by_cases h0 : s.size = 0
    · rw [if_pos h0]; simp
    · rw [if_neg h0, if_pos hm]; simp

def markB : ByteArray := ⟨#[109, 97, 114, 107]⟩
def moreB : ByteArray := ⟨#[109, 111, 114, 101]⟩
set_option maxHeartbeats 8000000 in
theorem routeMemory_calls (name : ByteArray) (hz : name.size ≤ 140737488351232) (w : World) :
    Calls Tryd.prog 9 #[.string name] w (Holds w) := by
  have AL := Lib.hid (fun wz => rAlive_calls wz)
  have ho : name.size ≤ 16777216 ∨ (1048576 : Int) < (name.size : Int) := by omega
  have S1 := Lib.hid (fun wz => splitP_over name 1048576 1048576 wz ho hz)
  have S2 := Lib.hid (fun wz => refSplit_over name 1048576 1048576 wz ho hz)
  have hl := splitP_len2 name 1048576 1048576 ho
  clear ho
  generalize splitP name 1048576 1048576 = R at *
  obtain ⟨xs, err⟩ := R
  simp only at hl
  obtain ⟨n, hn⟩ : ∃ n, n = xs.length := ⟨_, rfl⟩
  have HN := Lib.hid hn
  rw [← hn] at hl
  unfold SymAns at S1 S2
  simp only at S1 S2
  rw [← hn] at S1 S2
  clear hn
  go_enter Tryd.func9, Tryd.ntmps9
  go_wp2_with fail
  refine (AL.out _).mono ?_
  rintro e w1 ⟨rfl, hb1⟩
  have B1 := Lib.hid hb1
  go_wp2_with fail
  refine (S1.out _).mono ?_
  rintro e w2 ⟨ao2, c2, rfl, ho2, hb2⟩
  have O2 := Lib.hid ho2
  have B2 := Lib.hid (Below.next B1.out hb2)
  clear ho2 hb1 hb2
  go_wp2_with fail
  refine (S1.out _).mono ?_
  rintro e w3 ⟨ao3, c3, rfl, ho3, hb3⟩
  have O3 := Lib.hid ho3
  have O2' := Lib.hid (O2.out.below' hb3)
  have B3 := Lib.hid (Below.next B2.out hb3)
  clear ho3
  go_wp2_with fail
  refine (S2.out _).mono ?_
  rintro e w4 ⟨ao4, c4, rfl, ho4, hb4⟩
  have O4 := Lib.hid ho4
  have O3' := Lib.hid (O3.out.below' hb4)
  have O2'' := Lib.hid (O2'.out.below' hb4)
  have B4 := Lib.hid (Below.next B3.out hb4)
  clear ho4 hb4
  have AP1 := Lib.hid (rows_apart (w1 := w2) (w2 := w3) O2.out O3.out (Nat.le_refl _))
  have AP2 := Lib.hid (rows_apart (w1 := w2) (w2 := w4) O2.out O4.out hb3.size)
  have I0 := Lib.hid (show MI w w4 w4 [.slice ao3 n c3, .slice ao4 n c4] (.slice ao2 n c2) xs from MI.start (O2''.out.mono B1.out.size) B4.out (fun u hu k hk => by
    simp only [List.mem_cons, List.not_mem_nil, or_false] at hu
    rcases hu with rfl | rfl
    · exact ⟨(O3'.out.lt hk).2, AP1.out k hk⟩
    · exact ⟨(O4.out.lt hk).2, AP2.out k hk⟩))
  clear hb3 AP1 AP2
  go_wp2_with fail
  refine (sameTexts_calls _ _ xs xs _ O2''.out.rd' O4.out.rd').mono ?_
  rintro e w5 ⟨rfl, hd5⟩
  rw [decide_eq_true rfl]
  have I5 := Lib.hid (I0.out.drawn hd5)
  have O3d := Lib.hid (O3'.out.below' (hd5.below _))
  have O4d := Lib.hid (O4.out.below' (hd5.below _))
  clear hd5
  go_wp2_with fail
  refine (sameTexts_calls _ _ xs xs _ O3d.out.rd' O4d.out.rd').mono ?_
  rintro e w6 ⟨rfl, hd6⟩
  rw [decide_eq_true rfl]
  have I6 := Lib.hid (I5.out.drawn hd6)
  clear hd6 O3d O4d I5 I0 O2 O2' O2'' O3 B2 B3
  go_wp2_with fail
  go_loopg [9] n (fun g s9 wr => ∃ (i : Nat) (ys : List ByteArray), s9 = .int .i64 i ∧ i ≤ n ∧ n - i ≤ g ∧ Hid (ys.length = n) ∧ Hid (MI w w4 wr [.slice ao3 n c3, .slice ao4 n c4] (.slice ao2 n c2) ys))
  case atStart => exact ⟨0, xs, rfl, Nat.zero_le _, by omega, Lib.hid HN.out.symm, I6⟩
  case round =>
    obtain ⟨i, ys, rfl, hi, hg, HL, I⟩ := hrel
    rename World => wr
    by_cases hlt : i < n
    · have hne : ys ≠ [] := fun e => by have := HL.out; rw [e] at this; simp at this; omega
      obtain ⟨ga, ca, hv⟩ := I.out.own.addr hne
      simp only [Value.slice.injEq] at hv
      obtain ⟨rfl, _, rfl⟩ := hv
      have cl : ∃ old, wr.cell? ⟨ga, i, none⟩ = some old := ⟨_, I.out.own.cell i (by have := HL.out; omega)⟩
      obtain ⟨old, cl⟩ := cl
      have fl := I.out.own.free i
      have I2 := Lib.hid (I.out.store i markB)
      go_wp2
      go_roundg (n - (i + 1))
      case measure => omega
      case rel => exact ⟨i + 1, ys.set i markB, by go_num, by omega, Nat.le_refl _, Lib.hid (by rw [List.length_set]; exact HL.out), I2⟩
    · obtain rfl : i = n := by omega
      have hge : ¬ ((i : Int) < (i : Int)) := by omega
      go_wp2_with fail
      go_loopg [10, 11] 9 (fun g s10 s11 wx => ∃ (j : Nat) (ao : Option Addr) (cp : Nat) (zs : List ByteArray), s10 = .slice ao (i + j) cp ∧ s11 = .int .i64 j ∧ j ≤ 9 ∧ 9 - j ≤ g ∧ Hid (zs.length = i + j) ∧ Hid (MI w w4 wx [.slice ao3 i c3, .slice ao4 i c4] (.slice ao (i + j) cp) zs))
      case atStart => exact ⟨0, ao2, c2, ys, rfl, rfl, by omega, by omega, HL, I⟩
      case round =>
        obtain ⟨j, ao, cp, zs, rfl, rfl, hj, hg9, HZ, J⟩ := hrel
        rename World => wx
        have hwx : w.heap.size ≤ wx.heap.size := J.out.below.size
        by_cases hlt9 : j < 9
        · have hj9 : (j : Int) < 9 := by omega
          go_wp2_with (at_builtin; refine wpList_pushG wx rfl (.tmp 55) (.tmp 56) 22 rfl w.heap.size 9 (.string ⟨#[]⟩) 16 strE Tryd.underlying22 Tryd.info9 rfl _ zs moreB (i + j) rfl J.out.own HZ.out _ rfl rfl rfl (by omega) (by unfold maxLen; omega) hwx ?_; intro g2 cap2 w8 hown2 hb2 hap2)
          have J2 := Lib.hid (J.out.push hown2 hb2 hap2)
          clear hown2 hb2 hap2
          go_roundg (9 - (j + 1))
          case measure => omega
          case rel => exact ⟨j + 1, some ⟨g2, 0, none⟩, cap2, zs ++ [moreB], by rw [Nat.add_assoc], by go_num, by omega, Nat.le_refl _, Lib.hid (by rw [List.length_append, HZ.out]; rfl), by simpa [Nat.add_assoc] using J2⟩
        · obtain rfl : j = 9 := by omega
          have R3 := Lib.hid (J.out.rd (by simp) O3'.out)
          have R4 := Lib.hid (J.out.rd (by simp) O4.out)
          have BJ := Lib.hid J.out.below
          go_wp2_with fail
          refine (S1.out _).mono ?_
          rintro e w9 ⟨ao9, c9, rfl, ho9, hb9⟩
          have R9 := Lib.hid ho9.rd'
          have R3' := Lib.hid (R3.out.below hb9)
          have R4' := Lib.hid (R4.out.below hb9)
          have B9 := Lib.hid (Below.next BJ.out hb9)
          clear ho9 hb9
          go_wp2_with fail
          refine (sameTexts_calls _ _ xs xs _ R3'.out R4'.out).mono ?_
          rintro e w10 ⟨rfl, hd10⟩
          rw [decide_eq_true rfl]
          have R9' := Lib.hid (R9.out.drawn hd10)
          have R4'' := Lib.hid (R4'.out.drawn hd10)
          have B10 := Lib.hid (B9.out.trans (hd10.below _))
          clear hd10
          go_wp2_with fail
          refine (sameTexts_calls _ _ xs xs _ R9'.out R4''.out).mono ?_
          rintro e w11 ⟨rfl, hd11⟩
          rw [decide_eq_true rfl]
          have B11 := Lib.hid (B10.out.trans (hd11.below _))
          clear hd11
          go_wp2
          go_ret
          exact ⟨by simp, B11.out⟩

theorem routeMemory_core {H : Type} (enc : TypeId × Value → H) (W : World) (base : Nat) (args : Array Value) (ds : List (DataW H)) (before : List MemPlace)
    (hval : ∀ (j : Nat) t v, Tryd.f9.params[j]? = some t → args[j]? = some v → Value.okWide Tryd.prog W .any base t v)
    (hW : DataW.Whole enc Tryd.prog Tryd.f9.params.toList [] false W args.toList ds [] before)
    (hsz : (DataW.weightsEach Tryd.prog (Tryd.f9.params.toList ++ []) (ds ++ [])).all (· ≤ reachBytes) = true) (hL : laidMetH Tryd.prog Rows.routeMemoryRow.laid W) (hsh : W.ShapedOpen Tryd.prog) :
    Calls Tryd.prog 9 args W (Holds W) := by
  obtain ⟨p, q, hA0, hV, rfl, _, _⟩ := hW
  have hA : DataW.TrodAll enc Tryd.prog W 0 (fun _ => true) true Tryd.f9.params.toList args.toList ds p := hA0
  rw [Tryd.params9] at hA hval hsz
  obtain ⟨v0, vs0, d0, ds0, p0, q0, hargs, rfl, rfl, h0, r0⟩ := trodAll_cons hA
  obtain ⟨rfl, rfl, rfl⟩ := trodAll_nil r0
  obtain rfl : args = #[v0] := by cases args; simp_all
  obtain ⟨a0, rfl, rfl, rfl, w0⟩ := open_string Tryd.underlying9 (hval 0 _ v0 rfl rfl) h0
  have z0 : a0.size ≤ 140737488351232 := by
    have := sized_string hsz (j := 0) (t := 9) rfl rfl
    rw [Array.length_toList] at this; exact this
  exact routeMemory_calls a0 z0 W

set_option maxRecDepth 100000 in
theorem routeMemory_reads (os : Os) {H : Type} (enc : TypeId × Value → H) : ∃ places, DataW.whole enc Tryd.prog ((laidWorld os).forCall (fun _ _ => 0) ⟨#[], #[.string .empty], []⟩).memory Tryd.f9.params.toList Rows.routeMemorySpec.vars false (#[.string .empty] : Array Value).toList 8 = some ([.lit (.string [])], [], places) :=
  ⟨[], by kernel_rfl⟩
set_option maxRecDepth 100000 in
theorem routeMemory_lifted (os : Os) (started : os.Started) (H : Type) (enc : TypeId × Value → H) (F : Stop.Interp) :
    ReturnsInHanded {} Tryd.checked os 9 .any ((OpenSpec.ofChange Rows.routeMemorySpec).preRow enc Tryd.prog Tryd.f9 Rows.routeMemoryRow.domain false Rows.routeMemoryRow.laid) (((OpenSpec.ofChange Rows.routeMemorySpec).at F).post enc Tryd.prog Tryd.f9 false true false false) := by
  obtain ⟨places, hx⟩ := routeMemory_reads os enc
  refine returnsInHanded_of_row (C := Tryd.checked) (s := OpenSpec.ofChange Rows.routeMemorySpec) own started (by kernel_rfl) Tryd.func9
    (witness_row_at (enc := enc) (C := Tryd.checked) false (laidWorld os) #[.string .empty] rfl (by kernel_rfl) (by kernel_rfl) (by kernel_rfl)
      (OpenSpec.preRow_of_cond 8 hx (by kernel_rfl) (fun k hk => by cases hk) (by kernel_rfl) (laid_met os _))) ?_
  intro W base args ds gs before hval hW _ hcond hsz hL hsh _
  obtain rfl : gs = [] := by
    obtain ⟨p, q, hA0, hV, _⟩ := hW
    exact (trodVars_none hV).1
  obtain ⟨d0, rfl⟩ : ∃ d0, ds = [d0] := by
    obtain ⟨p, q, hA0, _⟩ := hW
    have hA : DataW.TrodAll enc Tryd.prog W 0 (fun _ => true) true Tryd.f9.params.toList args.toList ds p := hA0
    rw [Tryd.params9] at hA
    obtain ⟨v0, vs0, d0, ds0, p0, q0, _, rfl, _, _, r0⟩ := trodAll_cons hA
    obtain ⟨_, rfl, _⟩ := trodAll_nil r0
    exact ⟨_, rfl⟩
  refine (routeMemory_core enc W base args _ before hval hW hsz hL hsh).mono fun e W' ⟨he, hb⟩ => ?_
  subst he
  exact ⟨_, rfl, law_post hW rfl (fun t ht => by rw [Tryd.params9] at ht; simp only [List.mem_cons, List.not_mem_nil, or_false] at ht; rcases ht with rfl <;> exact ⟨by kernel_rfl, of_decide_eq_true (by kernel_rfl)⟩) rfl rfl rfl rfl hb⟩
theorem routeMemory_said : Rows.RouteMemorySaid :=
  OpenClaim.holds_of_cond 9 Tryd.f9 rfl rfl rfl rfl rfl rfl rfl ⟨rfl, rfl, rfl, rfl, rfl⟩ rfl rfl rfl rfl rfl (by kernel_rfl) Tryd.func9 (by kernel_rfl)
    (of_decide_eq_true (by kernel_rfl)) (by unfold Func.isWrapper; first | (rw [if_pos (by decide +kernel)]; kernel_rfl) | (rw [if_neg (by decide +kernel)]; exact ⟨rfl, rfl⟩))
    (fun os started H enc _ F => by rw [OpenClaim.pre_eq_preRow]; exact routeMemory_lifted os started H enc F)
theorem routeMemory_plain (f : FuncId) (fn : Func) (hf : Tryd.pinned.checked.prog.funcNamed Tryd.f9.name = some f) (hfn : Tryd.pinned.checked.prog.funcs[f]? = some fn) :
    false = Tryd.pinned.checked.prog.looks [] ∧ ∀ (j : Nat) t, fn.params[j]? = some t → Tryd.pinned.checked.prog.wantsStandIn t = false := by
  obtain rfl : f = 9 := Option.some.inj ((show Tryd.prog.funcNamed Tryd.f9.name = some 9 by kernel_rfl).symm.trans hf) |>.symm
  obtain rfl : fn = Tryd.f9 := (Option.some.inj (Tryd.func9.symm.trans hfn)).symm
  refine ⟨by kernel_rfl, fun j t ht => ?_⟩
  rw [Tryd.params9] at ht
  have hm := Array.mem_of_getElem? ht
  simp only [List.mem_toArray, List.mem_cons, List.not_mem_nil, or_false] at hm
  rcases hm with rfl
  · exact (show Tryd.prog.wantsStandIn 9 = false by kernel_rfl)
theorem routeMemory_card : Rows.RouteMemoryCardSaid :=
  Claim7.holds_tied_plain_at .later [] _ _ _ _ routeMemory_said (fun _ h => by cases h) (by kernel_rfl) (fun _ h => by cases h) routeMemory_row_tie rfl ⟨rfl, rfl⟩ (by kernel_rfl) rfl routeMemory_plain (by kernel_rfl)
end Go.Proofs.YthhggganhegfhaaDoor
