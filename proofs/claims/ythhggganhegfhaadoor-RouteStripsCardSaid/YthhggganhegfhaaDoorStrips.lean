/-
  RouteStrips: for every list of texts and every number, RouteStrips returns true. No condition.
-/
import Derived.Test.YthhggganhegfhaaDoorMemKit
import Derived.Test.YthhggganhegfhaaDoorStrip
import Derived.ShutString
namespace Go.Proofs.YthhggganhegfhaaDoor
open Go.ChangeShapes Go.WideShapes Go.ChangeAt Go.RowKit
open Go.ChangeMaps (open_string shut_string)
set_option linter.unusedVariables false

def markS : ByteArray := ⟨#[109, 97, 114, 107]⟩
theorem stripP_ab : stripP [⟨#[97]⟩, ⟨#[98]⟩] 1 = ([⟨#[98]⟩], true) := rfl
theorem stripP_len (xs : List ByteArray) (n : Int) : (stripP xs n).1.length ≤ xs.length := by
  unfold stripP
  split
  · simp
  · simp

set_option maxHeartbeats 8000000 in
theorem routeStrips_calls (v : Value) (parts : List ByteArray) (n : Int) (w : World) (h : Rd w strE v parts) (hz : parts.length * 16 ≤ 140737488351232) (hn : -9223372036854775808 ≤ n ∧ n ≤ 9223372036854775807) :
    Calls Tryd.prog 10 #[v, .int .i64 n] w (Holds w) := by
  have AL := Lib.hid (fun wz => rAlive_calls wz)
  have H := Lib.hid h
  have CP := Lib.hid (show ∀ wz, Below w.heap.size w wz → Calls Tryd.prog 15 #[v] wz (Fresh wz parts) from fun wz hz' => copyTexts_calls v parts wz (H.out.below hz') (by omega))
  have S1 := Lib.hid (show ∀ wz u, Rd wz strE u parts → Calls Tryd.prog 22 #[u, .int .i64 n] wz (StripAns wz (stripP parts n)) from fun wz u hu => strip_calls u parts n wz hu (by omega) hn)
  have S2 := Lib.hid (show ∀ wz u, Rd wz strE u parts → Calls Tryd.prog 23 #[u, .int .i64 n] wz (StripAns wz (stripP parts n)) from fun wz u hu => refStrip_calls u parts n wz hu (by omega) hn)
  have S0 := Lib.hid (fun wz u (hu : Rd wz strE u [⟨#[97]⟩, ⟨#[98]⟩]) => strip_calls u [⟨#[97]⟩, ⟨#[98]⟩] 1 wz hu (by decide) (by omega))
  rw [stripP_ab] at S0
  have hl := stripP_len parts n
  generalize stripP parts n = R at *
  obtain ⟨xs, ok⟩ := R
  simp only at hl
  obtain ⟨q, hq⟩ : ∃ q, q = xs.length := ⟨_, rfl⟩
  have HQ := Lib.hid hq
  rw [← hq] at hl
  unfold StripAns at S1 S2 S0
  simp only at S1 S2 S0
  rw [← hq] at S1 S2
  obtain ⟨ao0, c0, rfl⟩ := h.any
  have hpl : parts.length ≤ 9223372036854775807 := by omega
  clear hq h hz
  obtain ⟨m, hm⟩ : ∃ m, m = parts.length := ⟨_, rfl⟩
  have HM := Lib.hid hm
  unfold Fresh at CP
  rw [← hm] at CP hl hpl H ⊢
  clear hm
  go_enter Tryd.func10, Tryd.ntmps10
  go_wp2_with fail
  refine (AL.out _).mono ?_
  rintro e w1 ⟨rfl, hb1⟩
  have B1 := Lib.hid hb1
  clear hb1
  go_wp2_with fail
  refine (S0.out _ _ (rd_lit w1 strE [⟨#[97]⟩, ⟨#[98]⟩] 9 _ rfl (by decide))).mono ?_
  rintro e w2 ⟨ao2, k2, rfl, ho2, hb2⟩
  have R2 := Lib.hid ho2.rd'
  have B2 := Lib.hid (Below.next B1.out (((Below.refl w1.heap.size w1).alloc (Nat.le_refl _) _).trans (hb2.mono (by simp))))
  clear ho2 hb2
  go_wp2_with fail
  refine (sameTexts_calls _ _ [⟨#[98]⟩] [⟨#[98]⟩] _ (R2.out.alloc _) (rd_lit w2 strE [⟨#[98]⟩] 9 _ rfl (by decide))).mono ?_
  rintro e w3 ⟨rfl, hd3⟩
  have B3 := Lib.hid ((B2.out.alloc B2.out.size (.cells #[.string ⟨#[98]⟩] 9)).trans (hd3.below _))
  clear hd3
  go_wp2_with fail
  refine (CP.out _ B3.out).mono ?_
  rintro e w4 ⟨g4, k4, rfl, ho4, hb4⟩
  have O4 := Lib.hid ho4
  have B4 := Lib.hid (Below.next B3.out hb4)
  clear ho4 hb4
  go_wp2_with fail
  refine (S1.out _ _ O4.out.rd').mono ?_
  rintro e w5 ⟨ao5, k5, rfl, ho5, hb5⟩
  have O5 := Lib.hid ho5
  have O45 := Lib.hid (O4.out.below' hb5)
  have B5 := Lib.hid (Below.next B4.out hb5)
  clear ho5
  go_wp2_with fail
  refine (S1.out _ _ O45.out.rd').mono ?_
  rintro e w6 ⟨ao6, k6, rfl, ho6, hb6⟩
  have O6 := Lib.hid ho6
  have O46 := Lib.hid (O45.out.below' hb6)
  have O56 := Lib.hid (O5.out.below' hb6)
  have B6 := Lib.hid (Below.next B5.out hb6)
  clear ho6
  go_wp2_with fail
  refine (S2.out _ _ (H.out.below B6.out)).mono ?_
  rintro e w7 ⟨ao7, k7, rfl, ho7, hb7⟩
  have O7 := Lib.hid ho7
  have O47 := Lib.hid (O46.out.below' hb7)
  have O57 := Lib.hid (O56.out.below' hb7)
  have O67 := Lib.hid (O6.out.below' hb7)
  have B7 := Lib.hid (Below.next B6.out hb7)
  have AP4 := Lib.hid (show ∀ k, (Value.slice (some ⟨g4, 0, none⟩) m k4).ownBlock = some k → (Value.slice ao5 q k5).ownBlock ≠ some k from fun k hk e => rows_apart (w1 := w4) (w2 := w5) O4.out O5.out (Nat.le_refl _) k e hk)
  have AP6 := Lib.hid (rows_apart (w1 := w5) (w2 := w6) O5.out O6.out (Nat.le_refl _))
  have AP7 := Lib.hid (rows_apart (w1 := w5) (w2 := w7) O5.out O7.out hb6.size)
  have I0 := Lib.hid (show MI w w7 w7 [.slice (some ⟨g4, 0, none⟩) m k4, .slice ao6 q k6, .slice ao7 q k7] (.slice ao5 q k5) xs from MI.start (O57.out.mono B4.out.size) B7.out (fun u hu k hk => by
    simp only [List.mem_cons, List.not_mem_nil, or_false] at hu
    rcases hu with rfl | rfl | rfl
    · exact ⟨(O47.out.lt hk).2, AP4.out k hk⟩
    · exact ⟨(O67.out.lt hk).2, AP6.out k hk⟩
    · exact ⟨(O7.out.lt hk).2, AP7.out k hk⟩))
  clear hb5 hb6 hb7 AP4 AP6 AP7 ho7
  go_wp2_with fail
  refine (sameTexts_calls _ _ xs xs _ O57.out.rd' O7.out.rd').mono ?_
  rintro e w8 ⟨rfl, hd8⟩
  rw [decide_eq_true rfl]
  have D8 := Lib.hid hd8
  have I8 := Lib.hid (I0.out.drawn hd8)
  clear hd8
  go_wp2_with fail
  refine (sameTexts_calls _ _ xs xs _ (O67.out.rd'.drawn D8.out) (O7.out.rd'.drawn D8.out)).mono ?_
  rintro e w9 ⟨rfl, hd9⟩
  rw [decide_eq_true rfl]
  have D9 := Lib.hid (D8.out.trans hd9)
  have I9 := Lib.hid (I8.out.drawn hd9)
  clear hd9
  go_wp2_with fail
  refine (sameTexts_calls _ _ parts parts _ (O47.out.rd'.drawn D9.out) (H.out.below (B7.out.trans (D9.out.below _)))).mono ?_
  rintro e w10 ⟨rfl, hd10⟩
  rw [decide_eq_true rfl]
  have I10 := Lib.hid (I9.out.drawn hd10)
  clear hd10
  go_wp2_with fail
  go_loopg [13] q (fun g s13 wr => ∃ (i : Nat) (ys : List ByteArray), s13 = .int .i64 i ∧ i ≤ q ∧ q - i ≤ g ∧ Hid (ys.length = q) ∧ Hid (MI w w7 wr [.slice (some ⟨g4, 0, none⟩) m k4, .slice ao6 q k6, .slice ao7 q k7] (.slice ao5 q k5) ys))
  case atStart => exact ⟨0, xs, rfl, Nat.zero_le _, by omega, Lib.hid HQ.out.symm, I10⟩
  case round =>
    obtain ⟨i, ys, rfl, hi, hg, HL, I⟩ := hrel
    rename World => wr
    by_cases hlt : i < q
    · have hne : ys ≠ [] := fun e => by have := HL.out; rw [e] at this; simp at this; omega
      obtain ⟨ga, ca, hv⟩ := I.out.own.addr hne
      simp only [Value.slice.injEq] at hv
      obtain ⟨rfl, _, rfl⟩ := hv
      have cl : ∃ old, wr.cell? ⟨ga, i, none⟩ = some old := ⟨_, I.out.own.cell i (by have := HL.out; omega)⟩
      obtain ⟨old, cl⟩ := cl
      have fl := I.out.own.free i
      have I2 := Lib.hid (I.out.store i markS)
      go_wp2
      go_roundg (q - (i + 1))
      case measure => omega
      case rel => exact ⟨i + 1, ys.set i markS, by go_num, by omega, Nat.le_refl _, Lib.hid (by rw [List.length_set]; exact HL.out), I2⟩
    · obtain rfl : i = q := by omega
      have hge : ¬ ((i : Int) < (i : Int)) := by omega
      have R4 := Lib.hid (I.out.rd (by simp) O47.out)
      have R6 := Lib.hid (I.out.rd (by simp) O67.out)
      have R7 := Lib.hid (I.out.rd (by simp) O7.out)
      have BJ := Lib.hid I.out.below
      go_wp2_with fail
      refine (sameTexts_calls _ _ xs xs _ R6.out R7.out).mono ?_
      rintro e w11 ⟨rfl, hd11⟩
      rw [decide_eq_true rfl]
      have D11 := Lib.hid hd11
      clear hd11
      go_wp2_with fail
      refine (sameTexts_calls _ _ parts parts _ (R4.out.drawn D11.out) (H.out.below (BJ.out.trans (D11.out.below _)))).mono ?_
      rintro e w12 ⟨rfl, hd12⟩
      rw [decide_eq_true rfl]
      have B12 := Lib.hid ((BJ.out.trans (D11.out.below _)).trans (hd12.below _))
      clear hd12
      go_wp2
      go_ret
      exact ⟨rfl, B12.out⟩

theorem routeStrips_core {H : Type} (enc : TypeId × Value → H) (W : World) (base : Nat) (args : Array Value) (ds : List (DataW H)) (before : List MemPlace)
    (hval : ∀ (j : Nat) t v, Tryd.f10.params[j]? = some t → args[j]? = some v → Value.okWide Tryd.prog W .any base t v)
    (hW : DataW.Whole enc Tryd.prog Tryd.f10.params.toList [] false W args.toList ds [] before)
    (hsz : (DataW.weightsEach Tryd.prog (Tryd.f10.params.toList ++ []) (ds ++ [])).all (· ≤ reachBytes) = true) (hL : laidMetH Tryd.prog Rows.routeStripsRow.laid W) (hsh : W.ShapedOpen Tryd.prog) :
    Calls Tryd.prog 10 args W (Holds W) := by
  obtain ⟨p, q, hA0, hV, rfl, _, _⟩ := hW
  have hA : DataW.TrodAll enc Tryd.prog W 0 (fun _ => true) true Tryd.f10.params.toList args.toList ds p := hA0
  rw [Tryd.params10] at hA hval hsz
  obtain ⟨v0, vs0, d0, ds0, p0, q0, hargs, rfl, rfl, h0, r0⟩ := trodAll_cons hA
  obtain ⟨v1, vs1, d1, ds1, p1, q1, rfl, rfl, rfl, h1, r1⟩ := trodAll_cons r0
  obtain ⟨rfl, rfl, rfl⟩ := trodAll_nil r1
  obtain rfl : args = #[v0, v1] := by cases args; simp_all
  obtain ⟨a0, rd0, td0, ws0⟩ := open_texts (hval 0 _ v0 rfl rfl) h0
  have z0 := texts_bound hsz (j := 0) rfl rfl td0
  obtain ⟨a1, rfl, rfl, rfl, w1⟩ := open_int Tryd.underlying3 (hval 1 _ v1 rfl rfl) h1
  exact routeStrips_calls v0 a0 a1 W rd0 z0 (int_bounds w1)

set_option maxRecDepth 100000 in
theorem routeStrips_reads (os : Os) {H : Type} (enc : TypeId × Value → H) : ∃ places, DataW.whole enc Tryd.prog ((laidWorld os).forCall (fun _ _ => 0) ⟨#[], #[.slice none 0 0, .int .i64 0], []⟩).memory Tryd.f10.params.toList Rows.routeStripsSpec.vars false (#[.slice none 0 0, .int .i64 0] : Array Value).toList 8 = some ([.nil, .lit (.int .i64 0)], [], places) :=
  ⟨[], by kernel_rfl⟩
set_option maxRecDepth 100000 in
theorem routeStrips_lifted (os : Os) (started : os.Started) (H : Type) (enc : TypeId × Value → H) (F : Stop.Interp) :
    ReturnsInHanded {} Tryd.checked os 10 .any ((OpenSpec.ofChange Rows.routeStripsSpec).preRow enc Tryd.prog Tryd.f10 Rows.routeStripsRow.domain false Rows.routeStripsRow.laid) (((OpenSpec.ofChange Rows.routeStripsSpec).at F).post enc Tryd.prog Tryd.f10 false true false false) := by
  obtain ⟨places, hx⟩ := routeStrips_reads os enc
  refine returnsInHanded_of_row (C := Tryd.checked) (s := OpenSpec.ofChange Rows.routeStripsSpec) own started (by kernel_rfl) Tryd.func10
    (witness_row_at (enc := enc) (C := Tryd.checked) false (laidWorld os) #[.slice none 0 0, .int .i64 0] rfl (by kernel_rfl) (by kernel_rfl) (by kernel_rfl)
      (OpenSpec.preRow_of_cond 8 hx (by kernel_rfl) (fun k hk => by cases hk) (by kernel_rfl) (laid_met os _))) ?_
  intro W base args ds gs before hval hW _ hcond hsz hL hsh _
  obtain rfl : gs = [] := by
    obtain ⟨p, q, hA0, hV, _⟩ := hW
    exact (trodVars_none hV).1
  obtain ⟨d0, d1, rfl⟩ : ∃ d0 d1, ds = [d0, d1] := by
    obtain ⟨p, q, hA0, _⟩ := hW
    have hA : DataW.TrodAll enc Tryd.prog W 0 (fun _ => true) true Tryd.f10.params.toList args.toList ds p := hA0
    rw [Tryd.params10] at hA
    obtain ⟨v0, vs0, d0, ds0, p0, q0, _, rfl, _, _, r0⟩ := trodAll_cons hA
    obtain ⟨v1, vs1, d1, ds1, p1, q1, _, rfl, _, _, r1⟩ := trodAll_cons r0
    obtain ⟨_, rfl, _⟩ := trodAll_nil r1
    exact ⟨_, _, rfl⟩
  refine (routeStrips_core enc W base args _ before hval hW hsz hL hsh).mono fun e W' ⟨he, hb⟩ => ?_
  subst he
  exact ⟨_, rfl, law_post hW rfl (fun t ht => by rw [Tryd.params10] at ht; simp only [List.mem_cons, List.not_mem_nil, or_false] at ht; rcases ht with rfl | rfl <;> exact ⟨by kernel_rfl, of_decide_eq_true (by kernel_rfl)⟩) rfl rfl rfl rfl hb⟩
theorem routeStrips_said : Rows.RouteStripsSaid :=
  OpenClaim.holds_of_cond 10 Tryd.f10 rfl rfl rfl rfl rfl rfl rfl ⟨rfl, rfl, rfl, rfl, rfl⟩ rfl rfl rfl rfl rfl (by kernel_rfl) Tryd.func10 (by kernel_rfl)
    (of_decide_eq_true (by kernel_rfl)) (by unfold Func.isWrapper; first | (rw [if_pos (by decide +kernel)]; kernel_rfl) | (rw [if_neg (by decide +kernel)]; exact ⟨rfl, rfl⟩))
    (fun os started H enc _ F => by rw [OpenClaim.pre_eq_preRow]; exact routeStrips_lifted os started H enc F)
theorem routeStrips_plain (f : FuncId) (fn : Func) (hf : Tryd.pinned.checked.prog.funcNamed Tryd.f10.name = some f) (hfn : Tryd.pinned.checked.prog.funcs[f]? = some fn) :
    false = Tryd.pinned.checked.prog.looks [] ∧ ∀ (j : Nat) t, fn.params[j]? = some t → Tryd.pinned.checked.prog.wantsStandIn t = false := by
  obtain rfl : f = 10 := Option.some.inj ((show Tryd.prog.funcNamed Tryd.f10.name = some 10 by kernel_rfl).symm.trans hf) |>.symm
  obtain rfl : fn = Tryd.f10 := (Option.some.inj (Tryd.func10.symm.trans hfn)).symm
  refine ⟨by kernel_rfl, fun j t ht => ?_⟩
  rw [Tryd.params10] at ht
  have hm := Array.mem_of_getElem? ht
  simp only [List.mem_toArray, List.mem_cons, List.not_mem_nil, or_false] at hm
  rcases hm with rfl | rfl
  · exact (show Tryd.prog.wantsStandIn 22 = false by kernel_rfl)
  · exact (show Tryd.prog.wantsStandIn 3 = false by kernel_rfl)
theorem routeStrips_card : Rows.RouteStripsCardSaid :=
  Claim7.holds_tied_plain_at .later [] _ _ _ _ routeStrips_said (fun _ h => by cases h) (by kernel_rfl) (fun _ h => by cases h) routeStrips_row_tie rfl ⟨rfl, rfl⟩ (by kernel_rfl) rfl routeStrips_plain (by kernel_rfl)
end Go.Proofs.YthhggganhegfhaaDoor
