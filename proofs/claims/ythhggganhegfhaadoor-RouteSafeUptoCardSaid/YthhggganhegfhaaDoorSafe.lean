/-
  RouteSafe: for every name and every two numbers that are together of bulk at most 1048576, RouteSafe returns true.
-/
import Derived.Test.YthhggganhegfhaaDoorJoinD
import Derived.ShutString
namespace Go.Proofs.YthhggganhegfhaaDoor
open Go.ChangeShapes Go.WideShapes Go.ChangeAt Go.RowKit
open Go.ChangeMaps (open_string shut_string)
set_option linter.unusedVariables false

theorem joinL_cons2 (x y : ByteArray) (r : List ByteArray) : joinL (x :: y :: r) = x.data.toList ++ 47 :: joinL (y :: r) := by
  unfold joinL
  rw [List.map_cons, Lib.join_cons, List.map_cons, Lib.join_cons]
  simp [Lib.joinTail]
theorem joinL_pcs : ∀ xs : List ByteArray, xs ≠ [] → (∀ x ∈ xs, noStroke x.data.toList) → pcs (joinL xs) = xs.map (·.data.toList)
  | [], h, _ => absurd rfl h
  | [x], _, h => by rw [joinL_one, pcs_last _ (h x (by simp))]; rfl
  | x :: y :: r, _, h => by
    rw [joinL_cons2, pcs_hit _ _ (h x (by simp)), joinL_pcs (y :: r) (by simp) (fun z hz => h z (by simp [hz]))]
    rfl
theorem pieces_join {xs : List ByteArray} (h0 : xs ≠ []) (h : ∀ x ∈ xs, noStroke x.data.toList) : pieces (joinB xs) = xs := by
  unfold pieces joinB
  rw [data_txt, joinL_pcs xs h0 h, List.map_map]
  conv => rhs; rw [← List.map_id xs]
  exact List.map_congr_left fun x _ => txt_data x
theorem joinL_mem : ∀ (xs : List ByteArray) (c : UInt8), c ∈ joinL xs → c = 47 ∨ ∃ x ∈ xs, c ∈ x.data.toList
  | [], c, h => by simp [joinL, Lib.join_nil] at h
  | [x], c, h => by rw [joinL_one] at h; exact Or.inr ⟨x, by simp, h⟩
  | x :: y :: r, c, h => by
    rw [joinL_cons2, List.mem_append, List.mem_cons] at h
    rcases h with h | h | h
    · exact Or.inr ⟨x, by simp, h⟩
    · exact Or.inl h
    · rcases joinL_mem (y :: r) c h with h | ⟨z, hz, hc⟩
      · exact Or.inl h
      · exact Or.inr ⟨z, by simp [hz], hc⟩
def lb : List (List UInt8) → Nat
  | [] => 0
  | p :: ps => (p.length + 1) + lb ps
theorem lb_pcs : ∀ l : List UInt8, lb (pcs l) = l.length + 1
  | [] => rfl
  | c :: l => by
    have ih := lb_pcs l
    rw [pcs]
    split
    · simp only [lb, List.length_nil, List.length_cons]; omega
    · split
      · rename_i e; exact absurd e (pcs_pos l)
      · rename_i p ps e
        rw [e] at ih
        simp only [lb, List.length_cons] at ih ⊢; omega
theorem tbulk_txt : ∀ ps : List (List UInt8), tbulk (ps.map txt) = lb ps
  | [] => rfl
  | p :: ps => by
    have : (txt p).size = p.length := by show p.toArray.size = _; simp
    simp only [List.map_cons, tbulk, lb, tbulk_txt ps, this]
theorem tbulk_filter (f : ByteArray → Bool) : ∀ xs : List ByteArray, tbulk (xs.filter f) ≤ tbulk xs
  | [] => Nat.le_refl _
  | x :: xs => by
    have ih := tbulk_filter f xs
    rw [List.filter_cons]
    split <;> simp only [tbulk] <;> omega
theorem joinL_len1 : ∀ xs : List ByteArray, xs ≠ [] → (joinL xs).length + 1 = tbulk xs
  | [], h => absurd rfl h
  | [x], _ => by rw [joinL_one, Array.length_toList]; rfl
  | x :: y :: r, _ => by
    have ih := joinL_len1 (y :: r) (by simp)
    rw [joinL_cons2, List.length_append, List.length_cons, Array.length_toList]
    simp only [tbulk] at ih ⊢
    have : x.data.size = x.size := rfl
    omega
/-- what the law says: the parts that are answered are split into the same -/
theorem split_again {name : ByteArray} {mx md : Int} {ys : List ByteArray} (h : splitP name mx md = (ys, 0)) :
    (ys.length : Int) ≤ md ∧ (name.size : Int) ≤ mx ∧ (∀ p ∈ ys, goodB p = true) ∧ tbulk ys ≤ name.size + 1 ∧ (ys ≠ [] → splitP (joinB ys) mx md = (ys, 0)) := by
  unfold splitP at h
  split at h
  · simp at h
  rename_i h0
  split at h
  · simp at h
  rename_i hm
  split at h
  · simp at h
  rename_i hn
  split at h
  · simp at h
  rename_i hf
  have hn' : hasNul name = false := by simpa using hn
  have hc := h
  unfold splitIn at h
  split at h
  · simp at h
  rename_i hd
  split at h
  · simp at h
  rename_i hw
  split at h
  · simp at h
  rename_i hl
  simp only [Prod.mk.injEq, and_true] at h
  have hd' : hasB dots2 ys = false := by rw [← h]; simpa using hd
  have hw' : ys.any wide = false := by rw [← h]; simpa using hw
  have htb : tbulk ys ≤ name.size + 1 := by
    rw [← h]
    refine Nat.le_trans (tbulk_filter _ _) ?_
    unfold pieces
    rw [tbulk_txt, lb_pcs, Array.length_toList]
    exact Nat.le_refl _
  have hparts : ∀ p ∈ ys, noStroke p.data.toList ∧ (∀ x ∈ p.data.toList, x ≠ 0) ∧ keepB p = true := fun p hp => by
    rw [← h, List.mem_filter] at hp
    obtain ⟨h1, h2⟩ := hp
    unfold pieces at h1
    obtain ⟨l, hl, rfl⟩ := List.mem_map.1 h1
    obtain ⟨h3, h4⟩ := pcs_parts _ l hl
    rw [data_txt]
    exact ⟨h3, fun x hx => noNul_of hn' x (h4 x hx), h2⟩
  have hgood : ∀ p ∈ ys, goodB p = true := fun p hp => by
    have := good_part (p := p) hn' (by rw [h]; exact hp) (hasB_mem hd' p hp)
    rw [this]
    have hq := List.any_eq_false.1 hw' p hp
    unfold wide at hq
    simp at hq
    exact decide_eq_true (by omega)
  refine ⟨by rw [← h]; omega, by omega, hgood, htb, fun hne => ?_⟩
  have hpj := pieces_join hne (fun x hx => (hparts x hx).1)
  have hsz : (joinB ys).size + 1 = tbulk ys := by
    have : (joinB ys).size = (joinL ys).length := by show (joinL ys).toArray.size = _; simp
    rw [this]; exact joinL_len1 ys hne
  obtain ⟨y, r, rfl⟩ : ∃ y r, ys = y :: r := by
    cases ys with
    | nil => exact absurd rfl hne
    | cons y r => exact ⟨y, r, rfl⟩
  have hy := hparts y (by simp)
  have hyn : y.data.toList ≠ [] := fun e => by
    have := hy.2.2
    rw [keepB_data', e] at this
    simp at this
  have hjd : (joinB (y :: r)).data.toList = joinL (y :: r) := by unfold joinB; rw [data_txt]
  have hfirst : (joinL (y :: r)).getD 0 0 = y.data.toList.getD 0 0 := by
    cases r with
    | nil => rw [joinL_one]
    | cons z r =>
      rw [joinL_cons2]
      cases e : y.data.toList with
      | nil => exact absurd e hyn
      | cons c l => rfl
  have hf47 : (joinL (y :: r)).getD 0 0 ≠ 47 := by
    rw [hfirst]
    cases e : y.data.toList with
    | nil => exact absurd e hyn
    | cons c l => exact hy.1 c (by rw [e]; simp)
  have hnj : hasNul (joinB (y :: r)) = false := by
    unfold hasNul
    rw [hjd, noNul_index _ (fun c hc => by
      rcases joinL_mem _ c hc with rfl | ⟨x, hx, hcx⟩
      · decide
      · exact (hparts x hx).2.1 c hcx)]
    rfl
  have h1size : 1 ≤ y.size := by
    cases e : y.data.toList with
    | nil => exact absurd e hyn
    | cons c l =>
      have : y.data.toList.length = y.size := Array.length_toList
      rw [e, List.length_cons] at this
      omega
  have hfilt : (pieces (joinB (y :: r))).filter keepB = y :: r := by
    rw [hpj]
    exact List.filter_eq_self.2 fun p hp => (hparts p hp).2.2
  unfold splitP
  rw [if_neg (by simp only [tbulk] at hsz; omega), if_neg (by omega), if_neg (by rw [hnj]; simp), if_neg (by rw [hjd]; exact hf47), hfilt]
  rw [← h]
  rw [h]
  unfold splitIn
  rw [if_neg (by rw [hd']; simp), if_neg (by rw [hw']; simp), if_neg (by rw [h] at hl; exact hl)]
theorem splitP_or (name : ByteArray) (mx md : Int) : (splitP name mx md).1 = [] ∨ (splitP name mx md).2 = 0 := by
  unfold splitP splitIn
  repeat' split
  all_goals first
    | exact Or.inl rfl
    | exact Or.inr rfl

set_option maxHeartbeats 8000000 in
theorem routeSafe_calls (name : ByteArray) (mx md : Int) (hz : name.size ≤ 140737488351232) (h1 : -9223372036854775808 ≤ mx ∧ mx ≤ 9223372036854775807) (h2 : -9223372036854775808 ≤ md ∧ md ≤ 9223372036854775807) (hk : name.size ≤ 1048576) (w : World) :
    Calls Tryd.prog 12 #[.string name, .int .i64 mx, .int .i64 md] w (Holds w) := by
  have AL := Lib.hid (fun wz => rAlive_calls wz)
  have S1 := Lib.hid (fun wz => splitP_calls name mx md wz (by omega))
  have HO := Lib.hid (splitP_or name mx md)
  have SA := Lib.hid (fun ys (h : splitP name mx md = (ys, 0)) => split_again h)
  generalize splitP name mx md = R at *
  obtain ⟨xs, err⟩ := R
  unfold SymAns at S1
  simp only at S1 HO
  obtain ⟨n, hn⟩ : ∃ n, n = xs.length := ⟨_, rfl⟩
  have HN := Lib.hid hn
  rw [← hn] at S1
  clear hn
  go_enter Tryd.func12, Tryd.ntmps12
  go_wp2_with fail
  refine (AL.out _).mono ?_
  rintro e w1 ⟨rfl, hb1⟩
  have B1 := Lib.hid hb1
  clear hb1
  go_wp2_with fail
  refine (S1.out _).mono ?_
  rintro e w2 ⟨ao2, c2, rfl, ho2, hb2⟩
  have O2 := Lib.hid ho2
  have B2 := Lib.hid (Below.next B1.out hb2)
  clear ho2 hb2
  by_cases e0 : err = 0
  · subst e0
    obtain ⟨f1, f2, f3, f4, f5⟩ := SA.out xs rfl
    have G := Lib.hid f3
    have AG := Lib.hid f5
    have hnl : n ≤ 9223372036854775807 := by
      have := O2.out.rd'.len
      rw [← HN.out] at this
      unfold maxLen at this
      exact this
    have g1 : ¬ (md < (n : Int)) := by rw [HN.out]; omega
    have g2 : decide (mx < (name.size : Int)) = false := decide_eq_false (by omega)
    have TB := Lib.hid f4
    clear f1 f2 f3 f4 f5 SA HO
    go_wp2_with fail
    go_loopg [9] n (fun g s9 wr => ∃ i : Nat, s9 = .int .i64 i ∧ i ≤ n ∧ n - i ≤ g ∧ Hid (Below w2.heap.size w2 wr))
    case atStart => exact ⟨0, rfl, Nat.zero_le _, by omega, Lib.hid (Below.refl _ _)⟩
    case round =>
      obtain ⟨i, rfl, hi, hg, BB⟩ := hrel
      rename World => wr
      have O3 := Lib.hid (O2.out.below' BB.out)
      by_cases hlt : i < n
      · have hne : xs ≠ [] := fun e => by have := HN.out; rw [e] at this; simp at this; omega
        obtain ⟨ga, ca, hv⟩ := O3.out.addr hne
        simp only [Value.slice.injEq] at hv
        obtain ⟨rfl, hnx, rfl⟩ := hv
        clear hnx
        have hix : i < xs.length := by rw [← HN.out]; exact hlt
        have cl := O3.out.cell i hix
        have hgd := G.out xs[i] (List.getElem_mem hix)
        generalize xs[i] = x at cl hgd
        have hgc := good_calls x wr
        rw [hgd] at hgc
        have GC := Lib.hid hgc
        clear hgc hgd
        go_wp2_with fail
        refine GC.out.mono ?_
        rintro e w5 ⟨rfl, hb5⟩
        have B5 := Lib.hid (Below.next BB.out hb5)
        clear hb5
        go_wp2
        go_roundg (n - (i + 1))
        case measure => omega
        case rel => exact ⟨i + 1, by go_num, by omega, Nat.le_refl _, B5⟩
      · obtain rfl : i = n := by omega
        have BW := Lib.hid (Below.next B2.out BB.out)
        cases i with
        | zero =>
          go_wp2
          go_ret
          exact ⟨rfl, BW.out⟩
        | succ m =>
          have hne : xs ≠ [] := fun e => by have := HN.out; rw [e] at this; simp at this
          have ag := AG.out hne
          have hj : (joinB xs).size ≤ 16777216 := by
            have e1 : (joinB xs).size = (joinL xs).length := by show (joinL xs).toArray.size = _; simp
            have e2 := joinL_len1 xs hne
            have := TB.out
            omega
          have JC := Lib.hid (fun wz u (hu : Rd wz strE u xs) => join_calls u xs wz hu (by have := TB.out; omega))
          have SC := Lib.hid (fun wz => splitP_calls (joinB xs) mx md wz hj)
          rw [ag] at SC
          unfold SymAns at SC
          simp only at SC
          rw [← HN.out] at SC
          clear ag hj
          generalize joinB xs = jb at *
          have hmne : (((m + 1 : Nat) : Int) == 0) = false := beq_eq_false_iff_ne.2 (by omega)
          go_wp2_with fail
          refine (JC.out _ _ O3.out.rd').mono ?_
          rintro e w6 ⟨rfl, hb6⟩
          have R6 := Lib.hid (O3.out.rd'.below hb6)
          have B6 := Lib.hid (Below.next BW.out hb6)
          clear hb6
          go_wp2_with fail
          refine (SC.out _).mono ?_
          rintro e w7 ⟨ao7, c7, rfl, ho7, hb7⟩
          have R7 := Lib.hid ho7.rd'
          have R67 := Lib.hid (R6.out.below hb7)
          have B7 := Lib.hid (Below.next B6.out hb7)
          clear ho7 hb7
          go_wp2_with fail
          refine (sameTexts_calls _ _ xs xs _ R67.out R7.out).mono ?_
          rintro e w8 ⟨rfl, hd⟩
          go_wp2
          go_ret
          exact ⟨by simp, B7.out.trans (hd.below _)⟩
  · have hx : xs = [] := by
      rcases HO.out with h | h
      · exact h
      · exact absurd h e0
    have hn0 : n = 0 := by rw [HN.out, hx]; rfl
    subst hn0
    have k1 : (err != 0) = true := bne_iff_ne.2 e0
    clear e0
    go_wp2
    go_ret
    exact ⟨rfl, B2.out⟩

theorem routeSafe_core {H : Type} (enc : TypeId × Value → H) (W : World) (base : Nat) (args : Array Value) (ds : List (DataW H)) (before : List MemPlace)
    (hval : ∀ (j : Nat) t v, Tryd.f12.params[j]? = some t → args[j]? = some v → Value.okWide Tryd.prog W .any base t v)
    (hW : DataW.Whole enc Tryd.prog Tryd.f12.params.toList [] false W args.toList ds [] before) (hk : Rows.uptoSmall H (ds ++ []) = true)
    (hsz : (DataW.weightsEach Tryd.prog (Tryd.f12.params.toList ++ []) (ds ++ [])).all (· ≤ reachBytes) = true) (hL : laidMetH Tryd.prog Rows.routeSafeUptoRow.laid W) (hsh : W.ShapedOpen Tryd.prog) :
    Calls Tryd.prog 12 args W (Holds W) := by
  obtain ⟨p, q, hA0, hV, rfl, _, _⟩ := hW
  have hA : DataW.TrodAll enc Tryd.prog W 0 (fun _ => true) true Tryd.f12.params.toList args.toList ds p := hA0
  rw [Tryd.params12] at hA hval hsz
  obtain ⟨v0, vs0, d0, ds0, p0, q0, hargs, rfl, rfl, h0, r0⟩ := trodAll_cons hA
  obtain ⟨v1, vs1, d1, ds1, p1, q1, rfl, rfl, rfl, h1, r1⟩ := trodAll_cons r0
  obtain ⟨v2, vs2, d2, ds2, p2, q2, rfl, rfl, rfl, h2, r2⟩ := trodAll_cons r1
  obtain ⟨rfl, rfl, rfl⟩ := trodAll_nil r2
  obtain rfl : args = #[v0, v1, v2] := by cases args; simp_all
  obtain ⟨a0, rfl, rfl, rfl, w0⟩ := open_string Tryd.underlying9 (hval 0 _ v0 rfl rfl) h0
  obtain ⟨a1, rfl, rfl, rfl, w1⟩ := open_int Tryd.underlying3 (hval 1 _ v1 rfl rfl) h1
  obtain ⟨a2, rfl, rfl, rfl, w2⟩ := open_int Tryd.underlying3 (hval 2 _ v2 rfl rfl) h2
  have z0 : a0.size ≤ 140737488351232 := by
    have := sized_string hsz (j := 0) (t := 9) rfl rfl
    rw [Array.length_toList] at this; exact this
  have bk0 : a0.size ≤ Rows.uptoBulk (DataW.lit (H := H) (.string a0.data.toList)) := by simp [Rows.uptoBulk]
  have hkk : a0.size ≤ 1048576 := by
    have hk2 := of_decide_eq_true hk
    simp only [List.cons_append, List.nil_append, Rows.uptoBulkAll] at hk2
    omega
  exact routeSafe_calls a0 a1 a2 z0 (int_bounds w1) (int_bounds w2) hkk W

set_option maxRecDepth 100000 in
theorem routeSafe_reads (os : Os) {H : Type} (enc : TypeId × Value → H) : ∃ places, DataW.whole enc Tryd.prog ((laidWorld os).forCall (fun _ _ => 0) ⟨#[], #[.string .empty, .int .i64 0, .int .i64 0], []⟩).memory Tryd.f12.params.toList Rows.routeSafeSpec.vars false (#[.string .empty, .int .i64 0, .int .i64 0] : Array Value).toList 8 = some ([.lit (.string []), .lit (.int .i64 0), .lit (.int .i64 0)], [], places) :=
  ⟨[], by kernel_rfl⟩
set_option maxRecDepth 100000 in
theorem routeSafe_lifted (os : Os) (started : os.Started) (H : Type) (enc : TypeId × Value → H) (F : Stop.Interp) :
    ReturnsInHanded {} Tryd.checked os 12 .any ((Rows.OpenSpec.upto Rows.routeSafeSpec).preRow enc Tryd.prog Tryd.f12 Rows.routeSafeUptoRow.domain false Rows.routeSafeUptoRow.laid) (((Rows.OpenSpec.upto Rows.routeSafeSpec).at F).post enc Tryd.prog Tryd.f12 false true false false) := by
  obtain ⟨places, hx⟩ := routeSafe_reads os enc
  refine returnsInHanded_of_row (C := Tryd.checked) (s := Rows.OpenSpec.upto Rows.routeSafeSpec) own started (by kernel_rfl) Tryd.func12
    (witness_row_at (enc := enc) (C := Tryd.checked) false (laidWorld os) #[.string .empty, .int .i64 0, .int .i64 0] rfl (by kernel_rfl) (by kernel_rfl) (by kernel_rfl)
      (OpenSpec.preRow_of_cond 8 hx (by kernel_rfl) (fun k hk => by cases hk; kernel_rfl) (by kernel_rfl) (laid_met os _))) ?_
  intro W base args ds gs before hval hW _ hcond hsz hL hsh _
  obtain rfl : gs = [] := by
    obtain ⟨p, q, hA0, hV, _⟩ := hW
    exact (trodVars_none hV).1
  obtain ⟨d0, d1, d2, rfl⟩ : ∃ d0 d1 d2, ds = [d0, d1, d2] := by
    obtain ⟨p, q, hA0, _⟩ := hW
    have hA : DataW.TrodAll enc Tryd.prog W 0 (fun _ => true) true Tryd.f12.params.toList args.toList ds p := hA0
    rw [Tryd.params12] at hA
    obtain ⟨v0, vs0, d0, ds0, p0, q0, _, rfl, _, _, r0⟩ := trodAll_cons hA
    obtain ⟨v1, vs1, d1, ds1, p1, q1, _, rfl, _, _, r1⟩ := trodAll_cons r0
    obtain ⟨v2, vs2, d2, ds2, p2, q2, _, rfl, _, _, r2⟩ := trodAll_cons r1
    obtain ⟨_, rfl, _⟩ := trodAll_nil r2
    exact ⟨_, _, _, rfl⟩
  refine (routeSafe_core enc W base args _ before hval hW (hcond _ rfl) hsz hL hsh).mono fun e W' ⟨he, hb⟩ => ?_
  subst he
  exact ⟨_, rfl, law_post hW rfl (fun t ht => by rw [Tryd.params12] at ht; simp only [List.mem_cons, List.not_mem_nil, or_false] at ht; rcases ht with rfl | rfl | rfl <;> exact ⟨by kernel_rfl, of_decide_eq_true (by kernel_rfl)⟩) rfl rfl rfl rfl hb⟩
theorem routeSafe_saidUpto : Rows.RouteSafeUptoSaid :=
  OpenClaim.holds_of_cond 12 Tryd.f12 rfl rfl rfl rfl rfl rfl rfl ⟨rfl, rfl, rfl, rfl, rfl⟩ rfl rfl rfl rfl rfl (by kernel_rfl) Tryd.func12 (by kernel_rfl)
    (of_decide_eq_true (by kernel_rfl)) (by unfold Func.isWrapper; first | (rw [if_pos (by decide +kernel)]; kernel_rfl) | (rw [if_neg (by decide +kernel)]; exact ⟨rfl, rfl⟩))
    (fun os started H enc _ F => by rw [OpenClaim.pre_eq_preRow]; exact routeSafe_lifted os started H enc F)
theorem routeSafe_plain (f : FuncId) (fn : Func) (hf : Tryd.pinned.checked.prog.funcNamed Tryd.f12.name = some f) (hfn : Tryd.pinned.checked.prog.funcs[f]? = some fn) :
    false = Tryd.pinned.checked.prog.looks [] ∧ ∀ (j : Nat) t, fn.params[j]? = some t → Tryd.pinned.checked.prog.wantsStandIn t = false := by
  obtain rfl : f = 12 := Option.some.inj ((show Tryd.prog.funcNamed Tryd.f12.name = some 12 by kernel_rfl).symm.trans hf) |>.symm
  obtain rfl : fn = Tryd.f12 := (Option.some.inj (Tryd.func12.symm.trans hfn)).symm
  refine ⟨by kernel_rfl, fun j t ht => ?_⟩
  rw [Tryd.params12] at ht
  have hm := Array.mem_of_getElem? ht
  simp only [List.mem_toArray, List.mem_cons, List.not_mem_nil, or_false] at hm
  rcases hm with rfl | rfl | rfl
  · exact (show Tryd.prog.wantsStandIn 9 = false by kernel_rfl)
  · exact (show Tryd.prog.wantsStandIn 3 = false by kernel_rfl)
  · exact (show Tryd.prog.wantsStandIn 3 = false by kernel_rfl)
theorem routeSafe_card : Rows.RouteSafeUptoCardSaid :=
  Claim7.holds_tied_plain_at .later [] _ _ _ _ routeSafe_saidUpto (fun _ h => by cases h) (by kernel_rfl) (fun _ h => by cases h) routeSafeUpto_row_tie rfl ⟨rfl, rfl⟩ (by kernel_rfl) rfl routeSafe_plain (by kernel_rfl)
end Go.Proofs.YthhggganhegfhaaDoor
