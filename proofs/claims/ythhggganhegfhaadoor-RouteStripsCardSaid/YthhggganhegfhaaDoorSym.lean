/-
  The walks of slices.Clone at []string and of target.Sym: every list, every text that is not too long, every policy.
-/
import Derived.Test.YthhggganhegfhaaDoorDelete
import Derived.Test.YthhggganhegfhaaDoorPushG
import Derived.Test.YthhggganhegfhaaDoorIndexByte
import Derived.WalkMore
namespace Go.Proofs.YthhggganhegfhaaDoor
open Go.RowKit
set_option linter.unusedVariables false

theorem cloneS_calls (v : Value) (xs : List ByteArray) (w : World) (h : Rd w strE v xs) (hz : xs.length * 16 ≤ 140737488355328) :
    Calls Tryd.prog 30 #[v] w fun e w' => ∃ ao cap, e = .returned (.slice ao xs.length cap) ∧ Own w' w.heap.size 9 strE (.slice ao xs.length cap) xs ∧ Below w.heap.size w w' := by
  obtain ⟨ao, c, hv, h1, h2, h3, h4⟩ := id h
  subst hv
  have HR := Lib.hid h
  cases ao with
  | none =>
    have hx : xs = [] := by
      cases xs with
      | nil => rfl
      | cons y ys => have := h3 rfl; simp at h1; omega
    subst hx
    clear h h1 h2 h3 h4
    have q22 : ∀ (w : World) (a : Option Addr) (n c n' c' : Nat), (binOp .eql 22 (.slice a n c) (.slice none n' c')).run Tryd.prog w = .ok (.bool a.isNone) w := fun w a n c n' c' => Lib.run_eql_slice_nil w _ _ a n c n' c' Tryd.underlying22
    go_enter Tryd.func30, Tryd.ntmps30
    go_wp2
    go_ret
    exact ⟨_, _, rfl, own_nil _ _ _ _, Below.refl _ _⟩
  | some ad =>
    clear h h1 h2 h3 h4
    have q22 : ∀ (w : World) (a : Option Addr) (n c n' c' : Nat), (binOp .eql 22 (.slice a n c) (.slice none n' c')).run Tryd.prog w = .ok (.bool a.isNone) w := fun w a n c n' c' => Lib.run_eql_slice_nil w _ _ a n c n' c' Tryd.underlying22
    go_enter Tryd.func30, Tryd.ntmps30
    go_wp2_with (at_builtin; refine wpList_push_all _ rfl (.tmp 5) (.tmp 6) 22 rfl w.heap.size 9 (.string ⟨#[]⟩) 16 strE Tryd.underlying22 Tryd.info9 rfl w.heap.size 0 0 [] xs _ rfl (own_empty _ _ _ _ (Nat.le_refl _)) rfl (HR.out.alloc _) (fun _ => rfl) (by omega) (by unfold maxLen; omega) (by simp) ?_; intro g cap w1 hown hb1)
    go_ret
    exact ⟨some ⟨g, 0, none⟩, cap, by simp, by simpa using hown, ((Below.refl _ _).alloc (Nat.le_refl _) _).trans hb1⟩

/-- one step upwards -/
def isUp (p : ByteArray) : Bool := p.toList == [46, 46]
/-- where the pieces lead from here; none: out -/
def climb : List ByteArray → List ByteArray → Option (List ByteArray)
  | at_, [] => some at_
  | at_, p :: ps => if keepB p = false then climb at_ ps else if isUp p = true then (if at_ = [] then none else climb at_.dropLast ps) else climb (at_ ++ [p]) ps
def hasNul (s : ByteArray) : Bool := decide (0 ≤ Lib.indexByte s.data.toList 0)
/-- what Sym answers -/
def symP (dir : List ByteArray) (text : ByteArray) (pol mx : Int) : List ByteArray × Int :=
  if ¬ (pol = 0 ∨ pol = 1) then ([], 100) else if text.size = 0 then ([], 90) else if mx < (text.size : Int) then ([], 93) else if hasNul text = true then ([], 91) else if pol = 0 then ([], 0) else
    if text.data.toList.getD 0 0 = 47 then ([], 92) else match climb dir (pieces text) with
      | some a => (a, 0)
      | none => ([], 101)
/-- what a call of Sym leaves: an own row, or nil -/
def SymAns (w : World) (r : List ByteArray × Int) (e : Ending) (w' : World) : Prop :=
  ∃ ao cap, e = .returned (.tuple #[.slice ao r.1.length cap, .int .i64 r.2]) ∧ Own w' w.heap.size 9 strE (.slice ao r.1.length cap) r.1 ∧ Below w.heap.size w w'
theorem SymAns.err {w w' : World} {r : List ByteArray × Int} (c : Int) (h : r = ([], c)) (hb : Below w.heap.size w w') : SymAns w r (.returned (.tuple #[.slice none 0 0, .int .i64 c])) w' := by
  subst h
  exact ⟨none, 0, rfl, own_nil _ _ _ _, hb⟩
theorem climb_drop {ps : List ByteArray} {k : Nat} (hk : k < ps.length) (a : List ByteArray) : climb a (ps.drop k) =
    if keepB (ps.getD k ByteArray.empty) = false then climb a (ps.drop (k + 1)) else if isUp (ps.getD k ByteArray.empty) = true then (if a = [] then none else climb a.dropLast (ps.drop (k + 1))) else climb (a ++ [ps.getD k ByteArray.empty]) (ps.drop (k + 1)) := by
  rw [List.drop_eq_getElem_cons hk, climb]
  simp [List.getD, List.getElem?_eq_getElem hk]

/-- what the loop over the pieces keeps -/
structure SymInv (w w2 wr : World) (NB : Nat) (ps at_ : List ByteArray) (v : Value) : Prop where
  own : Own wr w.heap.size 9 strE v at_
  blk : Blk wr NB (ps.map Value.string).toArray 9
  ne : v.ownBlock ≠ some NB
  below : Below w.heap.size w wr

def SymBody (w : World) (R : List ByteArray × Int) (dir : List ByteArray) (text : ByteArray) (ao0 : Option Addr) (c0 : Nat) (mx pol : Int) : Prop :=
  Calls Tryd.prog 16 #[.slice ao0 dir.length c0, .string text, .int .i64 pol, .int .i64 mx] w (SymAns w R)

set_option maxHeartbeats 8000000 in
/-- the way over the pieces -/
theorem sym_inside (dir : List ByteArray) (text : ByteArray) (ao0 : Option Addr) (c0 : Nat) (mx : Int) (w : World) (h : Rd w strE (.slice ao0 dir.length c0) dir) (hz : text.size ≤ 16777216) (hd : dir.length ≤ 16777216)
    (he : text.toList.isEmpty = false) (hm : ¬ (mx < (text.size : Int))) (hn : decide (0 ≤ Lib.indexByte text.data.toList 0) = false) (hp : 0 < text.size) (hs : (((text[0]'hp).toNat : Int) == 47) = false)
    (R : List ByteArray × Int) (hR : R = match climb dir (pieces text) with | some a => (a, 0) | none => ([], 101)) : SymBody w R dir text ao0 c0 mx 1 := by
  unfold SymBody
  have HR := Lib.hid h
  have hlen : (pieces text).length ≤ text.size + 1 := by
    unfold pieces
    rw [List.length_map]
    have := pcs_len text.data.toList
    rw [Array.length_toList] at this
    exact this
  have HRR := Lib.hid hR
  have hn' : ¬ (0 ≤ Lib.indexByte text.data.toList 0) := of_decide_eq_false hn
  have HI := Lib.hid (indexByte_calls text 0 w)
  have HC := Lib.hid (cloneS_calls _ dir w h (by omega))
  have HS := Lib.hid (fun w2 => split_calls text w2 (by omega))
  generalize pieces text = ps at *
  generalize hdn : dir.length = dn at *
  generalize hpn : ps.length = pn at *
  have HPN := Lib.hid hpn
  have HDN := Lib.hid hdn
  clear hR hn h hpn hdn
  go_enter Tryd.func16, Tryd.ntmps16
  go_wp2
  go_step3
  go_wp2_with fail
  refine HI.out.mono ?_
  rintro e w1 ⟨rfl, rfl⟩
  go_wp2_with fail
  refine HC.out.mono ?_
  rintro e w1 ⟨ao1, c1, rfl, o1, b1⟩
  have O1 := Lib.hid o1
  have B1 := Lib.hid b1
  clear o1 b1
  go_wp2_with fail
  go_step3
  go_wp2_with fail
  refine (HS.out _).mono ?_
  rintro e w2 ⟨rfl, hw⟩
  have I0 := Lib.hid (show SymInv w w2 w2 w1.heap.size ps dir (.slice ao1 dn c1) from by
    subst hw
    exact ⟨O1.out.alloc _, Blk.new _ _ _, fun e => by have := (O1.out.lt e).2; omega, B1.out.alloc B1.out.size _⟩)
  clear hw
  generalize hNB : w1.heap.size = NB at *
  clear hNB
  go_wp2_with fail
  have hpl : pn ≤ 16777217 := by omega
  go_loopg [10, 44] pn (fun g s10 s44 wr => ∃ (at_ : List ByteArray) (k n : Nat) (ao : Option Addr) (cap : Nat), s10 = .slice ao n cap ∧ s44 = .int .i64 k ∧ k ≤ pn ∧ pn - k ≤ g ∧ n ≤ dn + k ∧ Hid (n = at_.length) ∧ Hid (climb at_ (ps.drop k) = climb dir ps) ∧ Hid (SymInv w w2 wr NB ps at_ (.slice ao n cap)))
  case atStart => exact ⟨dir, 0, dn, ao1, c1, rfl, rfl, Nat.zero_le _, by omega, by omega, Lib.hid HDN.out.symm, Lib.hid rfl, I0⟩
  case round =>
    obtain ⟨at_, k, n, ao, cap, rfl, rfl, hk, hg, hnk, HN, HCL, IV⟩ := hrel
    have hwr : w.heap.size ≤ wr.heap.size := IV.out.below.size
    by_cases hlt : k < pn
    · have hkp : k < ps.length := by have := HPN.out; omega
      have g1 : wr.cell? ⟨NB, k, none⟩ = some (strE (ps.getD k ByteArray.empty)) := by
        rw [IV.out.blk.cell]
        simp [List.getD, List.getElem?_eq_getElem hkp]
      have HCD := Lib.hid (climb_drop hkp at_)
      generalize hx : ps.getD k ByteArray.empty = x at g1
      have HX := Lib.hid hx
      clear hx
      cases q1 : x.toList.isEmpty
      · cases q2 : (x.toList == [46])
        · have HK := Lib.hid (show keepB x = true by unfold keepB; rw [q1, q2]; rfl)
          cases q3 : (x.toList == [46, 46])
          · have HU := Lib.hid (show isUp x = false from q3)
            go_wp2_with (at_builtin; refine wpList_pushG wr rfl (.tmp 49) (.tmp 51) 22 rfl w.heap.size 9 (.string ⟨#[]⟩) 16 strE Tryd.underlying22 Tryd.info9 rfl _ at_ x n rfl IV.out.own HN.out.symm _ rfl rfl rfl (by omega) (by unfold maxLen; omega) hwr ?_; intro g2 cap2 w3 hown2 hb2 hap2)
            go_roundg (pn - (k + 1))
            case measure => omega
            case rel =>
              refine ⟨at_ ++ [x], k + 1, n + 1, some ⟨g2, 0, none⟩, cap2, rfl, by go_num, by omega, Nat.le_refl _, by omega, Lib.hid (by rw [List.length_append, HN.out]; rfl), Lib.hid ?_, Lib.hid ?_⟩
              · have e := HCD.out
                rw [HX.out, HK.out, HU.out] at e
                rw [← HCL.out, e]
                simp
              · have := hap2 NB IV.out.blk.lt IV.out.ne
                exact ⟨hown2, by unfold Blk; rw [this.2]; exact IV.out.blk, this.1, IV.out.below.trans hb2⟩
          · have HU := Lib.hid (show isUp x = true from q3)
            cases n with
            | zero =>
              have e : R = ([], 101) := by
                rw [HRR.out, ← HCL.out, HCD.out, HX.out, HK.out, HU.out]
                have : at_ = [] := List.eq_nil_of_length_eq_zero HN.out.symm
                subst this
                rfl
              have E := Lib.hid e
              clear e
              go_wp2
              rw [Exit.noGoto_ret]
              go_ret2
              exact SymAns.err 101 E.out IV.out.below
            | succ m =>
              have ha : at_ ≠ [] := fun e => by have := HN.out; rw [e] at this; simp at this
              obtain ⟨g0, cap0, hv⟩ := IV.out.own.addr ha
              simp only [Value.slice.injEq] at hv
              obtain ⟨rfl, _, rfl⟩ := hv
              have hmc : m + 1 ≤ cap := by have := IV.out.own.len; have := HN.out; omega
              have h1 : ¬ ((m : Int) + 1 = 0) := by omega
              have h2 : (0 : Int) ≤ (m : Int) := by omega
              have h3 : (m : Int) ≤ (cap : Int) := by omega
              go_wp2
              go_roundg (pn - (k + 1))
              case measure => omega
              case rel =>
                refine ⟨at_.dropLast, k + 1, m, some ⟨g0, 0, none⟩, cap, by first | rfl | (have := HN.out; simp; omega), by go_num, by omega, Nat.le_refl _, by omega, Lib.hid (by rw [List.length_dropLast]; have := HN.out; omega), Lib.hid ?_, Lib.hid ?_⟩
                · have e := HCD.out
                  rw [HX.out, HK.out, HU.out, if_neg ha] at e
                  rw [← HCL.out, e]
                  simp
                · have := IV.out.own.cut m (by have := HN.out; omega)
                  rw [show at_.take m = at_.dropLast by rw [List.dropLast_eq_take]; congr 1; have := HN.out; omega] at this
                  exact ⟨this, IV.out.blk, IV.out.ne, IV.out.below⟩
        · have HK := Lib.hid (show keepB x = false by unfold keepB; rw [q1, q2]; rfl)
          go_wp2
          go_roundg (pn - (k + 1))
          case measure => omega
          case rel =>
            refine ⟨at_, k + 1, n, ao, cap, rfl, by go_num, by omega, Nat.le_refl _, by omega, HN, Lib.hid ?_, IV⟩
            have e := HCD.out
            rw [HX.out, HK.out] at e
            rw [← HCL.out, e]
            simp
      · have HK := Lib.hid (show keepB x = false by unfold keepB; rw [q1]; rfl)
        go_wp2
        go_roundg (pn - (k + 1))
        case measure => omega
        case rel =>
          refine ⟨at_, k + 1, n, ao, cap, rfl, by go_num, by omega, Nat.le_refl _, by omega, HN, Lib.hid ?_, IV⟩
          have e := HCD.out
          rw [HX.out, HK.out] at e
          rw [← HCL.out, e]
          simp
    · have hkn : k = pn := by omega
      have e : R = (at_, 0) := by
        have hc := HCL.out
        rw [hkn, ← HPN.out, List.drop_length] at hc
        rw [HRR.out, ← hc]
        rfl
      have E := Lib.hid e
      clear e
      have hle : ¬ ((k : Int) < (pn : Int)) := by omega
      go_wp2
      go_ret2
      rw [E.out]
      refine ⟨ao, cap, ?_, ?_, IV.out.below⟩
      · simp only
        rw [← HN.out]
        rfl
      · simp only
        rw [← HN.out]
        exact IV.out.own

theorem empty_of {s : ByteArray} (h : s.size = 0) : s.toList.isEmpty = true := by
  rw [Lib.toList_data, List.isEmpty_iff]
  exact List.eq_nil_of_length_eq_zero (by rw [Array.length_toList]; exact h)
theorem full_of {s : ByteArray} (h : ¬ s.size = 0) : s.toList.isEmpty = false := by
  rw [Lib.toList_data]
  cases e : s.data.toList with
  | nil => exact absurd (by rw [← Array.length_toList (xs := s.data), e]; rfl : s.data.size = 0) h
  | cons _ _ => rfl

set_option maxHeartbeats 8000000 in
theorem sym_calls (v : Value) (dir : List ByteArray) (text : ByteArray) (pol mx : Int) (w : World) (h : Rd w strE v dir) (hz : text.size ≤ 16777216) (hd : dir.length ≤ 16777216) :
    Calls Tryd.prog 16 #[v, .string text, .int .i64 pol, .int .i64 mx] w (SymAns w (symP dir text pol mx)) := by
  have HR := Lib.hid h
  obtain ⟨ao0, c0, rfl⟩ := h.any
  obtain ⟨R, hR⟩ : ∃ R, R = symP dir text pol mx := ⟨_, rfl⟩
  rw [← hR]
  have HRR := Lib.hid hR
  clear hR
  by_cases hp : pol = 0 ∨ pol = 1
  · by_cases h0 : text.size = 0
    · have he := empty_of h0
      have e : R = ([], 90) := by rw [HRR.out]; unfold symP; rw [if_neg (fun h => h hp), if_pos h0]
      have E := Lib.hid e
      clear e h0 h
      rcases hp with rfl | rfl
      all_goals go_enter Tryd.func16, Tryd.ntmps16
      all_goals go_wp2
      all_goals go_step3
      all_goals go_wp2
      all_goals rw [Exit.noGoto_ret]
      all_goals go_ret2
      all_goals exact SymAns.err 90 E.out (Below.refl _ _)
    · have he := full_of h0
      by_cases hm : mx < (text.size : Int)
      · have e : R = ([], 93) := by rw [HRR.out]; unfold symP; rw [if_neg (fun h => h hp), if_neg h0, if_pos hm]
        have E := Lib.hid e
        clear e h0 h
        rcases hp with rfl | rfl
        all_goals go_enter Tryd.func16, Tryd.ntmps16
        all_goals go_wp2
        all_goals go_step3
        all_goals go_wp2
        all_goals rw [Exit.noGoto_ret]
        all_goals go_ret2
        all_goals exact SymAns.err 93 E.out (Below.refl _ _)
      · cases hn : hasNul text
        · by_cases hpp : pol = 0
          · subst hpp
            have e : R = ([], 0) := by rw [HRR.out]; unfold symP; rw [if_neg (fun h => h hp), if_neg h0, if_neg hm, hn]; rfl
            have E := Lib.hid e
            have hn' : ¬ (0 ≤ Lib.indexByte text.data.toList 0) := of_decide_eq_false hn
            have HI := Lib.hid (indexByte_calls text 0 w)
            clear e h0 h hn
            go_enter Tryd.func16, Tryd.ntmps16
            go_wp2
            go_step3
            go_wp2_with fail
            refine HI.out.mono ?_
            rintro e w1 ⟨rfl, rfl⟩
            go_wp2
            rw [Exit.noGoto_ret]
            go_ret2
            exact SymAns.err 0 E.out (Below.refl _ _)
          · obtain rfl : pol = 1 := by omega
            have h00 : 0 < text.size := by omega
            have hgb : text.data.toList.getD 0 0 = text[0] := by
              have h' : 0 < text.data.toList.length := by rw [Array.length_toList]; exact h00
              simp [List.getD, List.getElem?_eq_getElem h']
              rfl
            by_cases hs : text[0]'h00 = 47
            · have e : R = ([], 92) := by
                rw [HRR.out]; unfold symP
                rw [if_neg (fun h => h hp), if_neg h0, if_neg hm, hn, if_neg (by simp), if_neg hpp, if_pos (by rw [hgb]; exact hs)]
              have E := Lib.hid e
              have hn' : ¬ (0 ≤ Lib.indexByte text.data.toList 0) := of_decide_eq_false hn
              have HI := Lib.hid (indexByte_calls text 0 w)
              have hs' : (((text[0]'h00).toNat : Int) == 47) = true := by rw [hs]; rfl
              clear e h0 h hn hs hgb
              go_enter Tryd.func16, Tryd.ntmps16
              go_wp2
              go_step3
              go_wp2_with fail
              refine HI.out.mono ?_
              rintro e w1 ⟨rfl, rfl⟩
              go_wp2
              rw [Exit.noGoto_ret]
              go_ret2
              exact SymAns.err 92 E.out (Below.refl _ _)
            · refine sym_inside dir text ao0 c0 mx w HR.out hz hd he hm hn h00 ?_ R ?_
              · refine beq_eq_false_iff_ne.2 fun e => hs ?_
                have : (text[0]'h00).toNat = 47 := by omega
                exact UInt8.toNat_inj.1 this
              · rw [HRR.out]; unfold symP
                rw [if_neg (fun h => h hp), if_neg h0, if_neg hm, hn, if_neg (by simp), if_neg hpp, if_neg (by rw [hgb]; exact hs)]
        · have e : R = ([], 91) := by rw [HRR.out]; unfold symP; rw [if_neg (fun h => h hp), if_neg h0, if_neg hm, if_pos hn]
          have E := Lib.hid e
          have hn' : 0 ≤ Lib.indexByte text.data.toList 0 := of_decide_eq_true hn
          have HI := Lib.hid (indexByte_calls text 0 w)
          clear e h0 h hn
          rcases hp with rfl | rfl
          all_goals go_enter Tryd.func16, Tryd.ntmps16
          all_goals go_wp2
          all_goals go_step3
          all_goals go_wp2_with fail
          all_goals refine HI.out.mono ?_
          all_goals rintro e w1 ⟨rfl, rfl⟩
          all_goals go_wp2
          all_goals rw [Exit.noGoto_ret]
          all_goals go_ret2
          all_goals exact SymAns.err 91 E.out (Below.refl _ _)
  · have e : R = ([], 100) := by rw [HRR.out]; unfold symP; rw [if_pos hp]
    have E := Lib.hid e
    have h1 : (pol != 0) = true := bne_iff_ne.2 (fun e => hp (Or.inl e))
    have h2 : (pol != 1) = true := bne_iff_ne.2 (fun e => hp (Or.inr e))
    clear e h hp
    go_enter Tryd.func16, Tryd.ntmps16
    go_wp2
    go_step3
    go_wp2
    rw [Exit.noGoto_ret]
    go_ret2
    exact SymAns.err 100 E.out (Below.refl _ _)
end Go.Proofs.YthhggganhegfhaaDoor
