/-
  The walk of the document's Change: every mode and every text that is not too long.
-/
import Derived.Test.YtbkclmpopofebaaDoorRefClause
import Derived.Test.YtbkclmpopofebaaDoorChangeW
namespace Go.Proofs.YtbkclmpopofebaaDoor
open Go.RowKit
set_option linter.unusedVariables false

theorem pieces_at {l : List UInt8} {out : List (List UInt8)} {from_ i : Nat} (h : out ++ pcs (l.drop from_) = pcs l) (hf : from_ ≤ i) (hi : i < l.length) (hn : ∀ j, from_ ≤ j → j < i → l.getD j 0 ≠ 44) (hs : l.getD i 0 = 44) :
    (out ++ [(l.drop from_).take (i - from_)]) ++ pcs (l.drop (i + 1)) = pcs l := by
  have e : l.drop from_ = (l.drop from_).take (i - from_) ++ 44 :: l.drop (i + 1) := by
    conv => lhs; rw [← List.take_append_drop (i - from_) (l.drop from_)]
    congr 1
    rw [List.drop_drop, show from_ + (i - from_) = i by omega, List.drop_eq_getElem_cons hi]
    congr 1
    rw [List.getD, List.getElem?_eq_getElem hi] at hs
    exact hs
  have hc : noComma ((l.drop from_).take (i - from_)) := fun x hx => by
    obtain ⟨k, hk, rfl⟩ := List.getElem_of_mem hx
    rw [List.length_take, List.length_drop] at hk
    rw [List.getElem_take, List.getElem_drop]
    have := hn (from_ + k) (by omega) (by omega)
    rwa [List.getD, List.getElem?_eq_getElem (by omega)] at this
  rw [← h]
  conv => rhs; rw [e, pcs_hit _ _ hc]
  simp
theorem pieces_end {l : List UInt8} {out : List (List UInt8)} {from_ : Nat} (h : out ++ pcs (l.drop from_) = pcs l) (hn : ∀ j, from_ ≤ j → j < l.length → l.getD j 0 ≠ 44) :
    out ++ [(l.drop from_).take (l.length - from_)] = pcs l := by
  have hc : noComma (l.drop from_) := fun x hx => by
    obtain ⟨k, hk, rfl⟩ := List.getElem_of_mem hx
    rw [List.length_drop] at hk
    rw [List.getElem_drop]
    have := hn (from_ + k) (by omega) (by omega)
    rwa [List.getD, List.getElem?_eq_getElem (by omega)] at this
  rw [← h, pcs_last _ hc, List.take_of_length_le (by rw [List.length_drop]; omega)]
/-- how far the document has come: `fr`: where the next clause begins -/
def CI (m : Int) (l : List UInt8) (x : Int) (fr i : Nat) : Prop :=
  (∃ out, out ++ pcs (l.drop fr) = pcs l ∧ fr ≤ i ∧ fr ≤ l.length ∧ (∀ j, fr ≤ j → j < i → l.getD j 0 ≠ 44) ∧ chainP m out = some x ∧ i ≤ l.length) ∨ (i = l.length + 1 ∧ chainP m (pcs l) = some x ∧ fr = l.length + 1)
theorem CI.start (m : Int) (l : List UInt8) : CI m l m 0 0 := Or.inl ⟨[], rfl, Nat.le_refl _, Nat.zero_le _, fun j _ h => absurd h (Nat.not_lt_zero _), rfl, Nat.zero_le _⟩
theorem CI.fr_le {m : Int} {l : List UInt8} {x : Int} {fr i : Nat} (h : CI m l x fr i) (hi : i ≤ l.length) : fr ≤ i := by
  rcases h with ⟨_, _, h, _⟩ | ⟨h, _⟩
  · exact h
  · omega
theorem CI.skip {m : Int} {l : List UInt8} {x : Int} {fr i : Nat} (h : CI m l x fr i) (hi : i < l.length) (hb : l.getD i 0 ≠ 44) : CI m l x fr (i + 1) := by
  rcases h with ⟨out, h1, h2, h3, h4, h5, h6⟩ | ⟨h, _⟩
  · refine Or.inl ⟨out, h1, by omega, h3, fun j hj1 hj2 => ?_, h5, by omega⟩
    rcases Nat.lt_or_ge j i with h | h
    · exact h4 j hj1 h
    · obtain rfl : j = i := by omega
      exact hb
  · omega
theorem chain_one (m x : Int) (out : List (List UInt8)) (p : List UInt8) (h : chainP m out = some x) : chainP m (out ++ [p]) = oneP x p := by
  rw [chainP_append, h]
  show chainP x [p] = _
  rw [chainP]
  cases oneP x p <;> rfl
/-- at a comma or at the end -/
theorem CI.hit {m : Int} {l : List UInt8} {x : Int} {fr i : Nat} (h : CI m l x fr i) (hi : i ≤ l.length) (hb : i < l.length → l.getD i 0 = 44) :
    (∀ y, oneP x ((l.drop fr).take (i - fr)) = some y → CI m l y (i + 1) (i + 1)) ∧ (oneP x ((l.drop fr).take (i - fr)) = none → chainP m (pcs l) = none) := by
  rcases h with ⟨out, h1, h2, h3, h4, h5, h6⟩ | ⟨h, _⟩
  · have hc := chain_one m x out ((l.drop fr).take (i - fr)) h5
    rcases Nat.lt_or_ge i l.length with hlt | hge
    · have hp := pieces_at h1 h2 hlt h4 (hb hlt)
      refine ⟨fun y hy => Or.inl ⟨_, hp, Nat.le_refl _, by omega, fun j hj1 hj2 => by omega, by rw [hc, hy], by omega⟩, fun hn => ?_⟩
      rw [← hp, chainP_append, hc, hn]; rfl
    · obtain rfl : i = l.length := by omega
      have hp := pieces_end h1 (fun j hj1 hj2 => h4 j hj1 hj2)
      refine ⟨fun y hy => Or.inr ⟨rfl, by rw [← hp, hc, hy], rfl⟩, fun hn => by rw [← hp, hc, hn]⟩
  · omega
theorem CI.done {m : Int} {l : List UInt8} {x : Int} {fr i : Nat} (h : CI m l x fr i) (hi : l.length < i) : chainP m (pcs l) = some x := by
  rcases h with ⟨_, _, _, _, _, _, h⟩ | ⟨_, h, _⟩
  · omega
  · exact h
theorem wR_range (u g o : Bool) : 0 ≤ wR u g o ∧ wR u g o ≤ 7 := by cases u <;> cases g <;> cases o <;> decide
/-- what a clause does, by the document's numbers -/
theorem one_of_clause {x : Int} {p pre post : List UInt8} {op : UInt8} (h : clauseP p = some (pre, op, post)) :
    oneP x p = some (if op = 45 then bclr x (bitsR (whoRV pre) post) else if op = 61 then bor (bclr x (bitsR (whoRV pre) [114, 119, 120, 115])) (bitsR (whoRV pre) post) else bor x (bitsR (whoRV pre) post)) ∧
      (0 ≤ whoRV pre ∧ whoRV pre ≤ 7) ∧ (∀ c ∈ post, isLet c = true) ∧ (op = 45 ∨ op = 61 ∨ op = 43) := by
  obtain ⟨h0, h1, h2, h3⟩ := clause_say h
  refine ⟨?_, by rw [whoRV_say h1]; exact wR_range _ _ _, h3, ?_⟩
  · rw [← oneR_eq]
    unfold oneR
    rw [h]
  · unfold opB at h2
    simp only [Bool.or_eq_true, beq_iff_eq] at h2
    rcases h2 with (h | h) | h
    · exact Or.inr (Or.inr h)
    · exact Or.inl h
    · exact Or.inr (Or.inl h)
theorem one_none {x : Int} {p : List UInt8} (h : clauseP p = none) : oneP x p = none := by unfold oneP; rw [h]
theorem clause_len {p pre post : List UInt8} {op : UInt8} (h : clauseP p = some (pre, op, post)) : post.length ≤ p.length := by
  unfold clauseP at h
  split at h
  · cases h
  rename_i op' post' e
  split at h
  · cases h
  simp only [Option.some.injEq, Prod.mk.injEq] at h
  obtain ⟨_, _, rfl⟩ := h
  have h1 := (List.dropWhile_sublist isWho (l := p)).length_le
  rw [e, List.length_cons] at h1
  omega

set_option maxHeartbeats 8000000 in
theorem refChange_calls (m : Int) (s : ByteArray) (w : World) (hm : -9223372036854775808 ≤ m ∧ m ≤ 9223372036854775807) (hs : s.size ≤ 16777216) :
    Calls Tryd.prog 7 #[.int .i64 m, .string s] w (ChangeAns (changeP m s.data.toList) w) := by
  obtain ⟨ANS, hA⟩ : ∃ a, a = changeP m s.data.toList := ⟨_, rfl⟩
  rw [← hA]
  have hlen : s.data.toList.length = s.size := Array.length_toList
  by_cases hr : R12 m
  · have AD := Lib.hid (show ∀ x, chainP m (pcs s.data.toList) = some x → ANS = (x, 0) from fun x h => by rw [hA]; unfold changeP; rw [if_pos hr, h])
    have AN := Lib.hid (show chainP m (pcs s.data.toList) = none → ANS = (0, 120) from fun h => by rw [hA]; unfold changeP; rw [if_pos hr, h])
    have HL := Lib.hid hlen
    have hr0 : ¬ (m < 0) := by have := hr.1; omega
    have hr1 : ¬ (4095 < m) := by have := hr.2; omega
    have hget := Lib.hid (show ∀ i (h : i < s.size), s.data.toList.getD i 0 = s[i]'h from fun i h => by
      have h' : i < s.data.toList.length := by omega
      simp [List.getD, List.getElem?_eq_getElem h']
      rfl)
    clear hA hlen hm
    go_enter Tryd.func7, Tryd.ntmps7
    go_wp2_with fail
    go_loopg [0, 6, 7] (s.size + 1) (fun g s0 s6 s7 wr => ∃ (x : Int) (fr i : Nat), s0 = .int .i64 x ∧ s6 = .int .i64 fr ∧ s7 = .int .i64 i ∧ i ≤ s.size + 1 ∧ s.size + 1 - i ≤ g ∧ fr ≤ s.size + 1 ∧ Hid (CI m s.data.toList x fr i) ∧ Hid (Below w.heap.size w wr))
    case atStart => exact ⟨m, 0, 0, rfl, rfl, rfl, by omega, by omega, by omega, Lib.hid (CI.start _ _), Lib.hid (Below.refl _ _)⟩
    case round =>
      obtain ⟨x, fr, i, rfl, rfl, rfl, hi, hg, hfr, C, BB⟩ := hrel
      rename World => wr
      by_cases hle : i ≤ s.size
      · have hfi : fr ≤ i := C.out.fr_le (by rw [HL.out]; exact hle)
        by_cases hsk : ∃ h : i < s.size, s[i]'h ≠ 44
        · obtain ⟨hlt, hne⟩ := hsk
          have C2 := Lib.hid (C.out.skip (by rw [HL.out]; exact hlt) (by rw [hget.out i hlt]; exact hne))
          have k1 : (((s[i]'hlt).toNat : Int) != 44) = true := by have h := byte_not (n := 44) (by omega) hne; unfold bne; exact (congrArg Bool.not h)
          clear hne C
          go_wp2
          go_roundg (s.size + 1 - (i + 1))
          case measure => omega
          case rel => exact ⟨x, fr, i + 1, rfl, rfl, by go_num, by omega, Nat.le_refl _, by omega, C2, BB⟩
        · have hcm : ∀ h : i < s.size, s[i]'h = 44 := fun h => Classical.byContradiction fun e => hsk ⟨h, e⟩
          obtain ⟨H1, H2⟩ := C.out.hit (by rw [HL.out]; exact hle) (fun h => by rw [hget.out i (by rw [← HL.out]; exact h)]; exact hcm (by rw [← HL.out]; exact h))
          have hxd : (s.extract fr i).data.toList = (s.data.toList.drop fr).take (i - fr) := extract_data s fr i
          have hxs : (s.extract fr i).size = i - fr := by rw [ByteArray.size_extract]; omega
          have CC := Lib.hid (fun wz => clause_calls (s.extract fr i) (by omega) wz)
          rw [hxd] at CC
          have hpl : ((s.data.toList.drop fr).take (i - fr)).length ≤ s.size := by rw [← hxd, show (s.extract fr i).data.toList.length = (s.extract fr i).size from Array.length_toList]; omega
          generalize (s.data.toList.drop fr).take (i - fr) = p at H1 H2 CC hpl
          have K44 := Lib.hid (show i = s.size ∨ ∃ h : i < s.size, (((s[i]'h).toNat : Int) != 44) = false from by
            rcases Nat.lt_or_ge i s.size with h | h
            · exact Or.inr ⟨h, by rw [hcm h]; rfl⟩
            · exact Or.inl (by omega))
          clear hsk hcm hxd hxs C
          go_upto_region 7 with fail
          go_cut [34] (fun s34 wx => s34 = .bool false ∧ wx = wr)
          case first =>
            rcases K44.out with h | ⟨hlt, k44⟩
            · have hz : ¬ ((i : Int) < (s.size : Int)) := by omega
              clear h
              go_wp2_with fail
              go_meet
              exact ⟨rfl, rfl⟩
            · go_wp2_with fail
              go_meet
              exact ⟨rfl, rfl⟩
          case rest =>
            obtain ⟨rfl, hwc⟩ := hcut
            subst hwc
            rename World => w4
            cases hcp : clauseP p with
            | none =>
              have HR := Lib.hid (AN.out (H2 (one_none hcp)))
              have CC2 := Lib.hid (show ∀ wz, Calls Tryd.prog 11 #[.string (s.extract fr i)] wz fun e w' => e = .returned (.tuple #[.int .i64 0, .int .u8 0, .string ⟨#[]⟩, .bool false]) ∧ Below wz.heap.size wz w' from fun wz => by
                have := CC.out wz
                rw [hcp] at this
                exact this)
              clear CC hcp H1 H2
              go_wp2_with fail
              refine (CC2.out _).mono ?_
              rintro e w5 ⟨rfl, hb5⟩
              have B5 := Lib.hid (Below.next BB.out hb5)
              clear hb5
              go_wp2
              go_ret2
              exact ⟨by rw [HR.out]; rfl, B5.out⟩
            | some q =>
              obtain ⟨pre, op, post⟩ := q
              have hpo := clause_len hcp
              obtain ⟨o1, o2, o3, o4⟩ := one_of_clause (x := x) hcp
              have CC2 := Lib.hid (show ∀ wz, Calls Tryd.prog 11 #[.string (s.extract fr i)] wz fun e w' => e = .returned (.tuple #[.int .i64 (whoRV pre), .int .u8 op.toNat, .string ⟨post.toArray⟩, .bool true]) ∧ Below wz.heap.size wz w' from fun wz => by
                have := CC.out wz
                rw [hcp] at this
                exact this)
              have BC := Lib.hid (show ∀ wz, Calls Tryd.prog 12 #[.int .i64 (whoRV pre), .string ⟨post.toArray⟩] wz fun e w' => e = .returned (.int .i64 (bitsR (whoRV pre) post)) ∧ w' = wz from fun wz => by
                have := bits_calls (whoRV pre) ⟨post.toArray⟩ o2 (by simpa using o3) (by show post.toArray.size ≤ _; simp; omega) wz
                simpa using this)
              have MC := Lib.hid (show ∀ wz, Calls Tryd.prog 12 #[.int .i64 (whoRV pre), .string ⟨#[114, 119, 120, 115]⟩] wz fun e w' => e = .returned (.int .i64 (bitsR (whoRV pre) [114, 119, 120, 115])) ∧ w' = wz from fun wz =>
                bits_calls (whoRV pre) ⟨#[114, 119, 120, 115]⟩ o2 (by decide) (by decide) wz)
              generalize bitsR (whoRV pre) post = B at *
              generalize bitsR (whoRV pre) [114, 119, 120, 115] = M at *
              generalize whoRV pre = WH at *
              generalize (⟨post.toArray⟩ : ByteArray) = PO at *
              clear CC hcp AN hpo o2 o3
              rcases o4 with hop | hop | hop
              · have k1 : ((op.toNat : Int) == 45) = true := by rw [hop]; rfl
                have Y := Lib.hid (H1 (bits .andNot .i64 x B) (by rw [o1, hop]; rfl))
                clear H1 H2 o1 hop
                go_wp2_with fail
                refine (CC2.out _).mono ?_
                rintro e w5 ⟨rfl, hb5⟩
                have B5 := Lib.hid (Below.next BB.out hb5)
                clear hb5
                go_wp2_with fail
                refine (BC.out _).mono ?_
                rintro e w6 ⟨rfl, rfl⟩
                go_wp2
                go_roundg (s.size + 1 - (i + 1))
                case measure => omega
                case rel => exact ⟨_, i + 1, i + 1, rfl, by go_num, by go_num, by omega, Nat.le_refl _, by omega, Y, B5⟩
              · have k1 : ((op.toNat : Int) == 45) = false := by rw [hop]; rfl
                have k2 : ((op.toNat : Int) == 61) = true := by rw [hop]; rfl
                have Y := Lib.hid (H1 (bits .or .i64 (bits .andNot .i64 x M) B) (by rw [o1, hop]; rfl))
                clear H1 H2 o1 hop
                go_wp2_with fail
                refine (CC2.out _).mono ?_
                rintro e w5 ⟨rfl, hb5⟩
                have B5 := Lib.hid (Below.next BB.out hb5)
                clear hb5
                go_wp2_with fail
                refine (BC.out _).mono ?_
                rintro e w6 ⟨rfl, rfl⟩
                go_wp2_with fail
                refine (MC.out _).mono ?_
                rintro e w7 ⟨rfl, rfl⟩
                go_wp2
                go_roundg (s.size + 1 - (i + 1))
                case measure => omega
                case rel => exact ⟨_, i + 1, i + 1, rfl, by go_num, by go_num, by omega, Nat.le_refl _, by omega, Y, B5⟩
              · have k1 : ((op.toNat : Int) == 45) = false := by rw [hop]; rfl
                have k2 : ((op.toNat : Int) == 61) = false := by rw [hop]; rfl
                have Y := Lib.hid (H1 (bits .or .i64 x B) (by rw [o1, hop]; rfl))
                clear H1 H2 o1 hop
                go_wp2_with fail
                refine (CC2.out _).mono ?_
                rintro e w5 ⟨rfl, hb5⟩
                have B5 := Lib.hid (Below.next BB.out hb5)
                clear hb5
                go_wp2_with fail
                refine (BC.out _).mono ?_
                rintro e w6 ⟨rfl, rfl⟩
                go_wp2
                go_roundg (s.size + 1 - (i + 1))
                case measure => omega
                case rel => exact ⟨_, i + 1, i + 1, rfl, by go_num, by go_num, by omega, Nat.le_refl _, by omega, Y, B5⟩
      · obtain rfl : i = s.size + 1 := by omega
        have A := Lib.hid (AD.out x (C.out.done (by rw [HL.out]; omega)))
        clear AD AN C
        go_wp2
        go_ret2
        exact ⟨by rw [A.out]; rfl, BB.out⟩
  · have HR := Lib.hid (show ANS = (0, 120) from by rw [hA]; unfold changeP; rw [if_neg hr])
    by_cases h0 : m < 0
    · clear hA hr hm
      go_enter Tryd.func7, Tryd.ntmps7
      go_wp2
      go_ret2
      exact ⟨by rw [HR.out]; rfl, Below.refl _ _⟩
    · have h1 : 4095 < m := Classical.byContradiction fun h => hr ⟨by omega, by omega⟩
      clear hA hr hm
      go_enter Tryd.func7, Tryd.ntmps7
      go_wp2
      go_ret2
      exact ⟨by rw [HR.out]; rfl, Below.refl _ _⟩
end Go.Proofs.YtbkclmpopofebaaDoor
