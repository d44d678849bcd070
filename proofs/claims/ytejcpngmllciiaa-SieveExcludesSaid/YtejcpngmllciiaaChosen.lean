/-
  The walks of the program's Chosen.
-/
import Derived.Test.YtejcpngmllciiaaRefHits
namespace Go.Proofs.Ytejcpngmllciiaa
open Go.RowKit
set_option linter.unusedVariables false

/-- the first list's first fault -/
def firstErr : List ByteArray → Int
  | [] => 0
  | p :: r => if checkErr p.data.toList = 0 then firstErr r else checkErr p.data.toList
theorem firstErr_cons (p : ByteArray) (r : List ByteArray) : firstErr (p :: r) = if checkErr p.data.toList = 0 then firstErr r else checkErr p.data.toList := rfl
theorem firstErr_append : ∀ (a b : List ByteArray), firstErr (a ++ b) = if firstErr a = 0 then firstErr b else firstErr a
  | [], b => by simp [firstErr]
  | p :: r, b => by
    have e3 := firstErr_append r b
    by_cases h : checkErr p.data.toList = 0
    · have e1 : firstErr (p :: r) = firstErr r := by rw [firstErr_cons, if_pos h]
      have e2 : firstErr ((p :: r) ++ b) = firstErr (r ++ b) := by rw [List.cons_append, firstErr_cons, if_pos h]
      rw [e1, e2, e3]
    · have e1 : firstErr (p :: r) = checkErr p.data.toList := by rw [firstErr_cons, if_neg h]
      have e2 : firstErr ((p :: r) ++ b) = checkErr p.data.toList := by rw [List.cons_append, firstErr_cons, if_neg h]
      rw [e1, e2, if_neg h]
theorem firstErr_one (p : ByteArray) : firstErr [p] = checkErr p.data.toList := by
  unfold firstErr
  by_cases h : checkErr p.data.toList = 0
  · rw [if_pos h, h]; rfl
  · rw [if_neg h]
theorem firstErr_next {xs : List ByteArray} {k : Nat} {p : ByteArray} (hp : xs[k]? = some p) (h : firstErr (xs.take k) = 0) : firstErr (xs.take (k + 1)) = checkErr p.data.toList := by
  rw [List.take_add_one, hp, firstErr_append, if_pos h]
  exact firstErr_one p
theorem firstErr_at {xs : List ByteArray} {k : Nat} {p : ByteArray} (hp : xs[k]? = some p) (h : firstErr (xs.take k) = 0) (hc : checkErr p.data.toList ≠ 0) : firstErr xs = checkErr p.data.toList := by
  have := firstErr_append (xs.take (k + 1)) (xs.drop (k + 1))
  rw [List.take_append_drop, firstErr_next hp h, if_neg hc] at this
  exact this
/-- what compile comes to, in one form -/
theorem comp_end {w : World} {p : ByteArray} {e : Ending} {w' : World} (h : CompEnd w p e w') :
    Below w.heap.size w w' ∧ ∃ v, e = .returned (.tuple #[v, .int .i64 (checkErr p.data.toList)]) ∧ (checkErr p.data.toList = 0 → ∃ ts, parse p.data.toList = some ts ∧ ts.length ≤ 4096 ∧ OwnM w' w.heap.size 54 5 encI v (toI ts)) := by
  refine ⟨h.1, ?_⟩
  have hl := len_list p
  have h2 := h.2
  unfold checkErr
  rw [hl]
  by_cases h1 : 4096 < p.size
  · rw [if_pos h1] at h2 ⊢
    exact ⟨_, h2, fun e => absurd e (by decide)⟩
  · rw [if_neg h1] at h2 ⊢
    cases hp : parse p.data.toList with
    | none => rw [hp] at h2; exact ⟨_, h2, fun e => absurd e (by decide)⟩
    | some ts =>
      rw [hp] at h2
      obtain ⟨v, rfl, ho⟩ := h2
      have := parse_len hp
      exact ⟨v, rfl, fun _ => ⟨ts, rfl, by omega, ho⟩⟩
/-- the program's hits of a pattern that compile took -/
theorem hitsP_calls (w : World) (B : Nat) (v : Value) (p t : ByteArray) (ts : List Tok) (hp : parse p.data.toList = some ts) (hn : ts.length ≤ 4096) (h : OwnM w B 54 5 encI v (toI ts)) (ht : t.size ≤ 140737488351232) :
    Calls Try.prog 26 #[v, .string t] w fun e w' => e = .returned (.bool (hitP p.data.toList t.data.toList)) ∧ Below w.heap.size w w' := by
  have hu : (toI ts).length = ts.length := by simp [toI]
  have := hits_calls w B v (toI ts) t h (by omega) ht
  have e : (fun k => colI (toI ts) (toI ts).length t.data.toList k (toI ts).length) = fun k => row ts t.data.toList ts.length k := by
    funext k; rw [hu]; exact colI_done ts t.data.toList k
  rw [e] at this
  unfold hitP
  rw [hp]
  exact this
def chosenErr (inc exc : List ByteArray) : Int := firstErr (inc ++ exc)
def chosenAns (inc exc : List ByteArray) (l : List UInt8) : Bool := if chosenErr inc exc = 0 then (inc.isEmpty || hitAny inc l) && !hitAny exc l else false

set_option maxHeartbeats 2000000 in
theorem chosen_calls (w : World) (v1 v2 : Value) (inc exc : List ByteArray) (t : ByteArray) (h1 : Rd w strE v1 inc) (h2 : Rd w strE v2 exc) (hs : ∀ p ∈ inc ++ exc, p.size ≤ 140737488351232) (ht : t.size ≤ 140737488351232) :
    Calls Try.prog 17 #[v1, v2, .string t] w fun e w' => e = .returned (.tuple #[.bool (chosenAns inc exc t.data.toList), .int .i64 (chosenErr inc exc)]) ∧ Below w.heap.size w w' := by
  obtain ⟨ao, c, rfl⟩ := h1.any
  obtain ⟨ao2, c2, rfl⟩ := h2.any
  have R1 := Lib.hid h1
  have R2 := Lib.hid h2
  have S := Lib.hid hs
  clear h1 h2 hs
  go_enter Try.func17, Try.ntmps17
  have n1 : inc.length ≤ 9223372036854775807 := R1.out.len
  have n2 : exc.length ≤ 9223372036854775807 := R2.out.len
  obtain ⟨W, hW⟩ : ∃ W : Nat → Bool, W = fun k => inc.isEmpty || (inc.take k).any fun p => hitP p.data.toList t.data.toList := ⟨_, rfl⟩
  obtain ⟨L, hL⟩ : ∃ L : Nat → Bool, L = fun k => (exc.take k).any fun p => hitP p.data.toList t.data.toList := ⟨_, rfl⟩
  have W0 : ((inc.length : Int) == 0) = W 0 := by
    rw [hW]
    cases inc with
    | nil => rfl
    | cons x r => simp; omega
  have WN : ∀ k p, inc[k]? = some p → W (k + 1) = (W k || hitP p.data.toList t.data.toList) := fun k p hp => by
    rw [hW]; simp only
    rw [List.take_add_one, hp, List.any_append]
    simp only [Option.toList, List.any_cons, List.any_nil, Bool.or_false, Bool.or_assoc]
  have LN : ∀ k p, exc[k]? = some p → L (k + 1) = (L k || hitP p.data.toList t.data.toList) := fun k p hp => by
    rw [hL]; simp only
    rw [List.take_add_one, hp, List.any_append]
    simp only [Option.toList, List.any_cons, List.any_nil, Bool.or_false]
  have AN : firstErr inc = 0 → firstErr exc = 0 → chosenAns inc exc t.data.toList = (W inc.length && !L exc.length) ∧ chosenErr inc exc = 0 := fun h1 h2 => by
    have e : chosenErr inc exc = 0 := by unfold chosenErr; rw [firstErr_append, if_pos h1]; exact h2
    refine ⟨?_, e⟩
    unfold chosenAns
    rw [if_pos e, hW, hL]
    simp only [List.take_length, hitAny]
  have AE : ∀ x : Int, chosenErr inc exc = x → x ≠ 0 → chosenAns inc exc t.data.toList = false := fun x h1 h2 => by
    unfold chosenAns; rw [if_neg (by rw [h1]; exact h2)]
  have HWN := Lib.hid WN
  have HLN := Lib.hid LN
  have HL0 := Lib.hid (show L 0 = false from by rw [hL]; rfl)
  have HAN := Lib.hid AN
  have HAE := Lib.hid AE
  clear WN LN AN AE hW hL
  have HW0 := Lib.hid W0
  clear W0
  go_wp2_with fail
  rw [HW0.out]
  generalize hn : inc.length = n at *
  generalize hm : exc.length = m at *
  have HN := Lib.hid hn
  have HM := Lib.hid hm
  clear hn hm HW0
  go_loopg [8, 11, 12, 13, 23] n (fun g s8 s11 s12 s13 s23 wr => ∃ k : Nat, k ≤ n ∧ n - k ≤ g ∧ s8 = .bool (W k) ∧ s23 = .int .i64 k ∧ firstErr (inc.take k) = 0 ∧ Below w.heap.size w wr)
  case atStart => exact ⟨0, Nat.zero_le _, by omega, rfl, rfl, rfl, Below.refl _ _⟩
  case round =>
    obtain ⟨k, hk, hg, rfl, rfl, hno, hX⟩ := hrel
    have XB := Lib.hid hX
    have NO := Lib.hid hno
    clear hX hno
    by_cases hkn : k < n
    · have hkx : k < inc.length := by rw [HN.out]; exact hkn
      obtain ⟨p, hp⟩ : ∃ p, p = inc[k] := ⟨_, rfl⟩
      have PX := Lib.hid (show inc[k]? = some p from by rw [hp, List.getElem?_eq_getElem hkx])
      have RD := Lib.hid (R1.out.below XB.out)
      obtain ⟨⟨b, o, rfl, hcl⟩⟩ : Nonempty (∃ b o, ao = some ⟨b, o, none⟩ ∧ wr.cell? ⟨b, o + k, none⟩ = some (.string p)) := by
        obtain ⟨ao', c', hv, h1, h2, h3, h4⟩ := RD.out
        cases hv
        obtain ⟨b, o, ha, hc⟩ := h4 (fun e => by rw [e] at hkx; simp at hkx)
        exact ⟨b, o, ha, by rw [hc k hkx, hp]⟩
      clear hp hkx
      have h0 : (0 : Int) ≤ (k : Int) := by omega
      have h1 : (k : Int) < (n : Int) := by omega
      have CC := Lib.hid (compile_calls wr p (S.out p (List.mem_append_left _ (List.mem_of_getElem? PX.out))))
      go_wp2_with fail
      refine CC.out.mono ?_
      intro e w2 hE
      obtain ⟨hb, v, rfl, hok⟩ := comp_end hE
      have OK := Lib.hid hok
      have X2 := Lib.hid (XB.out.trans (hb.mono XB.out.size))
      clear hb hE hok CC
      by_cases hc : checkErr p.data.toList = 0
      · obtain ⟨ts, ht1, ht2, ho⟩ := OK.out hc
        have HC := Lib.hid (hitsP_calls w2 _ v p t ts ht1 ht2 ho ht)
        have NX := Lib.hid (show firstErr (inc.take (k + 1)) = 0 from by rw [firstErr_next PX.out NO.out]; exact hc)
        have WX := Lib.hid (HWN.out k p PX.out)
        clear ht1 ht2 ho OK
        rw [hc]
        clear hc
        cases hw : W k with
        | true =>
          rw [hw, Bool.true_or] at WX
          clear hw
          go_wp2_with fail
          go_roundg (n - (k + 1))
          case measure => omega
          case rel => exact ⟨k + 1, by omega, by omega, by rw [WX.out], by go_num, NX.out, X2.out⟩
        | false =>
          rw [hw, Bool.false_or] at WX
          clear hw
          go_wp2_with fail
          refine HC.out.mono ?_
          rintro e w3 ⟨rfl, hb⟩
          have X3 := Lib.hid (X2.out.trans (hb.mono X2.out.size))
          clear hb
          go_wp2_with fail
          go_roundg (n - (k + 1))
          case measure => omega
          case rel => exact ⟨k + 1, by omega, by omega, by rw [WX.out], by go_num, NX.out, X3.out⟩
      · have t1 : (checkErr p.data.toList != 0) = true := by simpa [bne] using hc
        have CE := Lib.hid (show chosenErr inc exc = checkErr p.data.toList from by
          unfold chosenErr
          have := firstErr_at PX.out NO.out hc
          rw [firstErr_append, this, if_neg hc])
        have AE := Lib.hid (HAE.out _ CE.out hc)
        have HCN := Lib.hid hc
        clear hc OK
        go_wp2_with fail
        go_ret2
        exact ⟨by rw [AE.out, CE.out]; rfl, X2.out⟩
    · obtain rfl : k = n := by omega
      have FE1 := Lib.hid (show firstErr inc = 0 from by
        have := NO.out
        rw [← HN.out, List.take_length] at this
        exact this)
      clear NO
      go_wp2_with fail
      go_loopg [9, 15, 16, 17, 44] m (fun g s9 s15 s16 s17 s44 wr => ∃ k : Nat, k ≤ m ∧ m - k ≤ g ∧ s9 = .bool (L k) ∧ s44 = .int .i64 k ∧ firstErr (exc.take k) = 0 ∧ Below w.heap.size w wr)
      case atStart => exact ⟨0, Nat.zero_le _, by omega, by rw [HL0.out], rfl, rfl, XB.out⟩
      case round =>
        obtain ⟨j, hj, hg, rfl, rfl, hno, hX⟩ := hrel
        have XB := Lib.hid hX
        have NO := Lib.hid hno
        clear hX hno
        by_cases hjm : j < m
        · have hkx : j < exc.length := by rw [HM.out]; exact hjm
          obtain ⟨p, hp⟩ : ∃ p, p = exc[j] := ⟨_, rfl⟩
          have PX := Lib.hid (show exc[j]? = some p from by rw [hp, List.getElem?_eq_getElem hkx])
          have RD := Lib.hid (R2.out.below XB.out)
          obtain ⟨⟨b, o, rfl, hcl⟩⟩ : Nonempty (∃ b o, ao2 = some ⟨b, o, none⟩ ∧ wr.cell? ⟨b, o + j, none⟩ = some (.string p)) := by
            obtain ⟨ao', c', hv, h1, h2, h3, h4⟩ := RD.out
            cases hv
            obtain ⟨b, o, ha, hc⟩ := h4 (fun e => by rw [e] at hkx; simp at hkx)
            exact ⟨b, o, ha, by rw [hc j hkx, hp]⟩
          clear hp hkx
          have h0 : (0 : Int) ≤ (j : Int) := by omega
          have h1 : (j : Int) < (m : Int) := by omega
          have CC := Lib.hid (compile_calls wr p (S.out p (List.mem_append_right _ (List.mem_of_getElem? PX.out))))
          go_wp2_with fail
          refine CC.out.mono ?_
          intro e w2 hE
          obtain ⟨hb, v, rfl, hok⟩ := comp_end hE
          have OK := Lib.hid hok
          have X2 := Lib.hid (XB.out.trans (hb.mono XB.out.size))
          clear hb hE hok CC
          by_cases hc : checkErr p.data.toList = 0
          · obtain ⟨ts, ht1, ht2, ho⟩ := OK.out hc
            have HC := Lib.hid (hitsP_calls w2 _ v p t ts ht1 ht2 ho ht)
            have NX := Lib.hid (show firstErr (exc.take (j + 1)) = 0 from by rw [firstErr_next PX.out NO.out]; exact hc)
            have WX := Lib.hid (HLN.out j p PX.out)
            clear ht1 ht2 ho OK
            rw [hc]
            clear hc
            cases hw : L j with
            | true =>
              rw [hw, Bool.true_or] at WX
              clear hw
              go_wp2_with fail
              go_roundg (m - (j + 1))
              case measure => omega
              case rel => exact ⟨j + 1, by omega, by omega, by rw [WX.out], by go_num, NX.out, X2.out⟩
            | false =>
              rw [hw, Bool.false_or] at WX
              clear hw
              go_wp2_with fail
              refine HC.out.mono ?_
              rintro e w3 ⟨rfl, hb⟩
              have X3 := Lib.hid (X2.out.trans (hb.mono X2.out.size))
              clear hb
              go_wp2_with fail
              go_roundg (m - (j + 1))
              case measure => omega
              case rel => exact ⟨j + 1, by omega, by omega, by rw [WX.out], by go_num, NX.out, X3.out⟩
          · have t1 : (checkErr p.data.toList != 0) = true := by simpa [bne] using hc
            have CE := Lib.hid (show chosenErr inc exc = checkErr p.data.toList from by
              unfold chosenErr
              have := firstErr_at PX.out NO.out hc
              rw [firstErr_append, if_pos FE1.out]; exact this)
            have AE := Lib.hid (HAE.out _ CE.out hc)
            have HCN := Lib.hid hc
            clear hc OK
            go_wp2_with fail
            go_ret2
            exact ⟨by rw [AE.out, CE.out]; rfl, X2.out⟩
        · obtain rfl : j = m := by omega
          have FE2 := Lib.hid (show firstErr exc = 0 from by
            have := NO.out
            rw [← HM.out, List.take_length] at this
            exact this)
          have AN := Lib.hid (HAN.out FE1.out FE2.out)
          clear NO
          cases hwn : W k with
          | true =>
            rw [hwn, Bool.true_and] at AN
            go_wp2_with fail
            go_ret2
            exact ⟨by rw [AN.out.1, AN.out.2]; rfl, XB.out⟩
          | false =>
            rw [hwn, Bool.false_and] at AN
            go_wp2_with fail
            go_ret2
            exact ⟨by rw [AN.out.1, AN.out.2]; rfl, XB.out⟩
end Go.Proofs.Ytejcpngmllciiaa
