/-
  SieveExcludes: for all lists of patterns, every text and every pattern, SieveExcludes returns true. No condition.
-/
import Derived.Test.YtejcpngmllciiaaRefChosen
import Derived.Test.YtejcpngmllciiaaMatchKit
import Derived.Test.YtejcpngmllciiaaOpenTexts
namespace Go.Proofs.Ytejcpngmllciiaa
open Go.ChangeShapes Go.WideShapes Go.ChangeAt Go.RowKit
open Go.ChangeMaps (open_string shut_string)
set_option linter.unusedVariables false

/-! plain -/
theorem hitAny_more (xs : List ByteArray) (p : ByteArray) (l : List UInt8) : hitAny (xs ++ [p]) l = (hitAny xs l || hitP p.data.toList l) := by
  unfold hitAny
  rw [List.any_append]
  simp only [List.any_cons, List.any_nil, Bool.or_false]
theorem err_split {a b : List ByteArray} (h : firstErr (a ++ b) = 0) : firstErr a = 0 ∧ firstErr b = 0 := by
  rw [firstErr_append] at h
  by_cases h1 : firstErr a = 0
  · rw [if_pos h1] at h; exact ⟨h1, h⟩
  · rw [if_neg h1] at h; exact absurd h h1
theorem err_join {a b : List ByteArray} (h : firstErr a = 0) (k : firstErr b = 0) : firstErr (a ++ b) = 0 := by
  rw [firstErr_append, if_pos h]; exact k
theorem err_more {a : List ByteArray} {p : ByteArray} (h : firstErr a = 0) (k : checkErr p.data.toList = 0) : firstErr (a ++ [p]) = 0 := err_join h (by rw [firstErr_one]; exact k)
theorem bt_left (l m : List UInt8) {i : Nat} (h : i < l.length) : bt (l ++ m) i = bt l i := by
  unfold bt
  simp [List.getD, List.getElem?_append_left h]
theorem hitP_below (p l : List UInt8) (h : hitP p l = true) : hitP p (l ++ [47, 120]) = true := by
  unfold hitP at h ⊢
  cases hp : parse p with
  | none => rw [hp] at h; exact h
  | some ts =>
    rw [hp] at h
    simp only at h ⊢
    unfold hitB at h ⊢
    have hr : ∀ i j, j ≤ l.length → row ts (l ++ [47, 120]) i j = row ts l i j := fun i j hj => row_take i j fun k hk => bt_left _ _ (by omega)
    have h2 : ∃ j, j ≤ l.length ∧ bt (l ++ [47, 120]) j = 47 ∧ row ts l ts.length j = true := by
      rcases Bool.or_eq_true_iff.1 h with h | h
      · obtain ⟨j, h1, h2, h3⟩ := (hitTo_iff _ _ _).1 h
        exact ⟨j, by omega, by rw [bt_left _ _ h1]; exact h2, h3⟩
      · refine ⟨l.length, Nat.le_refl _, ?_, h⟩
        unfold bt
        simp [List.getD]
    obtain ⟨j, h1, h2, h3⟩ := h2
    rw [(hitTo_iff _ _ _).2 ⟨j, by simp; omega, h2, by rw [hr _ _ h1]; exact h3⟩, Bool.true_or]
theorem hitAny_below (xs : List ByteArray) (l : List UInt8) (h : hitAny xs l = true) : hitAny xs (l ++ [47, 120]) = true := by
  unfold hitAny at h ⊢
  obtain ⟨p, h1, h2⟩ := List.any_eq_true.1 h
  exact List.any_eq_true.2 ⟨p, h1, hitP_below _ _ h2⟩
theorem chosen_more {inc exc : List ByteArray} {p : ByteArray} {l : List UInt8} (h : chosenErr inc exc = 0) (k : checkErr p.data.toList = 0) :
    chosenErr inc (exc ++ [p]) = 0 ∧ (chosenAns inc (exc ++ [p]) l = true → chosenAns inc exc l = true) := by
  unfold chosenErr at h
  have h1 : chosenErr inc (exc ++ [p]) = 0 := err_join (err_split h).1 (err_more (err_split h).2 k)
  refine ⟨h1, ?_⟩
  unfold chosenAns
  rw [if_pos h1, if_pos (show chosenErr inc exc = 0 from h), hitAny_more]
  cases hitAny exc l <;> cases hitP p.data.toList l <;> simp
theorem chosen_in {inc exc : List ByteArray} {p : ByteArray} {l : List UInt8} (h : chosenErr inc exc = 0) (k : checkErr p.data.toList = 0) :
    chosenErr (inc ++ [p]) exc = 0 ∧ (inc ≠ [] → chosenAns inc exc l = true → chosenAns (inc ++ [p]) exc l = true) := by
  unfold chosenErr at h
  have h1 : chosenErr (inc ++ [p]) exc = 0 := err_join (err_more (err_split h).1 k) (err_split h).2
  refine ⟨h1, fun hne => ?_⟩
  unfold chosenAns
  rw [if_pos h1, if_pos (show chosenErr inc exc = 0 from h), hitAny_more]
  have e1 : inc.isEmpty = false := by cases inc <;> simp_all
  rw [e1]
  cases hitAny inc l <;> simp
theorem chosen_below {out : List ByteArray} {l : List UInt8} (h : firstErr out = 0) :
    chosenErr [] out = 0 ∧ (chosenAns [] out (l ++ [47, 120]) = true → chosenAns [] out l = true) := by
  have h1 : chosenErr [] out = 0 := h
  refine ⟨h1, ?_⟩
  unfold chosenAns
  rw [if_pos h1, if_pos h1]
  simp only [List.isEmpty_nil, Bool.true_or, Bool.true_and]
  cases hh : hitAny out l with
  | false => simp
  | true => rw [hitAny_below _ _ hh]; simp

set_option maxRecDepth 100000 in
set_option maxHeartbeats 5000000 in
theorem sieveExcludes_calls (v1 : Value) (inc : List ByteArray) (v2 : Value) (exc : List ByteArray) (t p : ByteArray) (w : World)
    (h1 : Rd w strE v1 inc) (z1 : inc.length * 16 ≤ 140737488351232) (y1 : ∀ p ∈ inc, p.size ≤ 140737488351232)
    (h2 : Rd w strE v2 exc) (z2 : exc.length * 16 ≤ 140737488351232) (y2 : ∀ p ∈ exc, p.size ≤ 140737488351232) (ht : t.size ≤ 140737488351232) (hp : p.size ≤ 140737488351232) :
    Calls Try.prog 9 #[v1, v2, .string t, .string p] w (Holds w) := by
  obtain ⟨ao, c, rfl⟩ := h1.any
  obtain ⟨ao2, c2, rfl⟩ := h2.any
  have R1 := Lib.hid h1
  have R2 := Lib.hid h2
  have Y := Lib.hid (show ∀ q ∈ inc ++ exc ++ [p], q.size ≤ 140737488351232 from fun q hq => by
    simp only [List.mem_append, List.mem_singleton] at hq
    rcases hq with (h | h) | rfl
    · exact y1 q h
    · exact y2 q h
    · exact hp)
  clear h1 h2 y1 y2
  by_cases hs : t.size ≤ 200
  · have HT := Lib.hid hs
    have g2 : ¬ (200 : Int) < (t.size : Int) := by omega
    clear hs
    go_enter Try.func9, Try.ntmps9
    go_wp2_with fail
    refine (alive_calls w).mono ?_
    rintro e w1 ⟨rfl, hb⟩
    have X1 := Lib.hid hb
    clear hb
    go_wp2_with fail
    refine (check_calls w1 p hp).mono ?_
    rintro e w2 ⟨rfl, hb⟩
    have X2 := Lib.hid (Below.next X1.out hb)
    clear hb
    by_cases hck : checkErr p.data.toList = 0
    · have CK := Lib.hid hck
      rw [hck]
      clear hck
      go_wp2_with fail
      refine (copyTexts_calls _ inc w2 (R1.out.below X2.out) (by omega)).mono ?_
      rintro e w3 ⟨g1, k1, rfl, ho, hb⟩
      have X3 := Lib.hid (Below.next X2.out hb)
      have C1 := Lib.hid ho.rd
      clear hb ho
      go_wp2_with fail
      refine (copyTexts_calls _ exc w3 (R2.out.below X3.out) (by omega)).mono ?_
      rintro e w4 ⟨g2, k2, rfl, ho, hb⟩
      have X4 := Lib.hid (Below.next X3.out hb)
      have C1' := Lib.hid (C1.out.below hb)
      have C2 := Lib.hid ho.rd
      clear hb ho C1
      go_wp2_with fail
      refine (chosen_calls w4 _ _ inc exc t C1'.out C2.out (fun q hq => Y.out q (List.mem_append_left _ hq)) ht).mono ?_
      rintro e w5 ⟨rfl, hb⟩
      have X5 := Lib.hid (Below.next X4.out hb)
      clear hb C1' C2
      by_cases hce : chosenErr inc exc = 0
      · have CE := Lib.hid hce
        rw [hce]
        clear hce
        go_wp2_with fail
        refine (copyTexts_calls _ exc w5 (R2.out.below X5.out) (by omega)).mono ?_
        rintro e w6 ⟨g3, k3, rfl, ho, hb⟩
        have X6 := Lib.hid (Below.next X5.out hb)
        have OO := Lib.hid ho
        have B6 := Lib.hid hb
        clear hb ho
        go_wp2_with (at_builtin; refine wpList_push w6 rfl (.tmp 43) (.tmp 45) 31 rfl w5.heap.size 9 (.string ⟨#[]⟩) 16 strE Try.underlying31 Try.info9 rfl _ exc p exc.length rfl OO.out rfl _ rfl rfl rfl (by omega) (by unfold maxLen; omega) (by have := X5.out.size; have := B6.out.size; omega) ?_; intro g4 k4 w7 ho hb)
        have X7 := Lib.hid (Below.next X5.out (B6.out.trans hb))
        have RO := Lib.hid (show Rd w7 strE (.slice (some ⟨g4, 0, none⟩) (exc.length + 1) k4) (exc ++ [p]) from ho.rd)
        clear hb ho OO B6
        have LO := Lib.hid (show (exc ++ [p]).length = exc.length + 1 from by simp)
        have YO := Lib.hid (show ∀ q ∈ exc ++ [p], q.size ≤ 140737488351232 from fun q hq => Y.out q (by
          simp only [List.mem_append, List.mem_singleton] at hq ⊢
          rcases hq with h | h
          · exact Or.inl (Or.inr h)
          · exact Or.inr h))
        generalize ho : exc ++ [p] = out at RO LO YO
        have HO := Lib.hid ho
        clear ho
        have M1 := Lib.hid (chosen_more (l := t.data.toList) CE.out CK.out)
        have M2 := Lib.hid (chosen_below (l := t.data.toList) (out := exc ++ [p]) (err_more (err_split CE.out).2 CK.out))
        have M3 := Lib.hid (chosen_in (l := t.data.toList) CE.out CK.out)
        rw [HO.out] at M1 M2
        go_wp2_with fail
        refine (copyTexts_calls _ inc w7 (R1.out.below X7.out) (by omega)).mono ?_
        rintro e w8 ⟨g5, k5, rfl, ho, hb⟩
        have X8 := Lib.hid (Below.next X7.out hb)
        have C1 := Lib.hid ho.rd
        have RO' := Lib.hid (RO.out.below hb)
        clear hb ho RO
        go_wp2_with fail
        refine (chosen_calls w8 _ _ inc out t C1.out RO'.out (fun q hq => (List.mem_append.1 hq).elim (fun h => Y.out q (List.mem_append_left _ (List.mem_append_left _ h))) (fun h => YO.out q h)) ht).mono ?_
        rintro e w9 ⟨rfl, hb⟩
        have X9 := Lib.hid (Below.next X8.out hb)
        have RO := Lib.hid (RO'.out.below hb)
        clear hb C1 RO'
        rw [M1.out.1]
        generalize hok : chosenAns inc exc t.data.toList = ok at *
        generalize hless : chosenAns inc out t.data.toList = less at *
        clear hok hless
        have ML := Lib.hid (show less = true → ok = true from M1.out.2)
        clear M1
        cases hless : less with
        | true =>
          obtain rfl : ok = true := ML.out hless
          clear ML hless
          go_wp2_with fail
          refine (copyTexts_calls _ out w9 RO.out (by rw [LO.out]; omega)).mono ?_
          rintro e w10 ⟨g6, k6, rfl, ho, hb⟩
          have X10 := Lib.hid (Below.next X9.out hb)
          have C1 := Lib.hid ho.rd
          have RO' := Lib.hid (RO.out.below hb)
          clear hb ho RO
          go_wp2_with fail
          generalize htx : t ++ { data := #[47, 120] } = tx
          have TX := Lib.hid htx
          have TZ := Lib.hid (show tx.size ≤ 140737488351232 from by have := HT.out; rw [← htx, ByteArray.size_append]; show t.size + 2 ≤ _; omega)
          clear htx
          refine (chosen_calls w10 _ _ [] out tx (Rd.nil _ _) C1.out YO.out TZ.out).mono ?_
          rintro e w11 ⟨rfl, hb⟩
          have X11 := Lib.hid (Below.next X10.out hb)
          have RO := Lib.hid (RO'.out.below hb)
          clear hb C1 RO'
          rw [M2.out.1]
          go_wp2_with fail
          refine (copyTexts_calls _ out w11 RO.out (by rw [LO.out]; omega)).mono ?_
          rintro e w12 ⟨g7, k7, rfl, ho, hb⟩
          have X12 := Lib.hid (Below.next X11.out hb)
          have C1 := Lib.hid ho.rd
          clear hb ho RO
          go_wp2_with fail
          refine (chosen_calls w12 _ _ [] out t (Rd.nil _ _) C1.out YO.out ht).mono ?_
          rintro e w13 ⟨rfl, hb⟩
          have X13 := Lib.hid (Below.next X12.out hb)
          clear hb C1
          rw [M2.out.1]
          have MB := Lib.hid (show chosenAns [] out tx.data.toList = true → chosenAns [] out t.data.toList = true from by
            rw [← TX.out, ByteArray.data_append, Array.toList_append]
            exact M2.out.2)
          clear M2
          generalize chosenAns [] out tx.data.toList = below at *
          generalize chosenAns [] out t.data.toList = above at *
          cases above with
          | true =>
            go_wp2_with fail
            refine (copyTexts_calls _ inc w13 (R1.out.below X13.out) (by omega)).mono ?_
            rintro e w14 ⟨g8, k8, rfl, ho, hb⟩
            have X14 := Lib.hid (Below.next X13.out hb)
            have OO := Lib.hid ho
            have B14 := Lib.hid hb
            clear hb ho
            go_wp2_with (at_builtin; refine wpList_push w14 rfl (.tmp 94) (.tmp 96) 31 rfl w13.heap.size 9 (.string ⟨#[]⟩) 16 strE Try.underlying31 Try.info9 rfl _ inc p inc.length rfl OO.out rfl _ rfl rfl rfl (by omega) (by unfold maxLen; omega) (by have := X13.out.size; have := B14.out.size; omega) ?_; intro g9 k9 w15 ho hb)
            have X15 := Lib.hid (Below.next X13.out (B14.out.trans hb))
            have RI := Lib.hid (show Rd w15 strE (.slice (some ⟨g9, 0, none⟩) (inc.length + 1) k9) (inc ++ [p]) from ho.rd)
            clear hb ho OO B14
            have YI := Lib.hid (show ∀ q ∈ (inc ++ [p]) ++ exc, q.size ≤ 140737488351232 from fun q hq => Y.out q (by
              simp only [List.mem_append, List.mem_singleton] at hq ⊢
              rcases hq with (h | h) | h
              · exact Or.inl (Or.inl h)
              · exact Or.inr h
              · exact Or.inl (Or.inr h)))
            go_wp2_with fail
            refine (copyTexts_calls _ exc w15 (R2.out.below X15.out) (by omega)).mono ?_
            rintro e w16 ⟨g10, k10, rfl, ho, hb⟩
            have X16 := Lib.hid (Below.next X15.out hb)
            have C1 := Lib.hid ho.rd
            have RI' := Lib.hid (RI.out.below hb)
            clear hb ho RI
            go_wp2_with fail
            refine (chosen_calls w16 _ _ (inc ++ [p]) exc t RI'.out C1.out YI.out ht).mono ?_
            rintro e w17 ⟨rfl, hb⟩
            have X17 := Lib.hid (Below.next X16.out hb)
            clear hb C1 RI'
            rw [M3.out.1]
            by_cases hie : inc = []
            · have e1 : ((inc.length : Int) == 0) = true := by rw [hie]; rfl
              clear hie
              generalize chosenAns (inc ++ [p]) exc t.data.toList = more
              go_wp2_with fail
              go_ret
              exact ⟨rfl, X17.out⟩
            · have e1 : ((inc.length : Int) == 0) = false := by
                have : inc.length ≠ 0 := fun h => hie (List.length_eq_zero_iff.1 h)
                simp; exact hie
              have HIE := Lib.hid hie
              clear hie
              rw [M3.out.2 HIE.out (by first | rfl | trivial)]
              go_wp2_with fail
              go_ret
              exact ⟨rfl, X17.out⟩
          | false =>
            obtain rfl : below = false := by
              cases below with
              | false => rfl
              | true => exact absurd (MB.out rfl) (by decide)
            go_wp2_with fail
            refine (copyTexts_calls _ inc w13 (R1.out.below X13.out) (by omega)).mono ?_
            rintro e w14 ⟨g8, k8, rfl, ho, hb⟩
            have X14 := Lib.hid (Below.next X13.out hb)
            have OO := Lib.hid ho
            have B14 := Lib.hid hb
            clear hb ho
            go_wp2_with (at_builtin; refine wpList_push w14 rfl (.tmp 94) (.tmp 96) 31 rfl w13.heap.size 9 (.string ⟨#[]⟩) 16 strE Try.underlying31 Try.info9 rfl _ inc p inc.length rfl OO.out rfl _ rfl rfl rfl (by omega) (by unfold maxLen; omega) (by have := X13.out.size; have := B14.out.size; omega) ?_; intro g9 k9 w15 ho hb)
            have X15 := Lib.hid (Below.next X13.out (B14.out.trans hb))
            have RI := Lib.hid (show Rd w15 strE (.slice (some ⟨g9, 0, none⟩) (inc.length + 1) k9) (inc ++ [p]) from ho.rd)
            clear hb ho OO B14
            have YI := Lib.hid (show ∀ q ∈ (inc ++ [p]) ++ exc, q.size ≤ 140737488351232 from fun q hq => Y.out q (by
              simp only [List.mem_append, List.mem_singleton] at hq ⊢
              rcases hq with (h | h) | h
              · exact Or.inl (Or.inl h)
              · exact Or.inr h
              · exact Or.inl (Or.inr h)))
            go_wp2_with fail
            refine (copyTexts_calls _ exc w15 (R2.out.below X15.out) (by omega)).mono ?_
            rintro e w16 ⟨g10, k10, rfl, ho, hb⟩
            have X16 := Lib.hid (Below.next X15.out hb)
            have C1 := Lib.hid ho.rd
            have RI' := Lib.hid (RI.out.below hb)
            clear hb ho RI
            go_wp2_with fail
            refine (chosen_calls w16 _ _ (inc ++ [p]) exc t RI'.out C1.out YI.out ht).mono ?_
            rintro e w17 ⟨rfl, hb⟩
            have X17 := Lib.hid (Below.next X16.out hb)
            clear hb C1 RI'
            rw [M3.out.1]
            by_cases hie : inc = []
            · have e1 : ((inc.length : Int) == 0) = true := by rw [hie]; rfl
              clear hie
              generalize chosenAns (inc ++ [p]) exc t.data.toList = more
              go_wp2_with fail
              go_ret
              exact ⟨rfl, X17.out⟩
            · have e1 : ((inc.length : Int) == 0) = false := by
                have : inc.length ≠ 0 := fun h => hie (List.length_eq_zero_iff.1 h)
                simp; exact hie
              have HIE := Lib.hid hie
              clear hie
              rw [M3.out.2 HIE.out (by first | rfl | trivial)]
              go_wp2_with fail
              go_ret
              exact ⟨rfl, X17.out⟩
        | false =>
          clear ML hless
          go_wp2_with fail
          refine (copyTexts_calls _ out w9 RO.out (by rw [LO.out]; omega)).mono ?_
          rintro e w10 ⟨g6, k6, rfl, ho, hb⟩
          have X10 := Lib.hid (Below.next X9.out hb)
          have C1 := Lib.hid ho.rd
          have RO' := Lib.hid (RO.out.below hb)
          clear hb ho RO
          go_wp2_with fail
          generalize htx : t ++ { data := #[47, 120] } = tx
          have TX := Lib.hid htx
          have TZ := Lib.hid (show tx.size ≤ 140737488351232 from by have := HT.out; rw [← htx, ByteArray.size_append]; show t.size + 2 ≤ _; omega)
          clear htx
          refine (chosen_calls w10 _ _ [] out tx (Rd.nil _ _) C1.out YO.out TZ.out).mono ?_
          rintro e w11 ⟨rfl, hb⟩
          have X11 := Lib.hid (Below.next X10.out hb)
          have RO := Lib.hid (RO'.out.below hb)
          clear hb C1 RO'
          rw [M2.out.1]
          go_wp2_with fail
          refine (copyTexts_calls _ out w11 RO.out (by rw [LO.out]; omega)).mono ?_
          rintro e w12 ⟨g7, k7, rfl, ho, hb⟩
          have X12 := Lib.hid (Below.next X11.out hb)
          have C1 := Lib.hid ho.rd
          clear hb ho RO
          go_wp2_with fail
          refine (chosen_calls w12 _ _ [] out t (Rd.nil _ _) C1.out YO.out ht).mono ?_
          rintro e w13 ⟨rfl, hb⟩
          have X13 := Lib.hid (Below.next X12.out hb)
          clear hb C1
          rw [M2.out.1]
          have MB := Lib.hid (show chosenAns [] out tx.data.toList = true → chosenAns [] out t.data.toList = true from by
            rw [← TX.out, ByteArray.data_append, Array.toList_append]
            exact M2.out.2)
          clear M2
          generalize chosenAns [] out tx.data.toList = below at *
          generalize chosenAns [] out t.data.toList = above at *
          cases above with
          | true =>
            go_wp2_with fail
            refine (copyTexts_calls _ inc w13 (R1.out.below X13.out) (by omega)).mono ?_
            rintro e w14 ⟨g8, k8, rfl, ho, hb⟩
            have X14 := Lib.hid (Below.next X13.out hb)
            have OO := Lib.hid ho
            have B14 := Lib.hid hb
            clear hb ho
            go_wp2_with (at_builtin; refine wpList_push w14 rfl (.tmp 94) (.tmp 96) 31 rfl w13.heap.size 9 (.string ⟨#[]⟩) 16 strE Try.underlying31 Try.info9 rfl _ inc p inc.length rfl OO.out rfl _ rfl rfl rfl (by omega) (by unfold maxLen; omega) (by have := X13.out.size; have := B14.out.size; omega) ?_; intro g9 k9 w15 ho hb)
            have X15 := Lib.hid (Below.next X13.out (B14.out.trans hb))
            have RI := Lib.hid (show Rd w15 strE (.slice (some ⟨g9, 0, none⟩) (inc.length + 1) k9) (inc ++ [p]) from ho.rd)
            clear hb ho OO B14
            have YI := Lib.hid (show ∀ q ∈ (inc ++ [p]) ++ exc, q.size ≤ 140737488351232 from fun q hq => Y.out q (by
              simp only [List.mem_append, List.mem_singleton] at hq ⊢
              rcases hq with (h | h) | h
              · exact Or.inl (Or.inl h)
              · exact Or.inr h
              · exact Or.inl (Or.inr h)))
            go_wp2_with fail
            refine (copyTexts_calls _ exc w15 (R2.out.below X15.out) (by omega)).mono ?_
            rintro e w16 ⟨g10, k10, rfl, ho, hb⟩
            have X16 := Lib.hid (Below.next X15.out hb)
            have C1 := Lib.hid ho.rd
            have RI' := Lib.hid (RI.out.below hb)
            clear hb ho RI
            go_wp2_with fail
            refine (chosen_calls w16 _ _ (inc ++ [p]) exc t RI'.out C1.out YI.out ht).mono ?_
            rintro e w17 ⟨rfl, hb⟩
            have X17 := Lib.hid (Below.next X16.out hb)
            clear hb C1 RI'
            rw [M3.out.1]
            by_cases hie : inc = []
            · have e1 : ((inc.length : Int) == 0) = true := by rw [hie]; rfl
              clear hie
              generalize chosenAns (inc ++ [p]) exc t.data.toList = more
              go_wp2_with fail
              go_ret
              exact ⟨rfl, X17.out⟩
            · have e1 : ((inc.length : Int) == 0) = false := by
                have : inc.length ≠ 0 := fun h => hie (List.length_eq_zero_iff.1 h)
                simp; exact hie
              have HIE := Lib.hid hie
              clear hie
              cases ok with
              | true =>
                rw [M3.out.2 HIE.out (by first | rfl | trivial)]
                go_wp2_with fail
                go_ret
                exact ⟨rfl, X17.out⟩
              | false =>
                generalize chosenAns (inc ++ [p]) exc t.data.toList = more
                go_wp2_with fail
                go_ret
                exact ⟨rfl, X17.out⟩
          | false =>
            obtain rfl : below = false := by
              cases below with
              | false => rfl
              | true => exact absurd (MB.out rfl) (by decide)
            go_wp2_with fail
            refine (copyTexts_calls _ inc w13 (R1.out.below X13.out) (by omega)).mono ?_
            rintro e w14 ⟨g8, k8, rfl, ho, hb⟩
            have X14 := Lib.hid (Below.next X13.out hb)
            have OO := Lib.hid ho
            have B14 := Lib.hid hb
            clear hb ho
            go_wp2_with (at_builtin; refine wpList_push w14 rfl (.tmp 94) (.tmp 96) 31 rfl w13.heap.size 9 (.string ⟨#[]⟩) 16 strE Try.underlying31 Try.info9 rfl _ inc p inc.length rfl OO.out rfl _ rfl rfl rfl (by omega) (by unfold maxLen; omega) (by have := X13.out.size; have := B14.out.size; omega) ?_; intro g9 k9 w15 ho hb)
            have X15 := Lib.hid (Below.next X13.out (B14.out.trans hb))
            have RI := Lib.hid (show Rd w15 strE (.slice (some ⟨g9, 0, none⟩) (inc.length + 1) k9) (inc ++ [p]) from ho.rd)
            clear hb ho OO B14
            have YI := Lib.hid (show ∀ q ∈ (inc ++ [p]) ++ exc, q.size ≤ 140737488351232 from fun q hq => Y.out q (by
              simp only [List.mem_append, List.mem_singleton] at hq ⊢
              rcases hq with (h | h) | h
              · exact Or.inl (Or.inl h)
              · exact Or.inr h
              · exact Or.inl (Or.inr h)))
            go_wp2_with fail
            refine (copyTexts_calls _ exc w15 (R2.out.below X15.out) (by omega)).mono ?_
            rintro e w16 ⟨g10, k10, rfl, ho, hb⟩
            have X16 := Lib.hid (Below.next X15.out hb)
            have C1 := Lib.hid ho.rd
            have RI' := Lib.hid (RI.out.below hb)
            clear hb ho RI
            go_wp2_with fail
            refine (chosen_calls w16 _ _ (inc ++ [p]) exc t RI'.out C1.out YI.out ht).mono ?_
            rintro e w17 ⟨rfl, hb⟩
            have X17 := Lib.hid (Below.next X16.out hb)
            clear hb C1 RI'
            rw [M3.out.1]
            by_cases hie : inc = []
            · have e1 : ((inc.length : Int) == 0) = true := by rw [hie]; rfl
              clear hie
              generalize chosenAns (inc ++ [p]) exc t.data.toList = more
              go_wp2_with fail
              go_ret
              exact ⟨rfl, X17.out⟩
            · have e1 : ((inc.length : Int) == 0) = false := by
                have : inc.length ≠ 0 := fun h => hie (List.length_eq_zero_iff.1 h)
                simp; exact hie
              have HIE := Lib.hid hie
              clear hie
              cases ok with
              | true =>
                rw [M3.out.2 HIE.out (by first | rfl | trivial)]
                go_wp2_with fail
                go_ret
                exact ⟨rfl, X17.out⟩
              | false =>
                generalize chosenAns (inc ++ [p]) exc t.data.toList = more
                go_wp2_with fail
                go_ret
                exact ⟨rfl, X17.out⟩
      · have AN := Lib.hid (show chosenAns inc exc t.data.toList = false from by unfold chosenAns; rw [if_neg hce])
        have t1 : (chosenErr inc exc != 0) = true := by simpa [bne] using hce
        have HCE := Lib.hid hce
        clear hce
        generalize chosenErr inc exc = er at t1 ⊢
        rw [AN.out]
        go_wp2_with fail
        go_ret
        exact ⟨rfl, X5.out⟩
    · have t1 : (checkErr p.data.toList != 0) = true := by simpa [bne] using hck
      have HCK := Lib.hid hck
      clear hck
      generalize checkErr p.data.toList = er at t1 ⊢
      go_wp2_with fail
      go_ret
      exact ⟨rfl, X2.out⟩
  · have g2 : (200 : Int) < (t.size : Int) := by omega
    clear hs
    go_enter Try.func9, Try.ntmps9
    go_wp2_with fail
    refine (alive_calls w).mono ?_
    rintro e w1 ⟨rfl, hb⟩
    have X1 := Lib.hid hb
    clear hb
    go_wp2_with fail
    go_ret
    exact ⟨rfl, X1.out⟩
theorem sieveExcludes_core {H : Type} (enc : TypeId × Value → H) (W : World) (base : Nat) (args : Array Value) (ds : List (DataW H)) (before : List MemPlace)
    (hval : ∀ (j : Nat) t v, Try.f9.params[j]? = some t → args[j]? = some v → Value.okWide Try.prog W .any base t v)
    (hW : DataW.Whole enc Try.prog Try.f9.params.toList [] false W args.toList ds [] before)
    (hsz : (DataW.weightsEach Try.prog (Try.f9.params.toList ++ []) (ds ++ [])).all (· ≤ reachBytes) = true) (hsh : W.ShapedOpen Try.prog) :
    Calls Try.prog 9 args W (Holds W) := by
  obtain ⟨p, q, hA0, hV, rfl, _, _⟩ := hW
  have hA : DataW.TrodAll enc Try.prog W 0 (fun _ => true) true Try.f9.params.toList args.toList ds p := hA0
  rw [Try.params9] at hA hval hsz
  obtain ⟨v0, vs0, d0, ds0, p0, q0, hargs, rfl, rfl, h0, r0⟩ := trodAll_cons hA
  obtain ⟨v1, vs1, d1, ds1, p1, q1, rfl, rfl, rfl, h1, r1⟩ := trodAll_cons r0
  obtain ⟨v2, vs2, d2, ds2, p2, q2, rfl, rfl, rfl, h2, r2⟩ := trodAll_cons r1
  obtain ⟨v3, vs3, d3, ds3, p3, q3, rfl, rfl, rfl, h3, r3⟩ := trodAll_cons r2
  obtain ⟨rfl, rfl, rfl⟩ := trodAll_nil r3
  obtain rfl : args = #[v0, v1, v2, v3] := by cases args; simp_all
  obtain ⟨a0, rd0, td0, ws0⟩ := open_texts (hval 0 _ v0 rfl rfl) h0
  have z0 := texts_bound hsz (j := 0) rfl rfl td0
  have y0 := texts_sizes hsz (j := 0) rfl rfl td0
  obtain ⟨a1, rd1, td1, ws1⟩ := open_texts (hval 1 _ v1 rfl rfl) h1
  have z1 := texts_bound hsz (j := 1) rfl rfl td1
  have y1 := texts_sizes hsz (j := 1) rfl rfl td1
  obtain ⟨a2, rfl, rfl, rfl, w2⟩ := open_string Try.underlying9 (hval 2 _ v2 rfl rfl) h2
  obtain ⟨a3, rfl, rfl, rfl, w3⟩ := open_string Try.underlying9 (hval 3 _ v3 rfl rfl) h3
  have z2 : a2.size ≤ 140737488351232 := by
    have := sized_string hsz (j := 2) (t := 9) rfl rfl
    rw [Array.length_toList] at this; exact this
  have z3 : a3.size ≤ 140737488351232 := by
    have := sized_string hsz (j := 3) (t := 9) rfl rfl
    rw [Array.length_toList] at this; exact this
  exact sieveExcludes_calls v0 a0 v1 a1 a2 a3 W rd0 z0 y0 rd1 z1 y1 z2 z3

set_option maxRecDepth 100000 in
theorem sieveExcludes_reads (os : Os) {H : Type} (enc : TypeId × Value → H) : ∃ places, DataW.whole enc Try.prog ((World.holding Try.prog os ⟨#[], #[], []⟩).forCall (fun _ _ => 0) ⟨#[], #[.slice none 0 0, .slice none 0 0, .string .empty, .string .empty], []⟩).memory Try.f9.params.toList Rows.sieveExcludesSpec.vars false (#[.slice none 0 0, .slice none 0 0, .string .empty, .string .empty] : Array Value).toList 8 = some ([.nil, .nil, .lit (.string []), .lit (.string [])], [], places) :=
  ⟨[], by kernel_rfl⟩
set_option maxRecDepth 100000 in
theorem sieveExcludes_lifted (os : Os) (started : os.Started) (H : Type) (enc : TypeId × Value → H) (F : Stop.Interp) :
    ReturnsInHanded {} Try.checked os 9 .any ((OpenSpec.ofChange Rows.sieveExcludesSpec).preRow enc Try.prog Try.f9 Rows.sieveExcludesRow.domain false Rows.sieveExcludesRow.laid) (((OpenSpec.ofChange Rows.sieveExcludesSpec).at F).post enc Try.prog Try.f9 false true false false) := by
  obtain ⟨places, hx⟩ := sieveExcludes_reads os enc
  refine returnsInHanded_of_row (C := Try.checked) (s := OpenSpec.ofChange Rows.sieveExcludesSpec) own started (by kernel_rfl) Try.func9
    (witness_row_at (enc := enc) (C := Try.checked) false (World.holding Try.prog os ⟨#[], #[], []⟩) #[.slice none 0 0, .slice none 0 0, .string .empty, .string .empty] rfl (by kernel_rfl) (by kernel_rfl) (by kernel_rfl)
      (OpenSpec.preRow_of_cond 8 hx (by kernel_rfl) (fun k hk => by cases hk) (by kernel_rfl) (laidMetH_nil _ _))) ?_
  intro W base args ds gs before hval hW _ hcond hsz hL hsh _
  obtain rfl : gs = [] := by
    obtain ⟨p, q, hA0, hV, _⟩ := hW
    exact (trodVars_none hV).1
  obtain ⟨d0, d1, d2, d3, rfl⟩ : ∃ d0 d1 d2 d3, ds = [d0, d1, d2, d3] := by
    obtain ⟨p, q, hA0, _⟩ := hW
    have hA : DataW.TrodAll enc Try.prog W 0 (fun _ => true) true Try.f9.params.toList args.toList ds p := hA0
    rw [Try.params9] at hA
    obtain ⟨v0, vs0, d0, ds0, p0, q0, _, rfl, _, _, r0⟩ := trodAll_cons hA
    obtain ⟨v1, vs1, d1, ds1, p1, q1, _, rfl, _, _, r1⟩ := trodAll_cons r0
    obtain ⟨v2, vs2, d2, ds2, p2, q2, _, rfl, _, _, r2⟩ := trodAll_cons r1
    obtain ⟨v3, vs3, d3, ds3, p3, q3, _, rfl, _, _, r3⟩ := trodAll_cons r2
    obtain ⟨_, rfl, _⟩ := trodAll_nil r3
    exact ⟨_, _, _, _, rfl⟩
  refine (sieveExcludes_core enc W base args _ before hval hW hsz hsh).mono fun e W' ⟨he, hb⟩ => ?_
  subst he
  exact ⟨_, rfl, law_post hW rfl (fun t ht => by rw [Try.params9] at ht; simp only [List.mem_cons, List.not_mem_nil, or_false] at ht; rcases ht with rfl | rfl | rfl | rfl <;> exact ⟨by kernel_rfl, of_decide_eq_true (by kernel_rfl)⟩) rfl rfl rfl rfl hb⟩
theorem sieveExcludes_said : Rows.SieveExcludesSaid :=
  OpenClaim.holds_of_cond 9 Try.f9 rfl rfl rfl rfl rfl rfl rfl ⟨rfl, rfl, rfl, rfl, rfl⟩ rfl rfl rfl rfl rfl (by kernel_rfl) Try.func9 (by kernel_rfl)
    (of_decide_eq_true (by kernel_rfl)) (by unfold Func.isWrapper; first | (rw [if_pos (by decide +kernel)]; kernel_rfl) | (rw [if_neg (by decide +kernel)]; exact ⟨rfl, rfl⟩))
    (fun os started H enc _ F => by rw [OpenClaim.pre_eq_preRow]; exact sieveExcludes_lifted os started H enc F)
end Go.Proofs.Ytejcpngmllciiaa
