/-
  The walks of perms.whose, perms.named and perms.one: every clause that is not too long.
-/
import Derived.Test.YtbkclmpopofebaaDoorClausePlain
import Derived.WalkSpells
import Derived.WalkLawsBesides
namespace Go.Proofs.YtbkclmpopofebaaDoor
open Go.RowKit
set_option linter.unusedVariables false

theorem byte_ne {c : UInt8} {n : Nat} (hn : n < 256) (h : ¬ c = UInt8.ofNat n) : (((c.toNat : Nat) : Int) == (n : Int)) = false := by
  refine beq_eq_false_iff_ne.2 fun e => h ?_
  have : c.toNat = n := by omega
  rw [← this]; simp
theorem whose_calls (c : UInt8) (w : World) : Calls Tryd.prog 16 #[.int .u8 c.toNat] w fun e w' => e = .returned (.int .i64 (whoseI c)) ∧ w' = w := by
  by_cases h1 : c = 117
  · subst h1
    go_enter Tryd.func16, Tryd.ntmps16
    go_wp2
    go_ret
    exact ⟨rfl, rfl⟩
  by_cases h2 : c = 103
  · subst h2
    go_enter Tryd.func16, Tryd.ntmps16
    go_wp2
    go_ret
    exact ⟨rfl, rfl⟩
  by_cases h3 : c = 111
  · subst h3
    go_enter Tryd.func16, Tryd.ntmps16
    go_wp2
    go_ret
    exact ⟨rfl, rfl⟩
  have e : whoseI c = 3583 := by unfold whoseI; rw [if_neg h1, if_neg h2, if_neg h3]
  have k1 := byte_ne (n := 117) (by omega) h1
  have k2 := byte_ne (n := 103) (by omega) h2
  have k3 := byte_ne (n := 111) (by omega) h3
  rw [e]
  clear h1 h2 h3 e
  go_enter Tryd.func16, Tryd.ntmps16
  go_wp2
  go_ret
  exact ⟨rfl, rfl⟩
theorem named_calls (c : UInt8) (w : World) : Calls Tryd.prog 17 #[.int .u8 c.toNat] w fun e w' => e = .returned (.int .i64 (namedI c)) ∧ w' = w := by
  by_cases h1 : c = 114
  · subst h1
    go_enter Tryd.func17, Tryd.ntmps17
    go_wp2
    go_ret
    exact ⟨rfl, rfl⟩
  by_cases h2 : c = 119
  · subst h2
    go_enter Tryd.func17, Tryd.ntmps17
    go_wp2
    go_ret
    exact ⟨rfl, rfl⟩
  by_cases h3 : c = 120
  · subst h3
    go_enter Tryd.func17, Tryd.ntmps17
    go_wp2
    go_ret
    exact ⟨rfl, rfl⟩
  by_cases h4 : c = 115
  · subst h4
    go_enter Tryd.func17, Tryd.ntmps17
    go_wp2
    go_ret
    exact ⟨rfl, rfl⟩
  have e : namedI c = 0 := by unfold namedI; rw [if_neg h1, if_neg h2, if_neg h3, if_neg h4]
  have k1 := byte_ne (n := 114) (by omega) h1
  have k2 := byte_ne (n := 119) (by omega) h2
  have k3 := byte_ne (n := 120) (by omega) h3
  have k4 := byte_ne (n := 115) (by omega) h4
  rw [e]
  clear h1 h2 h3 h4 e
  go_enter Tryd.func17, Tryd.ntmps17
  go_wp2
  go_ret
  exact ⟨rfl, rfl⟩
open Go.Shelf in
theorem trimWho_calls (s : ByteArray) (w : World) (hs : s.size ≤ 16777216) :
    Calls Tryd.prog 15 #[.string s, .string ⟨#[117, 103, 111, 97]⟩] w fun e w' => e = .returned (.string ⟨(Lib.trimS s.data.toList [117, 103, 111, 97]).toArray⟩) ∧ Below w.heap.size w w' :=
  Any.strings_Trim_laid Tryd.lays160 (by kernel_rfl) s ⟨#[117, 103, 111, 97]⟩ w (by omega) (by decide) (ascii_of_all (by decide))
open Go.Shelf in
theorem trimLet_calls (s : ByteArray) (w : World) (hs : s.size ≤ 16777216) :
    Calls Tryd.prog 15 #[.string s, .string ⟨#[114, 119, 120, 115, 116]⟩] w fun e w' => e = .returned (.string ⟨(Lib.trimS s.data.toList [114, 119, 120, 115, 116]).toArray⟩) ∧ Below w.heap.size w w' :=
  Any.strings_Trim_laid Tryd.lays160 (by kernel_rfl) s ⟨#[114, 119, 120, 115, 116]⟩ w (by omega) (by decide) (ascii_of_all (by decide))
/-- what is left where all is of the set; where not, it is not empty -/
theorem trimmed {l cs : List UInt8} {p : UInt8 → Bool} (hp : ∀ c, cs.contains c = p c) : ∃ r : ByteArray, (⟨(Lib.trimS l cs).toArray⟩ : ByteArray) = r ∧ (l.all p = true → r = ⟨#[]⟩) ∧ (l.all p = false → r.toList.isEmpty = false) := by
  refine ⟨_, rfl, fun h => by rw [(trimS_nil hp).2 h], fun h => ?_⟩
  rw [Lib.toList_data]
  cases e : Lib.trimS l cs with
  | nil => rw [(trimS_nil hp).1 e] at h; cases h
  | cons c r => rfl
theorem extract_data (s : ByteArray) (a b : Nat) : (s.extract a b).data.toList = (s.data.toList.drop a).take (b - a) := by
  rw [ByteArray.data_extract, Array.toList_extract]

def OneAns (r : Option Int) (w : World) (e : Ending) (w' : World) : Prop :=
  e = .returned (match r with
    | some m => .tuple #[.int .i64 m, .bool true]
    | none => .tuple #[.int .i64 0, .bool false]) ∧ Below w.heap.size w w'
theorem OneAns.bad {w w' : World} {r : Option Int} (h : r = none) (hb : Below w.heap.size w w') : OneAns r w (.returned (.tuple #[.int .i64 0, .bool false])) w' := by subst h; exact ⟨rfl, hb⟩
theorem OneAns.good {w w' : World} {r : Option Int} (m : Int) (h : r = some m) (hb : Below w.heap.size w w') : OneAns r w (.returned (.tuple #[.int .i64 m, .bool true])) w' := by subst h; exact ⟨rfl, hb⟩

set_option maxHeartbeats 8000000 in
theorem one_calls (m : Int) (s : ByteArray) (w : World) (hs : s.size ≤ 16777216) :
    Calls Tryd.prog 10 #[.int .i64 m, .string s] w (OneAns (oneP m s.data.toList) w) := by
  obtain ⟨R, hR⟩ : ∃ R, R = oneP m s.data.toList := ⟨_, rfl⟩
  rw [← hR]
  have hIA := indexAny_calls s w (by omega)
  unfold ch3 at hIA
  rcases indexAny_cases s.data.toList with ⟨e, hno⟩ | ⟨a, op, b, hl, e, ho, hno⟩
  · rw [e] at hIA
    have HI := Lib.hid hIA
    have HR := Lib.hid (show R = none by rw [hR]; unfold oneP; rw [clause_noop hno])
    clear e hno hR hIA
    go_enter Tryd.func10, Tryd.ntmps10
    go_wp2_with fail
    refine HI.out.mono ?_
    rintro e w1 ⟨rfl, hb1⟩
    go_wp2
    go_ret2
    exact OneAns.bad HR.out hb1
  · rw [e] at hIA
    cases ha0 : a with
    | nil =>
      rw [ha0] at hIA hl
      have HI := Lib.hid hIA
      have HR := Lib.hid (show R = none by rw [hR]; unfold oneP; rw [hl, clause_op ho rfl]; simp)
      clear e hno hR hIA ha0
      go_enter Tryd.func10, Tryd.ntmps10
      go_wp2_with fail
      refine HI.out.mono ?_
      rintro e w1 ⟨rfl, hb1⟩
      go_wp2
      go_ret2
      exact OneAns.bad HR.out hb1
    | cons a0 a1 =>
      have hk1 : 1 ≤ a.length := by rw [ha0]; simp
      have hane : a ≠ [] := by rw [ha0]; simp
      clear ha0 a0 a1
      have hsz : s.data.toList.length = s.size := Array.length_toList
      have hlen : a.length + 1 + b.length = s.size := by rw [← hsz, hl]; simp; omega
      obtain ⟨k, hk⟩ : ∃ k, k = a.length := ⟨_, rfl⟩
      rw [← hk] at hIA hk1 hlen
      have hX1 : (s.extract 0 k).data.toList = a := by rw [extract_data, hl, hk]; simp
      have hX2 : (s.extract (k + 1) s.size).data.toList = b := by
        rw [extract_data, hl, show a ++ op :: b = (a ++ [op]) ++ b by simp, List.drop_append_of_le_length (by simp; omega)]
        rw [show List.drop (k + 1) (a ++ [op]) = [] from List.drop_eq_nil_of_le (by simp; omega), List.nil_append, List.take_of_length_le (by omega)]
      have hX3 : (s.extract k s.size).data.toList = op :: b := by
        rw [extract_data, hl, List.drop_append_of_le_length (by omega), show List.drop k a = [] from List.drop_eq_nil_of_le (by omega), List.nil_append, List.take_of_length_le (by simp; omega)]
      have hx1 : (s.extract 0 k).size = k := by rw [ByteArray.size_extract]; omega
      have hx2 : (s.extract (k + 1) s.size).size = b.length := by rw [ByteArray.size_extract]; omega
      obtain ⟨ra, hra, hra1, hra2⟩ := trimmed (l := a) who_set
      obtain ⟨rb, hrb, hrb1, hrb2⟩ := trimmed (l := b) let_set
      have T1 := Lib.hid (fun wz => trimWho_calls (s.extract 0 k) wz (by omega))
      have T2 := Lib.hid (fun wz => trimLet_calls (s.extract (k + 1) s.size) wz (by omega))
      rw [hX1, hra] at T1
      rw [hX2, hrb] at T2
      have HI := Lib.hid hIA
      have i1 : ¬ ((k : Int) < 1) := by omega
      have i2 : (k : Int) ≤ (s.size : Int) := by omega
      have i3 : (k : Int) + 1 ≤ (s.size : Int) := by omega
      have i4 : (k : Int) < (s.size : Int) := by omega
      cases haw : a.all isWho with
      | false =>
        have HR := Lib.hid (show R = none by rw [hR]; unfold oneP; rw [hl, clause_bad hno haw])
        have q1 := hra2 haw
        clear e hno hR hIA hl hk hane hX1 hX2 hX3 hx1 hx2 hra hra1 hra2 hrb hrb1 hrb2 haw hlen hsz T2 ho
        go_enter Tryd.func10, Tryd.ntmps10
        go_wp2_with fail
        refine HI.out.mono ?_
        rintro e w1 ⟨rfl, hb1⟩
        have B1 := Lib.hid hb1
        clear hb1
        go_wp2_with fail
        refine (T1.out _).mono ?_
        rintro e w2 ⟨rfl, hb2⟩
        have B2 := Lib.hid (Below.next B1.out hb2)
        clear hb2
        go_wp2
        go_ret2
        exact OneAns.bad HR.out B2.out
      | true =>
        have q1 := hra1 haw
        cases hbl : b.all isLet with
        | false =>
          have HR := Lib.hid (show R = none by rw [hR]; unfold oneP; rw [hl, clause_op ho haw, if_pos (Or.inr hbl)])
          have q2 := hrb2 hbl
          subst q1
          clear e hno hR hIA hl hk hane hX1 hX2 hX3 hx1 hx2 hra hra1 hra2 hrb hrb1 hrb2 haw hlen hsz ho hbl
          go_enter Tryd.func10, Tryd.ntmps10
          go_wp2_with fail
          refine HI.out.mono ?_
          rintro e w1 ⟨rfl, hb1⟩
          have B1 := Lib.hid hb1
          clear hb1
          go_wp2_with fail
          refine (T1.out _).mono ?_
          rintro e w2 ⟨rfl, hb2⟩
          have B2 := Lib.hid (Below.next B1.out hb2)
          clear hb2
          go_wp2_with fail
          refine (T2.out _).mono ?_
          rintro e w3 ⟨rfl, hb3⟩
          have B3 := Lib.hid (Below.next B2.out hb3)
          clear hb3
          go_wp2
          go_ret2
          exact OneAns.bad HR.out B3.out
        | true =>
          have q2 := hrb1 hbl
          subst q1
          subst q2
          have hget : ∀ i (h : i < s.size), s[i]'h = s.data.toList.getD i 0 := fun i h => by
            have h' : i < s.data.toList.length := by omega
            simp [List.getD, List.getElem?_eq_getElem h']
            rfl
          obtain ⟨W, W0, WS, WK⟩ : ∃ W : Nat → Int, W 0 = 0 ∧ (∀ i (h : i < s.size), i < k → bits .or .i64 (W i) (whoseI (s[i]'h)) = W (i + 1)) ∧ W k = whoV a := by
            refine ⟨fun i => whoV (a.take i), rfl, fun i h hi => ?_, by show whoV (a.take k) = _; rw [List.take_of_length_le (by omega)]⟩
            have e1 : s[i]'h = a[i]'(by omega) := by
              rw [hget i h, hl]
              simp [List.getD, List.getElem?_append_left (show i < a.length by omega), List.getElem?_eq_getElem (show i < a.length by omega)]
            rw [e1]
            show _ = whoV (a.take (i + 1))
            rw [List.take_add_one, List.getElem?_eq_getElem (show i < a.length by omega)]
            unfold whoV bor
            rw [Option.toList_some, List.foldl_append]; rfl
          obtain ⟨L, L0, LS, LK⟩ : ∃ L : Nat → Int, L (k + 1) = 0 ∧ (∀ i (h : i < s.size), k + 1 ≤ i → bits .or .i64 (L i) (namedI (s[i]'h)) = L (i + 1)) ∧ L s.size = letV b := by
            refine ⟨fun i => letV (b.take (i - (k + 1))), by show letV (b.take (k + 1 - (k + 1))) = 0; rw [Nat.sub_self]; rfl, fun i h hi => ?_, by show letV (b.take _) = _; rw [List.take_of_length_le (by omega)]⟩
            obtain ⟨j, rfl⟩ : ∃ j, i = k + 1 + j := ⟨i - (k + 1), by omega⟩
            have hj : j < b.length := by omega
            have e1 : s[k + 1 + j]'h = b[j]'hj := by
              rw [hget _ h, hl, show a ++ op :: b = (a ++ [op]) ++ b by simp]
              simp only [List.getD]
              rw [List.getElem?_append_right (by simp; omega), show k + 1 + j - (a ++ [op]).length = j by simp; omega, List.getElem?_eq_getElem hj]
              rfl
            rw [e1]
            show bits .or .i64 (letV (b.take (k + 1 + j - (k + 1)))) _ = letV (b.take (k + 1 + j + 1 - (k + 1)))
            rw [show k + 1 + j + 1 - (k + 1) = j + 1 by omega, show k + 1 + j - (k + 1) = j by omega, List.take_add_one, List.getElem?_eq_getElem hj]
            unfold letV bor
            rw [Option.toList_some, List.foldl_append]; rfl
          have hkk : k < s.size := by omega
          have hop : s[k]'hkk = op := by
            rw [hget k hkk, hl]
            simp [List.getD, hk]
          have HR0 : R = some (if op = 45 then bclr m (bitsV a b) else if op = 61 then bor (bclr m (whoV a)) (bitsV a b) else bor m (bitsV a b)) := by
            rw [hR]; unfold oneP; rw [hl, clause_op ho haw, if_neg (by rintro (h | h); exact hane h; rw [hbl] at h; cases h)]
          have hbv : bitsV a b = if hasC 116 b then bits .or .i64 (bits .and .i64 (L s.size) (W k)) 512 else bits .and .i64 (L s.size) (W k) := by rw [LK, WK]; rfl
          rw [← WK] at HR0
          have HBV := Lib.hid hbv
          have HT := Lib.hid (fun wz => indexByte_calls (s.extract k s.size) 116 wz)
          rw [hX3] at HT
          have ht := index_t ho b
          have hop3 : op = 45 ∨ op = 61 ∨ op = 43 := by
            unfold opB at ho
            simp only [Bool.or_eq_true, beq_iff_eq] at ho
            rcases ho with (h | h) | h
            · exact Or.inr (Or.inr h)
            · exact Or.inl h
            · exact Or.inr (Or.inl h)
          have HR1 := Lib.hid HR0
          have HTT := Lib.hid ht
          have HOP := Lib.hid hop3
          have HK := Lib.hid hop
          have WS' := Lib.hid WS
          have LS' := Lib.hid LS
          have W0' := Lib.hid W0
          have L0' := Lib.hid L0
          obtain ⟨n, hn⟩ : ∃ n, n = s.size := ⟨_, rfl⟩
          clear e hno hR hIA hl hk hane hX1 hX2 hX3 hx1 hx2 hra hra1 hra2 hrb hrb1 hrb2 haw hlen hsz ho hbl hget WS LS W0 L0 WK LK hbv HR0 ht hop3 hop
          have hks : k + 1 ≤ s.size := by omega
          go_enter Tryd.func10, Tryd.ntmps10
          go_wp2_with fail
          refine HI.out.mono ?_
          rintro e w1 ⟨rfl, hb1⟩
          have B1 := Lib.hid hb1
          clear hb1
          go_wp2_with fail
          refine (T1.out _).mono ?_
          rintro e w2 ⟨rfl, hb2⟩
          have B2 := Lib.hid (Below.next B1.out hb2)
          clear hb2
          go_wp2_with fail
          refine (T2.out _).mono ?_
          rintro e w3 ⟨rfl, hb3⟩
          have B3 := Lib.hid (Below.next B2.out hb3)
          clear hb3
          go_wp2_with fail
          go_loopg [7, 31] k (fun g s7 s31 wr => ∃ i : Nat, s7 = .int .i64 (W i) ∧ s31 = .int .i64 i ∧ i ≤ k ∧ k - i ≤ g ∧ wr = w3)
          case atStart => exact ⟨0, by rw [W0'.out], rfl, Nat.zero_le _, by omega, rfl⟩
          case round =>
            obtain ⟨i, rfl, rfl, hi, hg, rfl⟩ := hrel
            obtain ⟨w5, hw5⟩ : ∃ w5, w5 = wr := ⟨_, rfl⟩
            subst hw5
            by_cases hlt : i < k
            · have his : i < s.size := by omega
              have hws := WS'.out i his hlt
              have HC := Lib.hid (fun wz => whose_calls (s[i]'his) wz)
              have HWS := Lib.hid hws
              clear hws
              go_wp2_with fail
              refine (HC.out _).mono ?_
              rintro e w4 ⟨rfl, rfl⟩
              go_wp2
              go_roundg (k - (i + 1))
              case measure => omega
              case rel => exact ⟨i + 1, by rw [← HWS.out], by go_num, by omega, Nat.le_refl _, rfl⟩
            · obtain rfl : i = k := by omega
              clear W0' hi hg hlt WS'
              go_wp2_with fail
              go_loopg [8, 10] s.size (fun g s8 s10 wr => ∃ j : Nat, s8 = .int .i64 (L j) ∧ s10 = .int .i64 j ∧ i + 1 ≤ j ∧ j ≤ s.size ∧ s.size - j ≤ g ∧ wr = w5)
              case atStart => exact ⟨i + 1, by rw [L0'.out], by go_num, Nat.le_refl _, hks, by omega, rfl⟩
              case round =>
                obtain ⟨j, rfl, rfl, hij, hj, hg, rfl⟩ := hrel
                by_cases hlt : j < s.size
                · have hws := LS'.out j hlt hij
                  have HC := Lib.hid (fun wz => named_calls (s[j]'hlt) wz)
                  have HWS := Lib.hid hws
                  clear hws
                  go_wp2_with fail
                  refine (HC.out _).mono ?_
                  rintro e w4 ⟨rfl, rfl⟩
                  go_wp2
                  go_roundg (s.size - (j + 1))
                  case measure => omega
                  case rel => exact ⟨j + 1, by rw [← HWS.out], by go_num, by omega, by omega, Nat.le_refl _, rfl⟩
                · obtain rfl : j = s.size := by omega
                  clear L0' LS' hij hj hg hlt
                  rw [show ((116 : Int).toNat).toUInt8 = 116 from rfl] at HT
                  have hq := HTT.out
                  clear HTT
                  generalize Lib.indexByte (op :: b) 116 = q at HT hq
                  obtain ⟨V, HV⟩ : ∃ V, V = if hasC 116 b then bits .or .i64 (bits .and .i64 (L s.size) (W i)) 512 else bits .and .i64 (L s.size) (W i) := ⟨_, rfl⟩
                  rw [HBV.out, ← HV] at HR1
                  rcases HOP.out with rfl | rfl | rfl
                  · have k1 : (((s[i]'hkk).toNat : Int) == 45) = true := by rw [HK.out]; rfl
                    have k2 : (((s[i]'hkk).toNat : Int) == 61) = false := by rw [HK.out]; rfl
                    have E := Lib.hid (show R = some (bclr m V) from HR1.out)
                    clear HR1 HK HOP
                    cases hcc : hasC 116 b with
                    | true =>
                      rw [hcc] at hq HV
                      have hqq : 0 < q := of_decide_eq_true hq
                      have HV' := Lib.hid (show V = bits .or .i64 (bits .and .i64 (L s.size) (W i)) 512 from HV)
                      rw [HV'.out] at E
                      try unfold bclr at E
                      try unfold bor at E
                      clear hq HV HV' hcc
                      go_wp2_with fail
                      refine (HT.out _).mono ?_
                      rintro e w6 ⟨rfl, rfl⟩
                      go_wp2
                      go_ret2
                      exact OneAns.good _ E.out B3.out
                    | false =>
                      rw [hcc] at hq HV
                      have hqq : ¬ 0 < q := of_decide_eq_false hq
                      have HV' := Lib.hid (show V = bits .and .i64 (L s.size) (W i) from HV)
                      rw [HV'.out] at E
                      try unfold bclr at E
                      try unfold bor at E
                      clear hq HV HV' hcc
                      go_wp2_with fail
                      refine (HT.out _).mono ?_
                      rintro e w6 ⟨rfl, rfl⟩
                      go_wp2
                      go_ret2
                      exact OneAns.good _ E.out B3.out
                  · have k1 : (((s[i]'hkk).toNat : Int) == 45) = false := by rw [HK.out]; rfl
                    have k2 : (((s[i]'hkk).toNat : Int) == 61) = true := by rw [HK.out]; rfl
                    have E := Lib.hid (show R = some (bor (bclr m (W i)) V) from HR1.out)
                    clear HR1 HK HOP
                    cases hcc : hasC 116 b with
                    | true =>
                      rw [hcc] at hq HV
                      have hqq : 0 < q := of_decide_eq_true hq
                      have HV' := Lib.hid (show V = bits .or .i64 (bits .and .i64 (L s.size) (W i)) 512 from HV)
                      rw [HV'.out] at E
                      try unfold bclr at E
                      try unfold bor at E
                      clear hq HV HV' hcc
                      go_wp2_with fail
                      refine (HT.out _).mono ?_
                      rintro e w6 ⟨rfl, rfl⟩
                      go_wp2
                      go_ret2
                      exact OneAns.good _ E.out B3.out
                    | false =>
                      rw [hcc] at hq HV
                      have hqq : ¬ 0 < q := of_decide_eq_false hq
                      have HV' := Lib.hid (show V = bits .and .i64 (L s.size) (W i) from HV)
                      rw [HV'.out] at E
                      try unfold bclr at E
                      try unfold bor at E
                      clear hq HV HV' hcc
                      go_wp2_with fail
                      refine (HT.out _).mono ?_
                      rintro e w6 ⟨rfl, rfl⟩
                      go_wp2
                      go_ret2
                      exact OneAns.good _ E.out B3.out
                  · have k1 : (((s[i]'hkk).toNat : Int) == 45) = false := by rw [HK.out]; rfl
                    have k2 : (((s[i]'hkk).toNat : Int) == 61) = false := by rw [HK.out]; rfl
                    have E := Lib.hid (show R = some (bor m V) from HR1.out)
                    clear HR1 HK HOP
                    cases hcc : hasC 116 b with
                    | true =>
                      rw [hcc] at hq HV
                      have hqq : 0 < q := of_decide_eq_true hq
                      have HV' := Lib.hid (show V = bits .or .i64 (bits .and .i64 (L s.size) (W i)) 512 from HV)
                      rw [HV'.out] at E
                      try unfold bclr at E
                      try unfold bor at E
                      clear hq HV HV' hcc
                      go_wp2_with fail
                      refine (HT.out _).mono ?_
                      rintro e w6 ⟨rfl, rfl⟩
                      go_wp2
                      go_ret2
                      exact OneAns.good _ E.out B3.out
                    | false =>
                      rw [hcc] at hq HV
                      have hqq : ¬ 0 < q := of_decide_eq_false hq
                      have HV' := Lib.hid (show V = bits .and .i64 (L s.size) (W i) from HV)
                      rw [HV'.out] at E
                      try unfold bclr at E
                      try unfold bor at E
                      clear hq HV HV' hcc
                      go_wp2_with fail
                      refine (HT.out _).mono ?_
                      rintro e w6 ⟨rfl, rfl⟩
                      go_wp2
                      go_ret2
                      exact OneAns.good _ E.out B3.out
end Go.Proofs.YtbkclmpopofebaaDoor
