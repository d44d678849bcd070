/-
  The walk of the document's clause: every text that is not too long.
-/
import Derived.Test.YtbkclmpopofebaaDoorRefBits
import Derived.Deep.DeepCutAuto
import Derived.Deep.CutBlock
namespace Go.Proofs.YtbkclmpopofebaaDoor
open Go.RowKit
set_option linter.unusedVariables false

theorem results_tmp4 {fn : Func} {t u v x : Tmp} (h : fn.results = #[.tmp t, .tmp u, .tmp v, .tmp x]) (tmps : Array Value) (P : Program) (w : World) :
    (results fn tmps).run P w = .ok (.tuple #[tmps.getD t undef, tmps.getD u undef, tmps.getD v undef, tmps.getD x undef]) w := by
  simp [results, h]
def clauseV (r : Option (List UInt8 × UInt8 × List UInt8)) : Value := match r with
  | none => .tuple #[.int .i64 0, .int .u8 0, .string ⟨#[]⟩, .bool false]
  | some (pre, op, post) => .tuple #[.int .i64 (whoRV pre), .int .u8 op.toNat, .string ⟨post.toArray⟩, .bool true]
theorem who_steps (s : ByteArray) : ∃ W : Nat → Int, W 0 = 0 ∧ (∀ i, W i = whoRV (s.data.toList.take i)) ∧ ∀ i (h : i < s.size) (c : UInt8), s[i]'h = c → bits .or .i64 (W i) (whoR c) = W (i + 1) := by
  have hlen : s.data.toList.length = s.size := Array.length_toList
  refine ⟨fun i => whoRV (s.data.toList.take i), rfl, fun i => rfl, fun j h c e => ?_⟩
  have hj : j < s.data.toList.length := by omega
  have e1 : s.data.toList[j]'hj = s[j]'h := rfl
  show bits .or .i64 (whoRV (s.data.toList.take j)) _ = whoRV (s.data.toList.take (j + 1))
  rw [List.take_add_one, List.getElem?_eq_getElem hj, e1, e]
  unfold whoRV bor
  rw [Option.toList_some, List.foldl_append]; rfl
/-- no who at i, all are who ahead of it -/
theorem clause_end {s : ByteArray} {i : Nat} (hp : ∀ c ∈ s.data.toList.take i, isWho c = true) (hi : s.size ≤ i) : clauseP s.data.toList = none := by
  have hlen : s.data.toList.length = s.size := Array.length_toList
  rw [List.take_of_length_le (by omega)] at hp
  unfold clauseP
  rw [dropWhile_all hp]
theorem split_at (s : ByteArray) (i : Nat) (h : i < s.size) : s.data.toList = s.data.toList.take i ++ s[i]'h :: s.data.toList.drop (i + 1) := by
  have hlen : s.data.toList.length = s.size := Array.length_toList
  have hj : i < s.data.toList.length := by omega
  have e1 : s.data.toList[i]'hj = s[i]'h := rfl
  rw [← e1, List.getElem_cons_drop, List.take_append_drop]
theorem clause_here {s : ByteArray} {i : Nat} (hp : ∀ c ∈ s.data.toList.take i, isWho c = true) (hi : i < s.size) (ho : opB (s[i]'hi) = true) :
    clauseP s.data.toList = if s.data.toList.take i = [] ∨ (s.data.toList.drop (i + 1)).all isLet = false then none else some (s.data.toList.take i, s[i]'hi, s.data.toList.drop (i + 1)) := by
  conv => lhs; rw [split_at s i hi]
  exact clause_op ho (List.all_eq_true.2 hp)
theorem clause_none {s : ByteArray} {i : Nat} (hp : ∀ c ∈ s.data.toList.take i, isWho c = true) (hi : i < s.size) (hw : isWho (s[i]'hi) = false) (ho : opB (s[i]'hi) = false) : clauseP s.data.toList = none := by
  have e := split_at s i hi
  obtain ⟨h1, h2⟩ := dropWhile_op (b := s.data.toList.drop (i + 1)) hp hw
  rw [← e] at h1 h2
  unfold clauseP
  rw [h1]
  simp only
  rw [if_pos (Or.inr (Or.inl ho))]
theorem take_who {s : ByteArray} {i : Nat} (hp : ∀ c ∈ s.data.toList.take i, isWho c = true) (hi : i < s.size) (h : isWho (s[i]'hi) = true) : ∀ c ∈ s.data.toList.take (i + 1), isWho c = true := fun c hc => by
  have hlen : s.data.toList.length = s.size := Array.length_toList
  have hj : i < s.data.toList.length := by omega
  have e1 : s.data.toList[i]'hj = s[i]'hi := rfl
  rw [List.take_add_one, List.getElem?_eq_getElem hj, e1, List.mem_append] at hc
  rcases hc with hc | hc
  · exact hp c hc
  · simp at hc; rw [hc]; exact h

set_option maxHeartbeats 8000000 in
set_option maxRecDepth 100000 in
theorem clause_calls (s : ByteArray) (hs : s.size ≤ 16777216) (w : World) :
    Calls Tryd.prog 11 #[.string s] w fun e w' => e = .returned (clauseV (clauseP s.data.toList)) ∧ Below w.heap.size w w' := by
  obtain ⟨R, hR⟩ : ∃ R, R = clauseP s.data.toList := ⟨_, rfl⟩
  rw [← hR]
  obtain ⟨W, W0, WV, WS⟩ := who_steps s
  have W0' := Lib.hid W0
  have WS' := Lib.hid WS
  have HE := Lib.hid (show ∀ i, (∀ c ∈ s.data.toList.take i, isWho c = true) → s.size ≤ i → R = none from fun i hp hi => hR.trans (clause_end hp hi))
  have HN := Lib.hid (show ∀ i (hi : i < s.size), (∀ c ∈ s.data.toList.take i, isWho c = true) → isWho (s[i]'hi) = false → opB (s[i]'hi) = false → R = none from fun i hi hp hw ho => hR.trans (clause_none hp hi hw ho))
  have HO := Lib.hid (show ∀ i (hi : i < s.size), (∀ c ∈ s.data.toList.take i, isWho c = true) → opB (s[i]'hi) = true → R = if s.data.toList.take i = [] ∨ (s.data.toList.drop (i + 1)).all isLet = false then none else some (s.data.toList.take i, s[i]'hi, s.data.toList.drop (i + 1)) from fun i hi hp ho => hR.trans (clause_here hp hi ho))
  have TW := Lib.hid (fun i (hi : i < s.size) (hp : ∀ c ∈ s.data.toList.take i, isWho c = true) h => take_who hp hi h)
  have WV' := Lib.hid WV
  clear W0 WS WV hR
  go_enter Tryd.func11, Tryd.ntmps11
  go_upto_block 0 with fail
  go_cut [6, 7] (fun s6 s7 wx => ∃ i : Nat, s6 = .int .i64 (W i) ∧ s7 = .int .i64 i ∧ i ≤ s.size ∧ Hid (∀ c ∈ s.data.toList.take i, isWho c = true) ∧ Hid (∀ h : i < s.size, isWho (s[i]'h) = false) ∧ wx = w)
  case first =>
    go_wp2_with fail
    go_loopg [6, 7] s.size (fun g s6 s7 wr => ∃ i : Nat, s6 = .int .i64 (W i) ∧ s7 = .int .i64 i ∧ i ≤ s.size ∧ s.size - i ≤ g ∧ Hid (∀ c ∈ s.data.toList.take i, isWho c = true) ∧ wr = w)
    case atStart => exact ⟨0, by rw [W0'.out], rfl, Nat.zero_le _, by omega, Lib.hid (fun c hc => by simp at hc), rfl⟩
    case round =>
      obtain ⟨i, rfl, rfl, hi, hg, HP, rfl⟩ := hrel
      obtain ⟨w5, hw5⟩ : ∃ w5, w5 = wr := ⟨_, rfl⟩
      subst hw5
      by_cases hlt : i < s.size
      · cases hw : isWho (s[i]'hlt) with
        | false =>
          have n1 : ¬ s[i]'hlt = 117 := fun e => by rw [e] at hw; cases hw
          have n2 : ¬ s[i]'hlt = 103 := fun e => by rw [e] at hw; cases hw
          have n3 : ¬ s[i]'hlt = 111 := fun e => by rw [e] at hw; cases hw
          have n4 : ¬ s[i]'hlt = 97 := fun e => by rw [e] at hw; cases hw
          have k1 := byte_not (n := 117) (by omega) n1
          have k2 := byte_not (n := 103) (by omega) n2
          have k3 := byte_not (n := 111) (by omega) n3
          have k4 := byte_not (n := 97) (by omega) n4
          have FIN := Lib.hid (show ∀ h : i < s.size, isWho (s[i]'h) = false from fun _ => hw)
          clear n1 n2 n3 n4 hw
          go_wp2_with fail
          go_meet
          exact ⟨i, rfl, rfl, hi, HP, FIN, rfl⟩
        | true =>
          have T := Lib.hid (TW.out i hlt HP.out hw)
          have S := Lib.hid (WS'.out i hlt)
          rcases who_cases hw with e | e | e | e
          · have k1 : (((s[i]'hlt).toNat : Int) == 117) = true := by rw [e]; rfl
            have ST := Lib.hid (show bits .or .i64 (W i) 1 = W (i + 1) from S.out 117 e)
            clear e hw S
            go_wp2
            go_roundg (s.size - (i + 1))
            case measure => omega
            case rel => exact ⟨i + 1, by rw [← ST.out], by go_num, by omega, Nat.le_refl _, T, rfl⟩
          · have k1 : (((s[i]'hlt).toNat : Int) == 117) = false := by rw [e]; rfl
            have k2 : (((s[i]'hlt).toNat : Int) == 103) = true := by rw [e]; rfl
            have ST := Lib.hid (show bits .or .i64 (W i) 2 = W (i + 1) from S.out 103 e)
            clear e hw S
            go_wp2
            go_roundg (s.size - (i + 1))
            case measure => omega
            case rel => exact ⟨i + 1, by rw [← ST.out], by go_num, by omega, Nat.le_refl _, T, rfl⟩
          · have k1 : (((s[i]'hlt).toNat : Int) == 117) = false := by rw [e]; rfl
            have k2 : (((s[i]'hlt).toNat : Int) == 103) = false := by rw [e]; rfl
            have k3 : (((s[i]'hlt).toNat : Int) == 111) = true := by rw [e]; rfl
            have ST := Lib.hid (show bits .or .i64 (W i) 4 = W (i + 1) from S.out 111 e)
            clear e hw S
            go_wp2
            go_roundg (s.size - (i + 1))
            case measure => omega
            case rel => exact ⟨i + 1, by rw [← ST.out], by go_num, by omega, Nat.le_refl _, T, rfl⟩
          · have k1 : (((s[i]'hlt).toNat : Int) == 117) = false := by rw [e]; rfl
            have k2 : (((s[i]'hlt).toNat : Int) == 103) = false := by rw [e]; rfl
            have k3 : (((s[i]'hlt).toNat : Int) == 111) = false := by rw [e]; rfl
            have k4 : (((s[i]'hlt).toNat : Int) == 97) = true := by rw [e]; rfl
            have ST := Lib.hid (show bits .or .i64 (W i) 7 = W (i + 1) from S.out 97 e)
            clear e hw S
            go_wp2
            go_roundg (s.size - (i + 1))
            case measure => omega
            case rel => exact ⟨i + 1, by rw [← ST.out], by go_num, by omega, Nat.le_refl _, T, rfl⟩
      · obtain rfl : i = s.size := by omega
        have FIN := Lib.hid (show ∀ h : s.size < s.size, isWho (s[s.size]'h) = false from fun h => absurd h (Nat.lt_irrefl _))
        go_wp2_with fail
        go_meet
        exact ⟨s.size, rfl, rfl, hi, HP, FIN, rfl⟩
  case rest =>
    rename World => w5
    obtain ⟨i, rfl, rfl, hi, HP, HQ, hw5⟩ := hcut
    subst hw5
    by_cases hi0 : i = 0
    · have HR := Lib.hid (show R = none from by
        subst hi0
        by_cases h0 : s.size = 0
        · exact HE.out 0 HP.out (by omega)
        · have h0' : 0 < s.size := by omega
          cases ho : opB (s[0]'h0') with
          | false => exact HN.out 0 h0' HP.out (HQ.out h0') ho
          | true =>
            have := HO.out 0 h0' HP.out ho
            rw [List.take_zero, if_pos (Or.inl rfl)] at this
            exact this)
      have k0 : ((i : Int) == 0) = true := by rw [hi0]; rfl
      clear hi0
      go_wp2
      (try simp only [Exit.inBlock, Exit.then])
      refine bodyPost_ret (results_tmp4 rfl _ _ _) rfl ?_
      exact ⟨by rw [HR.out]; rfl, Below.refl _ _⟩
    · have k0 : ((i : Int) == 0) = false := beq_eq_false_iff_ne.2 (by omega)
      by_cases hlt : i < s.size
      · cases ho : opB (s[i]'hlt) with
        | false =>
          have HR := Lib.hid (HN.out i hlt HP.out (HQ.out hlt) ho)
          have n1 : ¬ s[i]'hlt = 43 := fun e => by rw [e] at ho; cases ho
          have n2 : ¬ s[i]'hlt = 45 := fun e => by rw [e] at ho; cases ho
          have n3 : ¬ s[i]'hlt = 61 := fun e => by rw [e] at ho; cases ho
          have k1 : (((s[i]'hlt).toNat : Int) != 43) = true := by have h := byte_not (n := 43) (by omega) n1; unfold bne; exact (congrArg Bool.not h)
          have k2 : (((s[i]'hlt).toNat : Int) != 45) = true := by have h := byte_not (n := 45) (by omega) n2; unfold bne; exact (congrArg Bool.not h)
          have k3 : (((s[i]'hlt).toNat : Int) != 61) = true := by have h := byte_not (n := 61) (by omega) n3; unfold bne; exact (congrArg Bool.not h)
          clear n1 n2 n3 ho hi0
          go_wp2
          (try simp only [Exit.inBlock, Exit.then])
          refine bodyPost_ret (results_tmp4 rfl _ _ _) rfl ?_
          exact ⟨by rw [HR.out]; rfl, Below.refl _ _⟩
        | true =>
          have hR := HO.out i hlt HP.out ho
          have hne : ¬ s.data.toList.take i = [] := fun e => by
            have h1 := congrArg List.length e
            rw [List.length_take, show s.data.toList.length = s.size from Array.length_toList, List.length_nil] at h1
            omega
          have BAD := Lib.hid (show ∀ j (h : j < s.size), i + 1 ≤ j → isLet (s[j]'h) = false → R = none from fun j h hj hb => by
            rw [hR, if_pos (Or.inr ?_)]
            have hlen : s.data.toList.length = s.size := Array.length_toList
            refine List.all_eq_false.2 ⟨s[j]'h, ?_, by rw [hb]; decide⟩
            have hj2 : j - (i + 1) < (s.data.toList.drop (i + 1)).length := by rw [List.length_drop]; omega
            have e2 : (s.data.toList.drop (i + 1))[j - (i + 1)]'hj2 = s[j]'h := by
              rw [List.getElem_drop]
              have e4 : i + 1 + (j - (i + 1)) = j := by omega
              simp only [e4]
              rfl
            rw [← e2]; exact List.getElem_mem hj2)
          have GOOD := Lib.hid (show (∀ j (h : j < s.size), i + 1 ≤ j → isLet (s[j]'h) = true) → clauseV R = .tuple #[.int .i64 (W i), .int .u8 (s[i]'hlt).toNat, .string (s.extract (i + 1) s.size), .bool true] from fun hall => by
            have hlen : s.data.toList.length = s.size := Array.length_toList
            have ha : (s.data.toList.drop (i + 1)).all isLet = true := by
              refine List.all_eq_true.2 fun c hc => ?_
              obtain ⟨k, hk, rfl⟩ := List.getElem_of_mem hc
              rw [List.length_drop] at hk
              rw [List.getElem_drop]
              exact hall (i + 1 + k) (by omega) (by omega)
            rw [hR, if_neg (by rintro (h | h); exact hne h; rw [ha] at h; cases h), WV'.out i]
            have e3 : (⟨(s.data.toList.drop (i + 1)).toArray⟩ : ByteArray) = s.extract (i + 1) s.size := by
              have h1 : (s.extract (i + 1) s.size).data.toList = s.data.toList.drop (i + 1) := by
                rw [ByteArray.data_extract, Array.toList_extract, List.extract, List.take_of_length_le (by rw [List.length_drop]; omega)]
              rw [← h1]
            unfold clauseV
            simp only [e3])
          have hop : s[i]'hlt = 43 ∨ s[i]'hlt = 45 ∨ s[i]'hlt = 61 := by
            unfold opB at ho
            simp only [Bool.or_eq_true, beq_iff_eq] at ho
            rcases ho with (h | h) | h
            · exact Or.inl h
            · exact Or.inr (Or.inl h)
            · exact Or.inr (Or.inr h)
          have F := Lib.hid (show (((s[i]'hlt).toNat : Int) != 43) = false ∨ (((s[i]'hlt).toNat : Int) != 43) = true ∧ (((s[i]'hlt).toNat : Int) != 45) = false ∨ (((s[i]'hlt).toNat : Int) != 43) = true ∧ (((s[i]'hlt).toNat : Int) != 45) = true ∧ (((s[i]'hlt).toNat : Int) != 61) = false from by
            rcases hop with e | e | e
            · exact Or.inl (by rw [e]; rfl)
            · exact Or.inr (Or.inl ⟨by rw [e]; rfl, by rw [e]; rfl⟩)
            · exact Or.inr (Or.inr ⟨by rw [e]; rfl, by rw [e]; rfl, by rw [e]; rfl⟩))
          clear HE HN HO TW WV' WS' W0' hR hne ho hop hi0 HP HQ
          have his : (i : Int) + 1 ≤ (s.size : Int) := by omega
          have hge : decide (s.size ≤ i) = false := decide_eq_false (by omega)
          go_upto_region 13 with fail
          go_cut [64] (fun s64 wx => s64 = .bool false ∧ wx = w5)
          case first =>
            rcases F.out with f1 | ⟨f1, f2⟩ | ⟨f1, f2, f3⟩
            · go_wp2_with fail
              go_meet
              exact ⟨rfl, rfl⟩
            · go_wp2_with fail
              go_meet
              exact ⟨rfl, rfl⟩
            · go_wp2_with fail
              go_meet
              exact ⟨rfl, rfl⟩
          case rest =>
            obtain ⟨rfl, hwc⟩ := hcut
            subst hwc
            obtain ⟨w6, hw6⟩ : ∃ w6, w6 = wc := ⟨_, rfl⟩
            subst hw6
            clear F hge
            go_wp2_with fail
            go_loopg [8] s.size (fun g s8 wr => ∃ j : Nat, s8 = .int .i64 j ∧ i + 1 ≤ j ∧ j ≤ s.size ∧ s.size - j ≤ g ∧ Hid (∀ m (h : m < s.size), i + 1 ≤ m → m < j → isLet (s[m]'h) = true) ∧ wr = w6)
            case atStart => exact ⟨i + 1, by go_num, Nat.le_refl _, by omega, by omega, Lib.hid (fun m _ h1 h2 => by omega), rfl⟩
            case round =>
              obtain ⟨j, rfl, hij, hj, hg, HA, rfl⟩ := hrel
              by_cases hlj : j < s.size
              · cases hl : isLet (s[j]'hlj) with
                | false =>
                  have HR := Lib.hid (BAD.out j hlj hij hl)
                  have n0 : ¬ s[j]'hlj = 114 := fun e => by rw [e] at hl; cases hl
                  have n1 : ¬ s[j]'hlj = 119 := fun e => by rw [e] at hl; cases hl
                  have n2 : ¬ s[j]'hlj = 120 := fun e => by rw [e] at hl; cases hl
                  have n3 : ¬ s[j]'hlj = 115 := fun e => by rw [e] at hl; cases hl
                  have n4 : ¬ s[j]'hlj = 116 := fun e => by rw [e] at hl; cases hl
                  have k0 : (((s[j]'hlj).toNat : Int) != 114) = true := by have h := byte_not (n := 114) (by omega) n0; unfold bne; exact (congrArg Bool.not h)
                  have k1 : (((s[j]'hlj).toNat : Int) != 119) = true := by have h := byte_not (n := 119) (by omega) n1; unfold bne; exact (congrArg Bool.not h)
                  have k2 : (((s[j]'hlj).toNat : Int) != 120) = true := by have h := byte_not (n := 120) (by omega) n2; unfold bne; exact (congrArg Bool.not h)
                  have k3 : (((s[j]'hlj).toNat : Int) != 115) = true := by have h := byte_not (n := 115) (by omega) n3; unfold bne; exact (congrArg Bool.not h)
                  have k4 : (((s[j]'hlj).toNat : Int) != 116) = true := by have h := byte_not (n := 116) (by omega) n4; unfold bne; exact (congrArg Bool.not h)
                  clear n0 n1 n2 n3 n4 hl BAD GOOD HA
                  go_wp2
                  (try simp only [Exit.inBlock, Exit.then])
                  refine bodyPost_ret (results_tmp4 rfl _ _ _) rfl ?_
                  exact ⟨by rw [HR.out]; rfl, Below.refl _ _⟩
                | true =>
                  have HA2 := Lib.hid (show ∀ m (h : m < s.size), i + 1 ≤ m → m < j + 1 → isLet (s[m]'h) = true from fun m h h1 h2 => by
                    rcases Nat.lt_or_ge m j with h3 | h3
                    · exact HA.out m h h1 h3
                    · obtain rfl : m = j := by omega
                      exact hl)
                  rcases let_cases hl with e | e | e | e | e
                  · have k0 : (((s[j]'hlj).toNat : Int) != 114) = false := by rw [e]; rfl
                    clear e hl HA
                    go_wp2
                    go_roundg (s.size - (j + 1))
                    case measure => omega
                    case rel => exact ⟨j + 1, by go_num, by omega, by omega, Nat.le_refl _, HA2, rfl⟩
                  · have k0 : (((s[j]'hlj).toNat : Int) != 114) = true := by rw [e]; rfl
                    have k1 : (((s[j]'hlj).toNat : Int) != 119) = false := by rw [e]; rfl
                    clear e hl HA
                    go_wp2
                    go_roundg (s.size - (j + 1))
                    case measure => omega
                    case rel => exact ⟨j + 1, by go_num, by omega, by omega, Nat.le_refl _, HA2, rfl⟩
                  · have k0 : (((s[j]'hlj).toNat : Int) != 114) = true := by rw [e]; rfl
                    have k1 : (((s[j]'hlj).toNat : Int) != 119) = true := by rw [e]; rfl
                    have k2 : (((s[j]'hlj).toNat : Int) != 120) = false := by rw [e]; rfl
                    clear e hl HA
                    go_wp2
                    go_roundg (s.size - (j + 1))
                    case measure => omega
                    case rel => exact ⟨j + 1, by go_num, by omega, by omega, Nat.le_refl _, HA2, rfl⟩
                  · have k0 : (((s[j]'hlj).toNat : Int) != 114) = true := by rw [e]; rfl
                    have k1 : (((s[j]'hlj).toNat : Int) != 119) = true := by rw [e]; rfl
                    have k2 : (((s[j]'hlj).toNat : Int) != 120) = true := by rw [e]; rfl
                    have k3 : (((s[j]'hlj).toNat : Int) != 115) = false := by rw [e]; rfl
                    clear e hl HA
                    go_wp2
                    go_roundg (s.size - (j + 1))
                    case measure => omega
                    case rel => exact ⟨j + 1, by go_num, by omega, by omega, Nat.le_refl _, HA2, rfl⟩
                  · have k0 : (((s[j]'hlj).toNat : Int) != 114) = true := by rw [e]; rfl
                    have k1 : (((s[j]'hlj).toNat : Int) != 119) = true := by rw [e]; rfl
                    have k2 : (((s[j]'hlj).toNat : Int) != 120) = true := by rw [e]; rfl
                    have k3 : (((s[j]'hlj).toNat : Int) != 115) = true := by rw [e]; rfl
                    have k4 : (((s[j]'hlj).toNat : Int) != 116) = false := by rw [e]; rfl
                    clear e hl HA
                    go_wp2
                    go_roundg (s.size - (j + 1))
                    case measure => omega
                    case rel => exact ⟨j + 1, by go_num, by omega, by omega, Nat.le_refl _, HA2, rfl⟩
              · obtain rfl : j = s.size := by omega
                have GG := Lib.hid (GOOD.out fun m h h1 => HA.out m h h1 h)
                clear GOOD BAD HA
                go_wp2_with fail
                go_region
                go_wp2
                (try simp only [Exit.inBlock, Exit.then])
                refine bodyPost_ret (results_tmp4 rfl _ _ _) rfl ?_
                exact ⟨by rw [GG.out]; rfl, (Below.refl _ _).drew⟩
      · obtain rfl : i = s.size := by omega
        have HR := Lib.hid (HE.out s.size HP.out (Nat.le_refl _))
        clear hi0
        go_wp2
        (try simp only [Exit.inBlock, Exit.then])
        refine bodyPost_ret (results_tmp4 rfl _ _ _) rfl ?_
        exact ⟨by rw [HR.out]; rfl, Below.refl _ _⟩
end Go.Proofs.YtbkclmpopofebaaDoor
