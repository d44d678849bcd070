/-
  The walk of Match: every pattern, every text.
-/
import Derived.Test.YtejcpngmllciiaaRunStep
namespace Go.Proofs.Ytejcpngmllciiaa
open Go.RowKit
set_option linter.unusedVariables false

theorem toks_len {p : List UInt8} : ∀ {g i : Nat} {ts : List Tok}, toks p g i = some ts → i ≤ p.length → ts.length ≤ p.length - i ∧ Kinds ts
  | 0, i, ts, h, _ => by simp [toks] at h
  | g + 1, i, ts, h, hi => by
    unfold toks at h
    split at h
    · rename_i hlt
      cases h1 : tokAt p i with
      | none => rw [h1] at h; simp at h
      | some x =>
        obtain ⟨t, j⟩ := x
        rw [h1] at h
        simp only at h
        cases h2 : toks p g j with
        | none => rw [h2] at h; simp at h
        | some us =>
          rw [h2] at h
          simp only [Option.map_some, Option.some.injEq] at h
          subst h
          have hle := tokAt_le h1 hlt
          have := toks_len h2 hle.2.1
          refine ⟨by simp; omega, ?_⟩
          intro u hu
          rcases List.mem_cons.1 hu with rfl | hu
          · exact ⟨hle.2.2.1, hle.2.2.2⟩
          · exact this.2 u hu
    · cases h; exact ⟨by simp, fun u hu => by simp at hu⟩
theorem parse_len {p : List UInt8} {ts : List Tok} (h : parse p = some ts) : ts.length ≤ p.length ∧ Kinds ts := by
  have := toks_len h (Nat.zero_le _)
  simpa using this

theorem skipC_congr {s s' q q' : Nat → Bool} : ∀ i, (∀ j, j < i → s j = s' j) → (∀ j, j ≤ i → q j = q' j) → skipC s q i = skipC s' q' i
  | 0, _, hq => by simp [skipC, hq 0 (Nat.le_refl _)]
  | i + 1, hs, hq => by
    simp only [skipC, hq (i + 1) (Nat.le_refl _), hs i (by omega), skipC_congr i (fun j hj => hs j (by omega)) (fun j hj => hq j (by omega))]
/-- the program's columns -/
def colI (us : List ITok) (n : Nat) (l : List UInt8) : Nat → Nat → Bool
  | 0 => skipC (starI us) (fun i => decide (i = 0))
  | k + 1 => skipC (starI us) (stepI us n (bt l k) (colI us n l k))
theorem tk_toI (ts : List Tok) (i : Nat) (h : i < ts.length) : tk (toI ts) i = ((kd ts i : Int) - 1, st ts i) := by
  have h1 : i < (toI ts).length := by simpa [toI] using h
  have e1 : tk (toI ts) i = (toI ts)[i] := by simp [tk, List.getD, List.getElem?_eq_getElem h1]
  have e2 : ts.getD i (1, fun _ => false) = ts[i] := by simp [List.getD, List.getElem?_eq_getElem h]
  rw [e1]
  unfold kd st
  rw [e2]
  simp [toI]
theorem colI_col (ts : List Tok) (l : List UInt8) : ∀ k i, i ≤ ts.length → colI (toI ts) ts.length l k i = col ts l k i := by
  have hs : ∀ j, j < ts.length → starI (toI ts) j = sk ts j := by
    intro j hj
    unfold starI sk
    rw [tk_toI ts j hj]
    simp only [hj, decide_true, Bool.true_and]
    rw [Bool.eq_iff_iff]; simp; omega
  intro k
  induction k with
  | zero =>
    intro i hi
    exact skipC_congr i (fun j hj => hs j (by omega)) (fun j _ => rfl)
  | succ k ih =>
    intro i hi
    refine skipC_congr i (fun j hj => hs j (by omega)) (fun j hj => ?_)
    unfold stepI stepC
    rw [ih j (by omega), ih (j - 1) (by omega)]
    congr 1
    · by_cases h : j < ts.length
      · rw [tk_toI ts j h]
        have : okI ((kd ts j : Int) - 1) (bt l k) = okB (kd ts j) (bt l k) := by
          unfold okI okB
          have a1 : decide ((kd ts j : Int) - 1 = 2) = decide (kd ts j = 3) := by rw [Bool.eq_iff_iff]; simp; omega
          have a2 : decide ((kd ts j : Int) - 1 = 1) = decide (kd ts j = 2) := by rw [Bool.eq_iff_iff]; simp; omega
          rw [a1, a2]
        rw [this]
      · simp [h]
    · by_cases h : 0 < j
      · rw [tk_toI ts (j - 1) (by omega)]
        have a1 : decide ((kd ts (j - 1) : Int) - 1 = 0) = decide (kd ts (j - 1) = 1) := by rw [Bool.eq_iff_iff]; simp; omega
        simp only [a1]
      · simp [h]
theorem colI_done (ts : List Tok) (l : List UInt8) (k : Nat) : colI (toI ts) ts.length l k ts.length = row ts l ts.length k := by
  rw [colI_col ts l k _ (Nat.le_refl _), col_done]

/-- the plain answer of Match -/
def matchAns (p l : List UInt8) : Bool := if 4096 < p.length then false else match parse p with | none => false | some ts => matchB ts l

set_option maxHeartbeats 2000000 in
theorem match_calls (w : World) (p t : ByteArray) (hp : p.size ≤ 140737488351232) (ht : t.size ≤ 140737488351232) :
    Calls Try.prog 14 #[.string p, .string t] w fun e w' => e = .returned (.tuple #[.bool (matchAns p.data.toList t.data.toList), .int .i64 (checkErr p.data.toList)]) ∧ Below w.heap.size w w' := by
  have hl := len_list p
  have hlt := len_list t
  have CC := Lib.hid (compile_calls w p hp)
  by_cases hbad : 4096 < p.size ∨ parse p.data.toList = none
  · have ER : ∃ er : Int, checkErr p.data.toList = er ∧ (er == 0) = false ∧ matchAns p.data.toList t.data.toList = false ∧ ∀ e w', CompEnd w p e w' → e = .returned (.tuple #[.slice none 0 0, .int .i64 er]) ∧ Below w.heap.size w w' := by
      unfold checkErr matchAns CompEnd
      rw [hl]
      by_cases h : 4096 < p.size
      · refine ⟨21, by rw [if_pos h], by decide, by rw [if_pos h], fun e w' hE => ?_⟩
        rw [if_pos h] at hE; exact ⟨hE.2, hE.1⟩
      · have hn : parse p.data.toList = none := by rcases hbad with h' | h'; exact absurd h' h; exact h'
        refine ⟨110, by rw [if_neg h, hn]; rfl, by decide, by rw [if_neg h, hn], fun e w' hE => ?_⟩
        rw [if_neg h, hn] at hE; exact ⟨hE.2, hE.1⟩
    obtain ⟨er, e1, e2, e3, e4⟩ := ER
    rw [e1, e3]
    have E4 := Lib.hid e4
    clear e1 e3 e4 hbad
    go_enter Try.func14, Try.ntmps14
    go_wp2_with fail
    refine CC.out.mono ?_
    intro e w1 hE
    obtain ⟨rfl, hb⟩ := E4.out e w1 hE
    have HB := Lib.hid hb
    clear hb hE
    go_wp2_with fail
    go_ret2
    exact ⟨rfl, HB.out⟩
  · have h1 : ¬ 4096 < p.size := fun h => hbad (Or.inl h)
    cases hps : parse p.data.toList with
    | none => exact absurd (Or.inr hps) hbad
    | some ts =>
      have hlen := parse_len hps
      rw [hl] at hlen
      have CE : ∀ e w', CompEnd w p e w' → Below w.heap.size w w' ∧ ∃ v, e = .returned (.tuple #[v, .int .i64 0]) ∧ OwnM w' w.heap.size 54 5 encI v (toI ts) := by
        intro e w' hE
        unfold CompEnd at hE
        rw [if_neg h1, hps] at hE
        exact hE
      have E1 : checkErr p.data.toList = 0 := by unfold checkErr; rw [hl, if_neg h1, hps]; rfl
      have E2 : matchAns p.data.toList t.data.toList = row ts t.data.toList ts.length t.size := by unfold matchAns matchB; rw [hl, if_neg h1, hps, hlt]
      rw [E1, E2]
      have HCE := Lib.hid CE
      have HD := Lib.hid (colI_done ts t.data.toList t.size)
      have hu : (toI ts).length = ts.length := by simp [toI]
      have hn5 : (toI ts).length ≤ 5000 := by rw [hu]; omega
      clear CE E1 E2 hbad hlen h1 hps
      generalize hRow : row ts t.data.toList ts.length t.size = ans at *
      clear hRow
      rw [← hu] at HD
      clear hu
      generalize toI ts = us at *
      clear ts
      go_enter Try.func14, Try.ntmps14
      go_wp2_with fail
      refine CC.out.mono ?_
      intro e w1 hE
      obtain ⟨hb, v, rfl, ho⟩ := HCE.out e w1 hE
      have X1 := Lib.hid hb
      have O1 := Lib.hid ho
      clear hb ho hE HCE CC
      go_wp2_with fail
      refine (begin_calls w1 w.heap.size v us O1.out hn5).mono ?_
      rintro e w2 ⟨X, o, rfl, hr, hb, hxo⟩
      have X2 := Lib.hid (X1.out.trans (hb.mono X1.out.size))
      have R2 := Lib.hid hr
      have OX := Lib.hid (show w.heap.size ≤ o from Nat.le_trans X1.out.size hxo)
      clear hr hb hxo X1 O1
      clear w1
      generalize hn : us.length = n at *
      clear hn
      go_wp2_with fail
      go_loopg [9, 22] t.size (fun g s9 s22 wr => ∃ k : Nat, k ≤ t.size ∧ t.size - k ≤ g ∧ s22 = .int .i64 k ∧ Run wr w.heap.size X v us o n (colI us n t.data.toList k) ∧ Below w.heap.size w wr)
      case atStart => exact ⟨0, Nat.zero_le _, by omega, rfl, R2.out, X2.out⟩
      case round =>
        obtain ⟨k, hk, hg, rfl, hR, hX⟩ := hrel
        have R := Lib.hid hR
        have XB := Lib.hid hX
        clear hR hX R2 X2
        by_cases hkt : k < t.size
        · have hbt := bt_get t k hkt
          have SC := Lib.hid (step_calls' wr w.heap.size X v us o n _ ((bt t.data.toList k : Nat) : Int) (bt t.data.toList k) rfl (bt_lt _ _) R.out)
          go_wp2_with fail
          refine SC.out.mono ?_
          rintro e w4 ⟨rfl, hr, ho⟩
          have FIN := Lib.hid (And.intro hr (XB.out.trans (ho.below OX.out XB.out.size)))
          clear hr ho
          go_wp2_with fail
          go_roundg (t.size - (k + 1))
          case measure => omega
          case rel => exact ⟨k + 1, by omega, by omega, by go_num, FIN.out.1, FIN.out.2⟩
        · obtain rfl : k = t.size := by omega
          have DC := Lib.hid (done_calls wr w.heap.size X v us o n _ R.out)
          go_wp2_with fail
          refine DC.out.mono ?_
          rintro e w4 ⟨rfl, hd⟩
          have FIN := Lib.hid (XB.out.trans (hd.below _))
          clear hd
          rw [HD.out]
          go_wp2_with fail
          go_ret2
          exact ⟨rfl, FIN.out⟩
end Go.Proofs.Ytejcpngmllciiaa
