/-
  The walks of the document's matches and Match.
-/
import Derived.Test.YtejcpngmllciiaaMatch
import Derived.Test.YtejcpngmllciiaaChecks
namespace Go.Proofs.Ytejcpngmllciiaa
open Go.RowKit
set_option linter.unusedVariables false

/-- what the walk of matches keeps: the pieces, all that was there, and where the blocks of its own lie -/
def MB (w wr : World) (B : Nat) (v : Value) (ts : List Tok) : Prop := OwnM wr B 58 257 encP v ts ∧ Below w.heap.size w wr
theorem MB.only {w wr w' : World} {B N : Nat} {v : Value} {ts : List Tok} (h : MB w wr B v ts) (ho : Only N wr w') (hN : w.heap.size ≤ N) (hb : ∃ cs, Blk wr N cs 4) : MB w w' B v ts :=
  ⟨h.1.keep fun g n c hv => by
      subst hv
      obtain ⟨cs, hb⟩ := hb
      exact ho.block g h.1.len.2.2.2.2 (OwnM.ne h.1 hb (by decide)), h.2.trans (ho.below hN h.2.size)⟩
theorem MB.alloc {w wr : World} {B : Nat} {v : Value} {ts : List Tok} (h : MB w wr B v ts) (ob : Obj) : MB w (wr.alloc ob) B v ts := ⟨h.1.alloc ob, h.2.alloc h.2.size ob⟩
theorem MB.drawn {w wr w' : World} {B : Nat} {v : Value} {ts : List Tok} (h : MB w wr B v ts) (hd : Drawn wr w') : MB w w' B v ts := ⟨h.1.drewN hd, h.2.trans (hd.below _)⟩
theorem MB.tok {w wr : World} {B : Nat} {v : Value} {ts : List Tok} (h : MB w wr B v ts) (k : Nat) (hk : k < ts.length) :
    ∃ g cap, v = .slice (some ⟨g, 0, none⟩) ts.length cap ∧ ts.length ≤ cap ∧ cap ≤ maxLen ∧ g < wr.heap.size ∧ wr.cell? ⟨g, k * 257, none⟩ = some (.int .i64 (kd ts k)) ∧ ∀ b, b < 256 → wr.cell? ⟨g, k * 257 + 1 + b, none⟩ = some (.bool (st ts k b)) := by
  rcases h.1.form with ⟨_, rfl⟩ | ⟨g, cap, rfl⟩
  · simp at hk
  · have hl := h.1.len
    have e2 : ts.getD k (1, fun _ => false) = ts[k] := by simp [List.getD, List.getElem?_eq_getElem hk]
    refine ⟨g, cap, rfl, hl.2.1, hl.2.2.1, hl.2.2.2.2, ?_, fun b hb => ?_⟩
    · have := h.1.cell encP_len k hk 0 (by omega)
      rw [Nat.add_zero] at this
      rw [this]
      unfold kd; rw [e2]
      have := pieceA_zero (ts[k].1 : Int) ts[k].2
      rw [← Array.getElem?_toList, pieceA_list] at this
      exact this
    · have := h.1.cell encP_len k hk (1 + b) (by omega)
      rw [← Nat.add_assoc] at this
      rw [this]
      unfold st; rw [e2]
      have := pieceA_get (ts[k].1 : Int) ts[k].2 b hb
      rw [← Array.getElem?_toList, pieceA_list] at this
      exact this

def rowTo (k : Nat) (f : Nat → Bool) (l : List UInt8) (r : Nat → Bool) (i : Nat) : Nat → Bool := fun x => if x < i then nextRow k f l r x else false
theorem rowTo_next (k : Nat) (f : Nat → Bool) (l : List UInt8) (r : Nat → Bool) (i : Nat) : rowTo k f l r (i + 1) = fun y => if y = i then nextRow k f l r i else rowTo k f l r i y := by
  funext y
  by_cases hy : y = i
  · subst hy; simp [rowTo]
  · rw [if_neg hy]
    unfold rowTo
    by_cases h : y < i
    · rw [if_pos h, if_pos (by omega)]
    · rw [if_neg h, if_neg (by omega)]
theorem rowTo_keep (k : Nat) (f : Nat → Bool) (l : List UInt8) (r : Nat → Bool) (i : Nat) (h : nextRow k f l r i = false) : rowTo k f l r (i + 1) = rowTo k f l r i := by
  rw [rowTo_next]
  funext y
  by_cases hy : y = i
  · subst hy; simp [rowTo, h]
  · rw [if_neg hy]

set_option maxRecDepth 100000 in
set_option maxHeartbeats 4000000 in
theorem matches_calls (w : World) (B : Nat) (v : Value) (ts : List Tok) (t : ByteArray) (h : OwnM w B 58 257 encP v ts) (hk : Kinds ts) (hts : ts.length ≤ 5000) (ht : t.size ≤ 100000) :
    Calls Try.prog 25 #[v, .string t] w fun e w' => e = .returned (.bool (row ts t.data.toList ts.length t.size)) ∧ Below w.heap.size w w' := by
  have hv : ∃ ao cap, v = .slice ao ts.length cap := by
    rcases h.form with ⟨rfl, rfl⟩ | ⟨g, cap, rfl⟩
    · exact ⟨_, _, rfl⟩
    · exact ⟨_, _, rfl⟩
  obtain ⟨ao, cap, rfl⟩ := hv
  have M0 := Lib.hid (show MB w w B (.slice ao ts.length cap) ts from ⟨h, Below.refl _ _⟩)
  have HK := Lib.hid hk
  clear h hk
  generalize hn : ts.length = n at *
  have HN := Lib.hid hn
  clear hn
  go_enter Try.func25, Try.ntmps25
  go_upto_region 2 with (first | (refine wpList_makeB rfl _ _ rfl (t.size + 1) _ rfl rfl (by omega) (by omega) ?_))
  try go_frame
  have e0 : (boolsA (t.size + 1) (fun _ => false)).setIfInBounds 0 (.bool true) = boolsA (t.size + 1) (row ts t.data.toList 0) := by
    rw [boolsA_set]
    exact boolsA_ext fun i _ => by by_cases hi : i = 0 <;> simp [row, hi]
  have E0 := Lib.hid e0
  clear e0
  have M1 := Lib.hid (show MB w (w.alloc (.cells (boolsA (t.size + 1) (row ts t.data.toList 0)) 4)) B (.slice ao n cap) ts from M0.out.alloc _)
  have A1 := Lib.hid (show Blk (w.alloc (.cells (boolsA (t.size + 1) (row ts t.data.toList 0)) 4)) w.heap.size (boolsA (t.size + 1) (row ts t.data.toList 0)) 4 from Blk.new _ _ _)
  have z0 : (w.alloc (.cells (boolsA (t.size + 1) (fun _ => false)) 4)).cell? ⟨w.heap.size, 0, none⟩ = some (.bool false) := by rw [(Blk.new w _ _).cell, boolsA_get _ _ _ (by omega)]
  have f0 : (w.alloc (.cells (boolsA (t.size + 1) (fun _ => false)) 4)).frozen? ⟨w.heap.size, 0, none⟩ = false := (Blk.new w _ _).free 0
  go_wp2_with fail
  rw [E0.out]
  clear z0 f0 E0
  generalize World.alloc _ _ = w1 at M1 A1 ⊢
  generalize hA : w.heap.size = A at A1 ⊢
  have AE := Lib.hid (show w.heap.size ≤ A from Nat.le_of_eq hA)
  clear hA M0
  go_loopg [5, 6, 7, 8] n (fun g s5 s6 s7 s8 wr => ∃ k A : Nat, k ≤ n ∧ n - k ≤ g ∧ s5 = .slice (some ⟨A, 0, none⟩) (t.size + 1) (t.size + 1) ∧ s6 = .int .i64 k ∧ Blk wr A (boolsA (t.size + 1) (row ts t.data.toList k)) 4 ∧ MB w wr B (.slice ao n cap) ts ∧ w.heap.size ≤ A)
  case atStart => exact ⟨0, A, Nat.zero_le _, by omega, rfl, rfl, A1.out, M1.out, AE.out⟩
  case round =>
    obtain ⟨k, A2, hk, hg, rfl, rfl, hA, hM, hAE⟩ := hrel
    have HA := Lib.hid hA
    have MM := Lib.hid hM
    have AE2 := Lib.hid hAE
    clear hA hM hAE A1 M1 AE
    by_cases hkn : k < n
    · go_upto_region 7 with (first | (refine wpList_makeB rfl _ _ rfl (t.size + 1) _ rfl rfl (by omega) (by omega) ?_))
      try go_frame
      have N1 := Lib.hid (show Blk (wr.alloc (.cells (boolsA (t.size + 1) (fun _ => false)) 4)) wr.heap.size (boolsA (t.size + 1) (rowTo (kd ts k) (st ts k) t.data.toList (row ts t.data.toList k) 0)) 4 from by
        have := Blk.new wr (boolsA (t.size + 1) (fun _ => false)) 4
        rwa [boolsA_ext (c := fun _ => false) (d := rowTo (kd ts k) (st ts k) t.data.toList (row ts t.data.toList k) 0) (fun i _ => by simp [rowTo])] at this)
      have A3 := Lib.hid (show Blk (wr.alloc (.cells (boolsA (t.size + 1) (fun _ => false)) 4)) A2 (boolsA (t.size + 1) (row ts t.data.toList k)) 4 from HA.out.alloc _)
      have M3 := Lib.hid (show MB w (wr.alloc (.cells (boolsA (t.size + 1) (fun _ => false)) 4)) B (.slice ao n cap) ts from MM.out.alloc _)
      have AN : A2 ≠ wr.heap.size := Nat.ne_of_lt HA.out.lt
      have ANH := Lib.hid AN
      have NE := Lib.hid (show w.heap.size ≤ wr.heap.size from MM.out.2.size)
      clear AN HA MM
      generalize World.alloc _ _ = w2 at N1 A3 M3 ⊢
      generalize wr.heap.size = N at N1 ANH NE ⊢
      go_wp2_with fail
      go_loopg [8] (t.size + 1) (fun g s8 wr => ∃ i : Nat, i ≤ t.size + 1 ∧ t.size + 1 - i ≤ g ∧ s8 = .int .i64 i ∧ Blk wr N (boolsA (t.size + 1) (rowTo (kd ts k) (st ts k) t.data.toList (row ts t.data.toList k) i)) 4 ∧ Blk wr A2 (boolsA (t.size + 1) (row ts t.data.toList k)) 4 ∧ MB w wr B (.slice ao n cap) ts)
      case atStart => exact ⟨0, Nat.zero_le _, by omega, rfl, N1.out, A3.out, M3.out⟩
      case round =>
        obtain ⟨i, hi, hg2, rfl, hN4, hA4, hM4⟩ := hrel
        have N4 := Lib.hid hN4
        have A4 := Lib.hid hA4
        have M4 := Lib.hid hM4
        clear hN4 hA4 hM4 N1 A3 M3
        by_cases him : i ≤ t.size
        · have him' : (i : Int) ≤ (t.size : Int) := by omega
          have hi0 : (0 : Int) ≤ (i : Int) := by omega
          have hi1 : (i : Int) < (t.size : Int) + 1 := by omega
          have NAH := Lib.hid (Ne.symm ANH.out)
          have KD := Lib.hid (kd_mem HK.out k)
          obtain ⟨g, cap', hv, hc1, hc2, hgl, d0, dB⟩ := M4.out.tok k (by rw [HN.out]; exact hkn)
          rw [HN.out] at hv hc1
          cases hv
          have hk0 : (0 : Int) ≤ (k : Int) := by omega
          have hk1 : (k : Int) < (n : Int) := by omega
          have a0 : wr.cell? ⟨A2, i, none⟩ = some (.bool (row ts t.data.toList k i)) := by rw [A4.out.cell, boolsA_get _ _ _ (by omega)]
          have frN : ∀ x, wr.frozen? ⟨N, x, none⟩ = false := fun x => N4.out.free x
          have n0 : wr.cell? ⟨N, i, none⟩ = some (.bool false) := by rw [N4.out.cell, boolsA_get _ _ _ (by omega)]; simp [rowTo]
          obtain ⟨nr, hnr⟩ : ∃ nr, nr = nextRow (kd ts k) (st ts k) t.data.toList (row ts t.data.toList k) i := ⟨_, rfl⟩
          have HNR := Lib.hid hnr
          have KK := Lib.hid (show nr = false → Blk wr N (boolsA (t.size + 1) (rowTo (kd ts k) (st ts k) t.data.toList (row ts t.data.toList k) (i + 1))) 4 from fun h => by rw [rowTo_keep _ _ _ _ _ (by rw [← hnr]; exact h)]; exact N4.out)
          have SS := Lib.hid (show nr = true → ∀ wz, Drawn wr wz → Blk (wz.setCell ⟨N, i, none⟩ (.bool true)) N (boolsA (t.size + 1) (rowTo (kd ts k) (st ts k) t.data.toList (row ts t.data.toList k) (i + 1))) 4 from fun h wz hd => by rw [rowTo_next, ← hnr, h, ← boolsA_set]; exact (N4.out.drawn hd).set _ _)
          clear hnr
          by_cases hz : i = 0
          · subst hz
            have NRZ := Lib.hid (show nr = (row ts t.data.toList k 0 && decide (kd ts k ≠ 1)) from by rw [HNR.out]; rfl)
            generalize row ts t.data.toList k 0 = r0 at a0 NRZ
            by_cases hk1' : kd ts k = 1
            · have NK := Lib.hid (KK.out (by rw [NRZ.out, hk1']; simp))
              rw [hk1'] at d0
              clear KK SS hk1' dB
              go_wp2_with fail
              go_quiet (fail)
              all_goals go_wp2_with fail
              all_goals go_roundg (t.size + 1 - (0 + 1))
              case measure => omega
              case rel => exact ⟨0 + 1, by omega, by omega, by first | go_num | rfl, NK.out.drawn (drawnN _ _), A4.out.drawn (drawnN _ _), M4.out.drawn (drawnN _ _)⟩
            · have t1 : (((kd ts k : Nat) : Int) == 1) = false := by simp; omega
              cases r0 with
              | false =>
                have NK := Lib.hid (KK.out (by rw [NRZ.out]; simp))
                clear KK SS dB
                go_wp2_with fail
                all_goals go_roundg (t.size + 1 - (0 + 1))
                case measure => omega
                case rel => exact ⟨0 + 1, by omega, by omega, by first | go_num | rfl, NK.out, A4.out, M4.out⟩
              | true =>
                have NS := Lib.hid (SS.out (by rw [NRZ.out]; simp [hk1']))
                clear KK SS dB
                go_wp2_with fail
                all_goals go_roundg (t.size + 1 - (0 + 1))
                case measure => omega
                case rel => exact ⟨0 + 1, by omega, by omega, by first | go_num | rfl, NS.out _ (Drawn.refl _), (A4.out).other _ NAH.out _, (M4.out).only ((Only.refl _ _).set _ _) NE.out ⟨_, N4.out⟩⟩
          · have hip : (0 : Int) < (i : Int) := by omega
            have hipn : 0 < i := Nat.pos_of_ne_zero hz
            obtain ⟨p, hpe⟩ : ∃ p, i = p + 1 := ⟨i - 1, by omega⟩
            have NRZ := Lib.hid (show nr = (if kd ts k = 1 then row ts t.data.toList k p && st ts k (bt t.data.toList p) else row ts t.data.toList k i || (nextRow (kd ts k) (st ts k) t.data.toList (row ts t.data.toList k) p && okB (kd ts k) (bt t.data.toList p))) from by
              rw [HNR.out, hpe]
              rfl)
            have a1 : wr.cell? ⟨A2, p, none⟩ = some (.bool (row ts t.data.toList k p)) := by rw [A4.out.cell, boolsA_get _ _ _ (by omega)]
            have n1 : wr.cell? ⟨N, p, none⟩ = some (.bool (nextRow (kd ts k) (st ts k) t.data.toList (row ts t.data.toList k) p)) := by rw [N4.out.cell, boolsA_get _ _ _ (by omega)]; unfold rowTo; rw [if_pos (by omega)]
            have d1 := dB (bt t.data.toList p) (bt_lt _ _)
            have hpt : p < t.size := by omega
            have hbt := bt_get t p hpt
            have hq1 : (0 : Int) ≤ (i : Int) - 1 := by omega
            have hq2 : (i : Int) - 1 < (t.size : Int) := by omega
            have hq3 : IntKind.i64.wrap ((i : Int) - 1) = (i : Int) - 1 := IntWalk.i64_in _ (by omega)
            have hq4 : ((i : Int) - 1).toNat = p := by omega
            have hq5 : (i : Int) - 1 < (t.size : Int) + 1 := by omega
            have hb0 : (0 : Int) ≤ ((bt t.data.toList p : Nat) : Int) := by omega
            have hb1 : ((bt t.data.toList p : Nat) : Int) < 256 := by have := bt_lt t.data.toList p; omega
            clear dB
            have PE := Lib.hid hpe
            clear hpe
            generalize row ts t.data.toList k p = r1 at NRZ a1
            generalize row ts t.data.toList k i = r0 at NRZ a0
            generalize nextRow (kd ts k) (st ts k) t.data.toList (row ts t.data.toList k) p = n1v at NRZ n1
            generalize st ts k (bt t.data.toList p) = sb at NRZ d1
            by_cases hk1' : kd ts k = 1
            · rw [hk1'] at d0
              cases r1 with
              | false =>
                have NK := Lib.hid (KK.out (by rw [NRZ.out, if_pos hk1']; simp))
                clear KK SS hk1'
                go_wp2_with fail
                go_quiet (fail)
                all_goals go_wp2_with fail
                all_goals go_roundg (t.size + 1 - (i + 1))
                case measure => omega
                case rel => exact ⟨i + 1, by omega, by omega, by first | go_num | rfl, NK.out.drawn (drawnN _ _), A4.out.drawn (drawnN _ _), M4.out.drawn (drawnN _ _)⟩
              | true =>
                cases sb with
                | false =>
                  have NK := Lib.hid (KK.out (by rw [NRZ.out, if_pos hk1']; simp))
                  clear KK SS hk1'
                  go_wp2_with fail
                  go_quiet (fail)
                  all_goals go_wp2_with fail
                  all_goals go_roundg (t.size + 1 - (i + 1))
                  case measure => omega
                  case rel => exact ⟨i + 1, by omega, by omega, by first | go_num | rfl, NK.out.drawn (drawnN _ _), A4.out.drawn (drawnN _ _), M4.out.drawn (drawnN _ _)⟩
                | true =>
                  have NS := Lib.hid (SS.out (by rw [NRZ.out, if_pos hk1']; simp))
                  clear KK SS hk1'
                  go_wp2_with fail
                  go_quiet (fail)
                  all_goals go_wp2_with fail
                  all_goals go_roundg (t.size + 1 - (i + 1))
                  case measure => omega
                  case rel => exact ⟨i + 1, by omega, by omega, by first | go_num | rfl, NS.out _ (drawnN _ _), (A4.out.drawn (drawnN _ _)).other _ NAH.out _, (M4.out.drawn (drawnN _ _)).only ((Only.refl _ _).set _ _) NE.out ⟨_, N4.out.drawn (drawnN _ _)⟩⟩
            · have t1 : (((kd ts k : Nat) : Int) == 1) = false := by simp; omega
              cases r0 with
              | true =>
                have NS := Lib.hid (SS.out (by rw [NRZ.out, if_neg hk1']; simp))
                clear KK SS
                go_wp2_with fail
                all_goals go_roundg (t.size + 1 - (i + 1))
                case measure => omega
                case rel => exact ⟨i + 1, by omega, by omega, by first | go_num | rfl, NS.out _ (Drawn.refl _), (A4.out).other _ NAH.out _, (M4.out).only ((Only.refl _ _).set _ _) NE.out ⟨_, N4.out⟩⟩
              | false =>
                cases n1v with
                | false =>
                  have NK := Lib.hid (KK.out (by rw [NRZ.out, if_neg hk1']; simp))
                  clear KK SS
                  go_wp2_with fail
                  all_goals go_roundg (t.size + 1 - (i + 1))
                  case measure => omega
                  case rel => exact ⟨i + 1, by omega, by omega, by first | go_num | rfl, NK.out, A4.out, M4.out⟩
                | true =>
                  by_cases hk3 : kd ts k = 3
                  · have NS := Lib.hid (SS.out (by rw [NRZ.out, if_neg hk1', hk3]; simp [okB]))
                    rw [hk3] at d0
                    clear KK SS hk3 t1
                    go_wp2_with fail
                    all_goals go_roundg (t.size + 1 - (i + 1))
                    case measure => omega
                    case rel => exact ⟨i + 1, by omega, by omega, by first | go_num | rfl, NS.out _ (Drawn.refl _), (A4.out).other _ NAH.out _, (M4.out).only ((Only.refl _ _).set _ _) NE.out ⟨_, N4.out⟩⟩
                  · have t3 : (((kd ts k : Nat) : Int) == 3) = false := by simp; omega
                    have hk2 : kd ts k = 2 := by have := KD.out; omega
                    by_cases h47 : bt t.data.toList p = 47
                    · have NK := Lib.hid (KK.out (by rw [NRZ.out, if_neg hk1', hk2, h47]; simp [okB]))
                      rw [h47] at hbt
                      clear KK SS h47 hk2
                      replace hk3 := Lib.hid hk3
                      replace hk1' := Lib.hid hk1'
                      go_wp2_with fail
                      all_goals go_roundg (t.size + 1 - (i + 1))
                      case measure => omega
                      case rel => exact ⟨i + 1, by omega, by omega, by first | go_num | rfl, NK.out, A4.out, M4.out⟩
                    · have NS := Lib.hid (SS.out (by rw [NRZ.out, if_neg hk1', hk2]; simp [okB, h47]))
                      have t4 : (((bt t.data.toList p : Nat) : Int) != 47) = true := by simp [bne]; omega
                      clear KK SS hk2
                      replace h47 := Lib.hid h47
                      replace hk3 := Lib.hid hk3
                      replace hk1' := Lib.hid hk1'
                      go_wp2_with fail
                      all_goals go_roundg (t.size + 1 - (i + 1))
                      case measure => omega
                      case rel => exact ⟨i + 1, by omega, by omega, by first | go_num | rfl, NS.out _ (Drawn.refl _), (A4.out).other _ NAH.out _, (M4.out).only ((Only.refl _ _).set _ _) NE.out ⟨_, N4.out⟩⟩
        · have ND := Lib.hid (show boolsA (t.size + 1) (rowTo (kd ts k) (st ts k) t.data.toList (row ts t.data.toList k) i) = boolsA (t.size + 1) (row ts t.data.toList (k + 1)) from boolsA_ext fun x hx => by unfold rowTo; rw [if_pos (by omega)]; rfl)
          have N5 := Lib.hid (show Blk wr N (boolsA (t.size + 1) (row ts t.data.toList (k + 1))) 4 from by rw [← ND.out]; exact N4.out)
          clear ND N4
          go_wp2_with fail
          go_roundg (n - (k + 1))
          case measure => omega
          case rel => exact ⟨k + 1, N, by omega, by omega, rfl, by go_num, N5.out, M4.out, NE.out⟩
    · obtain rfl : k = n := by omega
      have z0 : wr.cell? ⟨A2, t.size, none⟩ = some (.bool (row ts t.data.toList k t.size)) := by rw [HA.out.cell, boolsA_get _ _ _ (by omega)]
      have X := Lib.hid MM.out.2
      go_wp2_with fail
      go_ret
      exact ⟨rfl, X.out⟩
end Go.Proofs.Ytejcpngmllciiaa
