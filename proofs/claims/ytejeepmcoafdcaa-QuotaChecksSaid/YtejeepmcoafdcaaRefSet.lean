/-
  The walk of the document's set: what stands between brackets.
-/
import Derived.Test.YtejeepmcoafdcaaPiece
import Derived.Test.YtejeepmcoafdcaaClass
namespace Go.Proofs.Ytejeepmcoafdcaa
open Go.RowKit
set_option linter.unusedVariables false

/-- what set comes to -/
def SetEnd (w : World) (s : ByteArray) (i : Nat) (e : Ending) (w' : World) : Prop :=
  Below w.heap.size w w' ∧ match setAt s.data.toList i with
    | some (f, j) => e = .returned (.tuple #[.agg (pieceA 1 f), .int .i64 (j : Nat)])
    | none => ∃ (k : Int) (f : Nat → Bool), e = .returned (.tuple #[.agg (pieceA k f), .int .i64 0])

theorem set_results (w : World) (G : Nat) (k : Int) (f : Nat → Bool) (tmps : Array Value) (v : Value) (hp : tmps.getD 4 undef = .pointer (some ⟨G, 0, none⟩)) (hv : tmps.getD 5 undef = v) (hB : Blk w G (pieceA k f) 76) :
    (results Try.f31 tmps).run Try.prog w = .ok (.tuple #[.agg (pieceA k f), v]) w := by
  have hp' : tmps[4]?.getD undef = .pointer (some ⟨G, 0, none⟩) := by simpa using hp
  have hv' : tmps[5]?.getD undef = v := by simpa using hv
  have hl := run_loadVar_row (P := Try.prog) w G _ _ _ _ _ hB Try.underlying76 rfl (by rw [piece_size, pieceA_size])
  simp [results, Try.results31, hp', hv', asAddr, hl]

/-- what set keeps: G the result, O the set so far -/
def GO (w wr : World) (G O : Nat) (f : Nat → Bool) : Prop := Blk wr O (pieceA 1 f) 76 ∧ Blk wr G (pieceA 0 noBytes) 76 ∧ Below w.heap.size w wr
theorem GO.drawn {w wr w' : World} {G O : Nat} {f : Nat → Bool} (h : GO w wr G O f) (hd : Drawn wr w') : GO w w' G O f := ⟨h.1.drawn hd, h.2.1.drawn hd, h.2.2.trans (hd.below _)⟩
theorem GO.put {w wr : World} {G O : Nat} {f : Nat → Bool} (h : GO w wr G O f) (b : Nat) (x : Bool) (hb : b < 256) (hO : w.heap.size ≤ O) (hG : O ≠ G) : GO w (wr.setCell ⟨O, 1 + b, none⟩ (.bool x)) G O (fun y => if y = b then x else f y) :=
  ⟨by rw [← pieceA_set 1 f b x hb]; exact h.1.set _ _, h.2.1.other _ hG _, h.2.2.setCell hO _⟩
theorem GO.congr {w wr : World} {G O : Nat} {f g : Nat → Bool} (h : GO w wr G O f) (e : ∀ b, b < 256 → f b = g b) : GO w wr G O g := by
  unfold GO at *; rw [← pieceA_ext rfl e]; exact h
theorem SetEnd.fail {w w' : World} {s : ByteArray} {i : Nat} {k : Int} {f : Nat → Bool} (hb : Below w.heap.size w w') (h : setAt s.data.toList i = none) : SetEnd w s i (.returned (.tuple #[.agg (pieceA k f), .int .i64 0])) w' := by
  unfold SetEnd; rw [h]; exact ⟨hb, k, f, rfl⟩

set_option maxRecDepth 100000 in
set_option maxHeartbeats 4000000 in
theorem set_calls (w : World) (s : ByteArray) (x : Int) (i : Nat) (hx : x = i) (hs : s.size ≤ 140737488351232) (hi : i ≤ s.size) :
    Calls Try.prog 31 #[.string s, .int .i64 x] w (SetEnd w s i) := by
  subst hx
  have hl := len_list s
  have hSet : ∃ nb : Bool, nb = decide (i < s.size ∧ bt s.data.toList i = 33) := ⟨_, rfl⟩
  obtain ⟨nb, hnb⟩ := hSet
  have SA := Lib.hid (show setAt s.data.toList i = (match items s.data.toList (s.size + 1) (if nb then i + 1 else i) none0 0 with | none => none | some (f, n, j) => if s.size ≤ j ∨ n = 0 then none else some (turned nb f, j + 1)) from by
    unfold setAt
    rw [hl, hnb]
    have e1 : (if i < s.size ∧ bt s.data.toList i = 33 then i + 1 else i) = (if decide (i < s.size ∧ bt s.data.toList i = 33) = true then i + 1 else i) := by simp
    rw [e1]; rfl)
  have NB := Lib.hid hnb
  clear hnb
  go_enter Try.func31, Try.ntmps31
  go_upto_region 2 with (first | (refine wpList_newP rfl rfl ?_) | (refine wpList_buildP rfl rfl ?_) | (refine wpList_storeP rfl _ _ rfl _ rfl 1 0 noBytes noBytes rfl (Blk.new _ _ _) ?_; intro w1 hB1 hO1))
  have G1 := Lib.hid (show GO w w1 w.heap.size (w.heap.size + 1) none0 ∧ w.heap.size + 1 ≠ w.heap.size ∧ w.heap.size ≤ w.heap.size + 1 from by
    refine ⟨⟨?_, ?_, ?_⟩, by omega, by omega⟩
    · have e : (w.alloc (.cells (pieceA 0 noBytes) 76)).heap.size = w.heap.size + 1 := World.size_alloc _ _
      rw [e] at hB1; exact hB1
    · have b0 : Blk ((w.alloc (.cells (pieceA 0 noBytes) 76)).alloc (.cells (pieceA 0 noBytes) 76)) w.heap.size (pieceA 0 noBytes) 76 := (Blk.new w _ _).alloc _
      exact b0.only hO1 (by rw [World.size_alloc]; omega)
    · exact (((Below.refl _ _).alloc (Nat.le_refl _) _).alloc (by simp) _).trans (hO1.below (by simp) (by simp; omega)))
  clear hB1 hO1
  go_frame
  simp only [World.size_alloc]
  generalize hOe : w.heap.size + 1 = O at G1 ⊢
  generalize hGe : w.heap.size = G at G1 ⊢
  have WO := Lib.hid (show w.heap.size ≤ O ∧ w.heap.size ≤ G ∧ O ≠ G from ⟨by rw [hGe]; exact G1.out.2.2, by omega, G1.out.2.1⟩)
  clear hOe hGe
  have GG := Lib.hid G1.out.1
  clear G1
  go_cut [7] (fun s7 wx => s7 = .bool nb ∧ wx = w1)
  case first =>
    by_cases h1 : i < s.size
    · have hlt : (i : Int) < (s.size : Int) := by omega
      have hbt := bt_get s i h1
      by_cases h33 : bt s.data.toList i = 33
      · have N1 := Lib.hid (show nb = true from by rw [NB.out]; simp [h1, h33])
        rw [h33] at hbt
        clear h33
        go_wp2_with fail
        go_meet
        exact ⟨by rw [N1.out], rfl⟩
      · have N1 := Lib.hid (show nb = false from by rw [NB.out]; simp [h33])
        have t1 : (((bt s.data.toList i : Nat) : Int) == 33) = false := by simp; omega
        replace h33 := Lib.hid h33
        go_wp2_with fail
        go_meet
        exact ⟨by rw [N1.out], rfl⟩
    · have hlt : ¬ (i : Int) < (s.size : Int) := by omega
      have N1 := Lib.hid (show nb = false from by rw [NB.out]; simp [h1])
      go_wp2_with fail
      go_meet
      exact ⟨by rw [N1.out], rfl⟩
  case rest =>
    obtain ⟨rfl, rfl⟩ := hcut
    rename World => w1
    go_upto_if 25 with fail
    go_cut [1] (fun s1 wx => s1 = .int .i64 ((if nb then i + 1 else i : Nat) : Int) ∧ wx = w1)
    case first =>
      cases nb with
      | false =>
        go_wp2_with fail
        go_meet
        exact ⟨by simp, rfl⟩
      | true =>
        go_wp2_with fail
        go_meet
        exact ⟨by simp, rfl⟩
    case rest =>
      obtain ⟨rfl, rfl⟩ := hcut
      rename World => w1
      have hi1 : (if nb then i + 1 else i) ≤ s.size := by
        cases nb
        · simpa using hi
        · have h2 : i < s.size := (of_decide_eq_true NB.out.symm).1
          simp; omega
      clear NB hi
      generalize hRES : items s.data.toList (s.size + 1) (if nb then i + 1 else i) none0 0 = RES at SA
      have R0 := Lib.hid hRES.symm
      clear hRES
      generalize (if nb then i + 1 else i) = i1 at *
      go_wp2_with fail
      go_loopg [1, 8, 9, 10, 11, 12] (s.size + 1) (fun g s1 s8 s9 s10 s11 s12 wr => ∃ (i' n : Nat) (f : Nat → Bool), s1 = .int .i64 i' ∧ s8 = .int .i64 n ∧ GO w wr G O f ∧ i' ≤ s.size ∧ s.size < i' + g ∧ n ≤ i' ∧ RES = items s.data.toList g i' f n)
      case atStart => exact ⟨i1, 0, none0, rfl, rfl, GG.out, hi1, by omega, Nat.zero_le _, R0.out⟩
      case round =>
        obtain ⟨i', n, f, rfl, rfl, hGO, hi', hg', hn', hR⟩ := hrel
        have HG := Lib.hid hGO
        have RS := Lib.hid hR
        clear hGO hR GG R0 hi1
        clear i1
        by_cases hgo : i' < s.size ∧ ¬ bt s.data.toList i' = 93
        · obtain ⟨hi2, h93⟩ := hgo
          have hil : i' < s.data.toList.length := by rw [hl]; exact hi2
          have HIL := Lib.hid hil
          have hlt : (i' : Int) < (s.size : Int) := by omega
          have hbt := bt_get s i' hi2
          have t1 : (((bt s.data.toList i' : Nat) : Int) != 93) = true := by simp [bne]; omega
          have IC := Lib.hid (item_calls wr s (i' : Int) i' rfl hs (by omega))
          unfold itemEnd at IC
          replace h93 := Lib.hid h93
          obtain ⟨g', rfl⟩ : ∃ g', gk = g' + 1 := ⟨gk - 1, by omega⟩
          clear hil
          cases hit : item s.data.toList i' with
          | none =>
            have SN := Lib.hid (show setAt s.data.toList i = none from by rw [SA.out, RS.out, items_none HIL.out h93.out (by unfold span; rw [hit])])
            rw [hit] at IC
            clear hit
            go_wp2_with fail
            refine IC.out.mono ?_
            rintro e w4 ⟨rfl, hd⟩
            have G4 := Lib.hid (HG.out.drawn hd)
            clear hd
            have BO := G4.out.1
            have BG := G4.out.2.1
            go_wp2_with (first | (refine wpList_loadP rfl _ rfl O rfl 1 f BO ?_) | (refine wpList_storeP rfl _ _ rfl G rfl 1 0 f noBytes rfl BG ?_; intro w9 hB9 hO9))
            exact bodyPost_ret (set_results w9 G 1 f _ (.int .i64 0) rfl rfl hB9) rfl (SetEnd.fail (G4.out.2.2.trans (hO9.below WO.out.2.1 G4.out.2.2.size)) SN.out)
          | some xx =>
            obtain ⟨lo, j⟩ := xx
            have hle := item_le hit
            rw [hl] at hle
            have hlo := hle.2.2
            have IT := Lib.hid hit
            rw [hit] at IC
            clear hit
            have hj0 : ((j : Int) == 0) = false := by simp; omega
            go_wp2_with fail
            refine IC.out.mono ?_
            rintro e w4 ⟨rfl, hd⟩
            have G4 := Lib.hid (HG.out.drawn hd)
            clear hd HG IC
            clear wr
            have hcnd : ∃ cnd : Bool, cnd = decide (j + 1 < s.size ∧ bt s.data.toList j = 45 ∧ ¬ bt s.data.toList (j + 1) = 93) := ⟨_, rfl⟩
            obtain ⟨cnd, hcnd⟩ := hcnd
            have HC := Lib.hid hcnd
            clear hcnd hbt hlt t1
            go_upto_region 11 with fail
            go_cut [65] (fun s65 wx => s65 = .bool cnd ∧ wx = w4)
            case first =>
              by_cases q1 : j + 1 < s.size
              · have d1 : (j : Int) + 1 < (s.size : Int) := by omega
                have d2 : (j : Int) < (s.size : Int) := by omega
                have hb0 := bt_get s j (by omega)
                have hb1 := bt_get s (j + 1) q1
                have hq4 : ((j : Int) + 1).toNat = j + 1 := by omega
                by_cases q2 : bt s.data.toList j = 45
                · rw [q2] at hb0
                  by_cases q3 : bt s.data.toList (j + 1) = 93
                  · have CN := Lib.hid (show cnd = false from by rw [HC.out]; simp [q3])
                    rw [q3] at hb1
                    clear q2 q3
                    go_wp2_with fail
                    go_meet
                    exact ⟨by rw [CN.out], rfl⟩
                  · have CN := Lib.hid (show cnd = true from by rw [HC.out]; simp [q3, q2, q1])
                    have t3 : (((bt s.data.toList (j + 1) : Nat) : Int) != 93) = true := by simp [bne]; omega
                    replace q3 := Lib.hid q3
                    clear q2
                    go_wp2_with fail
                    go_meet
                    exact ⟨by rw [CN.out], rfl⟩
                · have CN := Lib.hid (show cnd = false from by rw [HC.out]; simp [q2])
                  have t2 : (((bt s.data.toList j : Nat) : Int) == 45) = false := by simp; omega
                  replace q2 := Lib.hid q2
                  clear hb1
                  go_wp2_with fail
                  go_meet
                  exact ⟨by rw [CN.out], rfl⟩
              · have d1 : ¬ (j : Int) + 1 < (s.size : Int) := by omega
                have CN := Lib.hid (show cnd = false from by rw [HC.out]; simp [q1])
                go_wp2_with fail
                go_meet
                exact ⟨by rw [CN.out], rfl⟩
            case rest =>
              obtain ⟨rfl, rfl⟩ := hcut
              rename World => w4
              go_upto_if 65 with fail
              go_cut [10, 11] (fun s10 s11 wx => ∃ hi2 j' : Nat, s10 = .int .i64 j' ∧ s11 = .int .u8 hi2 ∧ span s.data.toList i' = some (lo, hi2, j') ∧ GO w wx G O f)
              case first =>
                cases cnd with
                | false =>
                  have hc : ¬ (j + 1 < s.data.toList.length ∧ bt s.data.toList j = 45 ∧ ¬ bt s.data.toList (j + 1) = 93) := by rw [hl]; exact of_decide_eq_false HC.out.symm
                  have SPN := Lib.hid (show span s.data.toList i' = some (lo, lo, j) from by unfold span; rw [IT.out]; simp only; rw [if_neg hc])
                  clear hc
                  go_wp2_with fail
                  go_meet
                  exact ⟨lo, j, rfl, rfl, SPN.out, G4.out⟩
                | true =>
                  have hc : j + 1 < s.data.toList.length ∧ bt s.data.toList j = 45 ∧ ¬ bt s.data.toList (j + 1) = 93 := by rw [hl]; exact of_decide_eq_true HC.out.symm
                  have hj1 : j + 1 < s.size := by rw [← hl]; exact hc.1
                  have HC1 := Lib.hid hc
                  have IC := Lib.hid (item_calls w4 s ((j : Int) + 1) (j + 1) (by omega) hs (by omega))
                  unfold itemEnd at IC
                  clear hc
                  cases hit : item s.data.toList (j + 1) with
                  | none =>
                    have SN := Lib.hid (show setAt s.data.toList i = none from by rw [SA.out, RS.out, items_none HIL.out h93.out (by unfold span; rw [IT.out]; simp only; rw [if_pos HC1.out, hit])])
                    rw [hit] at IC
                    clear hit
                    go_wp2_with fail
                    refine IC.out.mono ?_
                    rintro e w5 ⟨rfl, hd⟩
                    have G5 := Lib.hid (G4.out.drawn hd)
                    clear hd
                    have BO := G5.out.1
                    have BG := G5.out.2.1
                    go_wp2_with (first | (refine wpList_loadP rfl _ rfl O rfl 1 f BO ?_) | (refine wpList_storeP rfl _ _ rfl G rfl 1 0 f noBytes rfl BG ?_; intro w9 hB9 hO9))
                    exact bodyPost_ret (set_results w9 G 1 f _ (.int .i64 0) rfl rfl hB9) rfl (SetEnd.fail (G5.out.2.2.trans (hO9.below WO.out.2.1 G5.out.2.2.size)) SN.out)
                  | some yy =>
                    obtain ⟨hi2, j'⟩ := yy
                    have hle2 := item_le hit
                    rw [hl] at hle2
                    have hjj : ((j' : Int) == 0) = false := by simp; omega
                    have hhi := hle2.2.2
                    by_cases hlh : hi2 < lo
                    · have SN := Lib.hid (show setAt s.data.toList i = none from by rw [SA.out, RS.out, items_none HIL.out h93.out (by unfold span; rw [IT.out]; simp only; rw [if_pos HC1.out, hit]; simp only; rw [if_pos hlh])])
                      rw [hit] at IC
                      clear hit
                      have hlh' : (hi2 : Int) < (lo : Int) := by omega
                      go_wp2_with fail
                      refine IC.out.mono ?_
                      rintro e w5 ⟨rfl, hd⟩
                      have G5 := Lib.hid (G4.out.drawn hd)
                      clear hd
                      have BO := G5.out.1
                      have BG := G5.out.2.1
                      go_wp2_with (first | (refine wpList_loadP rfl _ rfl O rfl 1 f BO ?_) | (refine wpList_storeP rfl _ _ rfl G rfl 1 0 f noBytes rfl BG ?_; intro w9 hB9 hO9))
                      exact bodyPost_ret (set_results w9 G 1 f _ (.int .i64 0) rfl rfl hB9) rfl (SetEnd.fail (G5.out.2.2.trans (hO9.below WO.out.2.1 G5.out.2.2.size)) SN.out)
                    · have SPN := Lib.hid (show span s.data.toList i' = some (lo, hi2, j') from by unfold span; rw [IT.out]; simp only; rw [if_pos HC1.out, hit]; simp only; rw [if_neg hlh])
                      rw [hit] at IC
                      clear hit
                      have hlh' : ¬ (hi2 : Int) < (lo : Int) := by omega
                      go_wp2_with fail
                      refine IC.out.mono ?_
                      rintro e w5 ⟨rfl, hd⟩
                      have G5 := Lib.hid (G4.out.drawn hd)
                      clear hd
                      go_wp2_with fail
                      go_meet
                      exact ⟨hi2, j', rfl, rfl, SPN.out, G5.out⟩
              case rest =>
                clear HC G4 hj0 IT
                clear w4
                rename World => w5
                obtain ⟨hi2, j', rfl, rfl, hsp, hG5⟩ := hcut
                have hle2 := span_le hsp
                rw [hl] at hle2
                have G5 := Lib.hid hG5
                have RN := Lib.hid (RS.out.trans (items_next HIL.out h93.out hsp))
                clear hsp hG5 hle RS
                clear j
                go_wp2_with fail
                go_loopg [12] 256 (fun g s12 wr => ∃ b : Nat, lo ≤ b ∧ b ≤ 256 ∧ 256 - b ≤ g ∧ (b ≤ hi2 + 1 ∨ b = lo) ∧ s12 = .int .i64 b ∧ GO w wr G O (below f lo b))
                case atStart => exact ⟨lo, Nat.le_refl _, by omega, by omega, Or.inr rfl, rfl, by rw [below_start]; exact G5.out⟩
                case round =>
                  obtain ⟨b, hb1, hb2, hb3, hb4, rfl, hG6⟩ := hrel
                  have G6 := Lib.hid hG6
                  have OR := Lib.hid hb4
                  clear hG6 hb4
                  by_cases hbh : b ≤ hi2
                  · have BO := G6.out.1
                    have cb : wr.cell? ⟨O, 1 + b, none⟩ = some (.bool (below f lo b b)) := by rw [BO.cell, pieceA_get _ _ _ (by omega)]
                    have fr := BO.free (1 + b)
                    have G7 := Lib.hid (show GO w (wr.setCell ⟨O, 1 + b, none⟩ (.bool true)) G O (below f lo (b + 1)) from by
                      have := G6.out.put b true (by omega) WO.out.1 WO.out.2.2
                      rw [← below_next f lo b hb1]
                      refine this.congr fun y _ => ?_
                      by_cases hy : y = b <;> simp [hy])
                    generalize below f lo b b = old at cb
                    clear BO
                    go_wp2_with fail
                    go_roundg (256 - (b + 1))
                    case measure => omega
                    case rel => exact ⟨b + 1, by omega, by omega, by omega, by omega, by go_num, G7.out⟩
                  · have BE := Lib.hid (below_end f lo hi2 b (by omega) OR.out)
                    go_wp2_with fail
                    go_roundg g'
                    case measure => omega
                    case rel => exact ⟨j', n + 1, mark f lo hi2, by go_num, by go_num, by rw [← BE.out]; exact G6.out, hle2.2.1, by omega, by omega, RN.out⟩
        · have RX := Lib.hid (RS.out.trans (items_stop (by omega) (by rw [hl]; exact hgo)))
          by_cases hi2 : i' < s.size
          · have h93 : bt s.data.toList i' = 93 := by simpa [hi2] using hgo
            have hlt : (i' : Int) < (s.size : Int) := by omega
            have hbt := bt_get s i' hi2
            rw [h93] at hbt
            clear hgo h93
            by_cases hn0 : n = 0
            · subst hn0
              have SN := Lib.hid (show setAt s.data.toList i = none from by rw [SA.out, RX.out]; simp)
              have BO := HG.out.1
              have BG := HG.out.2.1
              go_wp2_with (first | (refine wpList_loadP rfl _ rfl O rfl 1 f BO ?_) | (refine wpList_storeP rfl _ _ rfl G rfl 1 0 f noBytes rfl BG ?_; intro w9 hB9 hO9))
              exact bodyPost_ret (set_results w9 G 1 f _ (.int .i64 0) rfl rfl hB9) rfl (SetEnd.fail (HG.out.2.2.trans (hO9.below WO.out.2.1 HG.out.2.2.size)) SN.out)
            · have SG := Lib.hid (show setAt s.data.toList i = some (turned nb f, i' + 1) from by rw [SA.out, RX.out]; simp only; rw [if_neg (by omega)])
              have t1 : ((n : Int) == 0) = false := by simp; omega
              replace hn0 := Lib.hid hn0
              go_upto_if 104 with fail
              clear RS RX SA
              go_cut [] (fun wx => GO w wx G O (fun b => f b != nb))
              case first =>
                cases nb with
                | false =>
                  go_wp2_with fail
                  go_meet
                  exact HG.out.congr fun b _ => by simp
                | true =>
                  go_wp2_with fail
                  go_loopg [13] 256 (fun g s13 wr => ∃ b : Nat, b ≤ 256 ∧ 256 - b ≤ g ∧ s13 = .int .i64 b ∧ GO w wr G O (fun y => f y != decide (y < b)))
                  case atStart => exact ⟨0, by omega, by omega, rfl, HG.out.congr fun b _ => by simp⟩
                  case round =>
                    obtain ⟨b, hb1, hb2, rfl, hG6⟩ := hrel
                    have G6 := Lib.hid hG6
                    clear hG6 HG
                    by_cases hbh : b < 256
                    · have BO := G6.out.1
                      have cb : wr.cell? ⟨O, 1 + b, none⟩ = some (.bool (f b)) := by rw [BO.cell, pieceA_get _ _ _ hbh]; simp
                      have fr := BO.free (1 + b)
                      have G7 := Lib.hid (show GO w (wr.setCell ⟨O, 1 + b, none⟩ (.bool (!(f b)))) G O (fun y => f y != decide (y < b + 1)) from by
                        have := G6.out.put b (!(f b)) hbh WO.out.1 WO.out.2.2
                        refine this.congr fun y _ => ?_
                        by_cases hy : y = b
                        · subst hy; simp
                        · have : decide (y < b + 1) = decide (y < b) := by rw [Bool.eq_iff_iff]; simp; omega
                          rw [if_neg hy, this])
                      generalize f b = old at cb G7
                      clear BO
                      go_wp2_with fail
                      go_roundg (256 - (b + 1))
                      case measure => omega
                      case rel => exact ⟨b + 1, by omega, by omega, by go_num, G7.out⟩
                    · go_wp2_with fail
                      go_meet
                      exact G6.out.congr fun y hy => by
                        have : decide (y < b) = true := by simp; omega
                        rw [this]
              case rest =>
                clear HG
                clear wr
                rename World => w5
                have G5 := Lib.hid hcut
                have BO := hcut.1
                have c47 : w5.cell? ⟨O, 48, none⟩ = some (.bool (f 47 != nb)) := by rw [BO.cell, pieceA_get 1 _ 47 (by omega)]
                have fr := BO.free 48
                have G6 := Lib.hid (show GO w (w5.setCell ⟨O, 48, none⟩ (.bool false)) G O (turned nb f) from by
                  have := G5.out.put 47 false (by omega) WO.out.1 WO.out.2.2
                  refine this.congr fun y _ => ?_
                  unfold turned
                  by_cases hy : y = 47 <;> simp [hy])
                clear BO hcut
                generalize (f 47 != nb) = old at c47
                have BO := G6.out.1
                have BG := G6.out.2.1
                go_wp2_with (first | (refine wpList_loadP rfl _ rfl O rfl 1 (turned nb f) BO ?_) | (refine wpList_storeP rfl _ _ rfl G rfl 1 0 (turned nb f) noBytes rfl BG ?_; intro w9 hB9 hO9))
                have FIN : SetEnd w s i (.returned (.tuple #[.agg (pieceA 1 (turned nb f)), .int .i64 ((i' : Int) + 1)])) w9 := by
                  unfold SetEnd
                  rw [SG.out]
                  exact ⟨G6.out.2.2.trans (hO9.below WO.out.2.1 G6.out.2.2.size), by simp⟩
                exact bodyPost_ret (set_results w9 G 1 (turned nb f) _ (.int .i64 ((i' : Int) + 1)) rfl rfl hB9) rfl FIN
          · have hlt : ¬ (i' : Int) < (s.size : Int) := by omega
            clear hgo
            have SN := Lib.hid (show setAt s.data.toList i = none from by rw [SA.out, RX.out]; simp; omega)
            have BO := HG.out.1
            have BG := HG.out.2.1
            go_wp2_with (first | (refine wpList_loadP rfl _ rfl O rfl 1 f BO ?_) | (refine wpList_storeP rfl _ _ rfl G rfl 1 0 f noBytes rfl BG ?_; intro w9 hB9 hO9))
            exact bodyPost_ret (set_results w9 G 1 f _ (.int .i64 0) rfl rfl hB9) rfl (SetEnd.fail (HG.out.2.2.trans (hO9.below WO.out.2.1 HG.out.2.2.size)) SN.out)
end Go.Proofs.Ytejeepmcoafdcaa
