/-
  The walks of the document's read and Check: every pattern.
-/
import Derived.Test.YtejeepmcoafdcaaRefSet
import Derived.Test.YtejeepmcoafdcaaCompile
namespace Go.Proofs.Ytejeepmcoafdcaa
open Go.RowKit
set_option linter.unusedVariables false

def encP (t : Tok) : List Value := pieceL (t.1 : Int) t.2
theorem encP_len (t : Tok) : (encP t).length = 257 := pieceL_len _ _
theorem encP_one (t : Tok) : ∀ u ∈ encP t, u.oneCell' = true := pieceL_one _ _
theorem pieceA_list (k : Int) (f : Nat → Bool) : (pieceA k f).toList = pieceL k f := by unfold pieceA; simp

/-- what read comes to -/
def ReadEnd (w : World) (s : ByteArray) (e : Ending) (w' : World) : Prop :=
  Below w.heap.size w w' ∧ match parse s.data.toList with
    | none => e = .returned (.tuple #[.slice none 0 0, .bool false])
    | some ts => ∃ v, e = .returned (.tuple #[v, .bool true]) ∧ OwnM w' w.heap.size 76 257 encP v ts
theorem ReadEnd.fail {w w' : World} {s : ByteArray} (hb : Below w.heap.size w w') (h : parse s.data.toList = none) : ReadEnd w s (.returned (.tuple #[.slice none 0 0, .bool false])) w' := by
  unfold ReadEnd; rw [h]; exact ⟨hb, rfl⟩

/-- what a round keeps -/
def RInv (w wr : World) (s : ByteArray) (g i : Nat) (v : Value) (ts : List Tok) : Prop :=
  OwnM wr w.heap.size 76 257 encP v ts ∧ Below w.heap.size w wr ∧ i ≤ s.size ∧ ts.length ≤ i ∧ s.size < i + g ∧ parse s.data.toList = (toks s.data.toList g i).map (ts ++ ·)
/-- behind the switch: the piece at P -/
def SInv (w wr : World) (s : ByteArray) (g j P : Nat) (v : Value) (ts : List Tok) (t : Tok) : Prop :=
  Blk wr P (pieceA t.1 t.2) 76 ∧ OwnM wr w.heap.size 76 257 encP v ts ∧ Below w.heap.size w wr ∧ j ≤ s.size ∧ ts.length + 1 ≤ j ∧ s.size < j + g ∧ parse s.data.toList = (toks s.data.toList g j).map ((ts ++ [t]) ++ ·)

theorem RInv.next {w wk w8 : World} {s : ByteArray} {g j P : Nat} {v v' : Value} {ts : List Tok} {t : Tok} (h : SInv w wk s g j P v ts t) (ho : OwnM w8 w.heap.size 76 257 encP v' (ts ++ [t])) (hb : Below w.heap.size wk w8) : RInv w w8 s g j v' (ts ++ [t]) :=
  ⟨ho, h.2.2.1.trans hb, h.2.2.2.1, by rw [List.length_append]; exact h.2.2.2.2.1, h.2.2.2.2.2.1, h.2.2.2.2.2.2⟩
/-- the piece, the list so far, and the rest: P lies behind all that was there -/
def Here (w wk : World) (P : Nat) (v : Value) (ts : List Tok) (k : Int) (f : Nat → Bool) : Prop :=
  Blk wk P (pieceA k f) 76 ∧ OwnM wk w.heap.size 76 257 encP v ts ∧ Below w.heap.size w wk ∧ w.heap.size ≤ P ∧ ∀ g n c, v = .slice (some ⟨g, 0, none⟩) n c → g ≠ P
theorem Here.only {w wk w' : World} {P : Nat} {v : Value} {ts : List Tok} {k k' : Int} {f f' : Nat → Bool} (h : Here w wk P v ts k f) (hb : Blk w' P (pieceA k' f') 76) (ho : Only P wk w') : Here w w' P v ts k' f' :=
  ⟨hb, h.2.1.keep fun g n c hv => by
      subst hv
      exact ho.block g (h.2.1.len.2.2.2.2) (h.2.2.2.2 g n c rfl), h.2.2.1.trans (ho.below h.2.2.2.1 h.2.2.1.size), h.2.2.2⟩
theorem Here.below {w wk w' : World} {P : Nat} {v : Value} {ts : List Tok} {k : Int} {f : Nat → Bool} (h : Here w wk P v ts k f) (hb : Below wk.heap.size wk w') : Here w w' P v ts k f :=
  ⟨h.1.below hb h.1.lt, h.2.1.keep fun g n c hv => by
      subst hv
      exact hb.block g (h.2.1.len.2.2.2.2), h.2.2.1.trans (hb.mono h.2.2.1.size), h.2.2.2⟩
theorem Here.drawn {w wk w' : World} {P : Nat} {v : Value} {ts : List Tok} {k : Int} {f : Nat → Bool} (h : Here w wk P v ts k f) (hd : Drawn wk w') : Here w w' P v ts k f := h.below (hd.below _)
theorem Here.kind {w wk : World} {P : Nat} {v : Value} {ts : List Tok} {k : Int} {f : Nat → Bool} (h : Here w wk P v ts k f) (x : Int) : Here w (wk.setCell ⟨P, 0, none⟩ (.int .i64 x)) P v ts x f :=
  h.only (by rw [← pieceA_kind k x f]; exact h.1.set 0 _) ((Only.refl _ _).set _ _)
theorem Here.byte {w wk : World} {P : Nat} {v : Value} {ts : List Tok} {k : Int} {f : Nat → Bool} (h : Here w wk P v ts k f) (b : Nat) (x : Bool) (hb : b < 256) : Here w (wk.setCell ⟨P, 1 + b, none⟩ (.bool x)) P v ts k (fun y => if y = b then x else f y) :=
  h.only (by rw [← pieceA_set k f b x hb]; exact h.1.set _ _) ((Only.refl _ _).set _ _)
theorem Here.congr {w wk : World} {P : Nat} {v : Value} {ts : List Tok} {k : Int} {f g : Nat → Bool} (h : Here w wk P v ts k f) (e : ∀ b, b < 256 → f b = g b) : Here w wk P v ts k g := by
  unfold Here at *; rw [← pieceA_ext rfl e]; exact h
theorem Here.fin {w wk : World} {s : ByteArray} {g i j P : Nat} {v : Value} {ts : List Tok} {t : Tok} (h : Here w wk P v ts (t.1 : Int) t.2) (hi : i < s.size) (ht : tokAt s.data.toList i = some (t, j)) (hX : ts.length ≤ i ∧ s.size < i + (g + 1) ∧ parse s.data.toList = (toks s.data.toList (g + 1) i).map (ts ++ ·)) : SInv w wk s g j P v ts t := by
  have hl := len_list s
  have hle := tokAt_le ht (by rw [hl]; exact hi)
  rw [hl] at hle
  refine ⟨h.1, h.2.1, h.2.2.1, by omega, by omega, by omega, ?_⟩
  rw [hX.2.2, toks_next (by rw [hl]; exact hi) ht, Option.map_map]
  congr 1
  funext l
  simp

set_option maxRecDepth 100000 in
set_option maxHeartbeats 4000000 in
theorem read_calls (w : World) (s : ByteArray) (hs : s.size ≤ 140737488351232) (hs4 : s.size ≤ 4096) :
    Calls Try.prog 28 #[.string s] w (ReadEnd w s) := by
  have hl := len_list s
  have R0 := Lib.hid (show RInv w (w.alloc (.cells #[] 76)) s (s.size + 1) 0 (.slice (some ⟨w.heap.size, 0, none⟩) 0 0) [] from
    ⟨OwnM.empty _ _ _ _ _ (Nat.le_refl _), (Below.refl _ _).alloc (Nat.le_refl _) _, Nat.zero_le _, Nat.le_refl _, by omega, by unfold parse; rw [hl]; simp⟩)
  go_enter Try.func28, Try.ntmps28
  go_wp2_with (first | (refine wpList_noneP rfl rfl ?_))
  go_loopg [4, 5, 6, 7, 8, 9, 10, 11] (s.size + 1) (fun g s4 s5 s6 s7 s8 s9 s10 s11 wr => ∃ (i : Nat) (ts : List Tok), s5 = .int .i64 i ∧ RInv w wr s g i s4 ts)
  case atStart => exact ⟨0, [], rfl, R0.out⟩
  case round =>
    obtain ⟨i, ts, rfl, hR⟩ := hrel
    have R := Lib.hid hR
    clear hR R0
    by_cases hi : i < s.size
    · have hlt : (i : Int) < (s.size : Int) := by omega
      have hbt := bt_get s i hi
      have hil : i < s.data.toList.length := by rw [hl]; exact hi
      have HIL := Lib.hid hil
      obtain ⟨x1, x2, x3, x4, x5, x6⟩ := R.out
      obtain ⟨g', rfl⟩ : ∃ g', gk = g' + 1 := ⟨gk - 1, by omega⟩
      have X := Lib.hid (And.intro x1 (And.intro x2 (And.intro x4 (And.intro x5 x6))))
      clear x1 x2 x3 x4 x5 x6 R hil
      go_upto_region 5 with (first | (refine wpList_newP rfl rfl ?_) | (refine wpList_buildP rfl rfl ?_) | (refine wpList_storeP rfl _ _ rfl _ rfl 1 0 noBytes noBytes rfl (Blk.new _ _ _) ?_; intro w1 hB1 hO1))
      go_frame
      have hP0 : w.heap.size ≤ wr.heap.size := X.out.2.1.size
      have e1 : (wr.alloc (.cells (pieceA 0 noBytes) 76)).heap.size = wr.heap.size + 1 := World.size_alloc _ _
      have H1 := Lib.hid (show Here w w1 wr.heap.size u4 ts 1 noBytes from by
        refine ⟨hB1, X.out.1.keep fun g n c hv => ?_, ?_, hP0, fun g n c hv => ?_⟩
        · subst hv
          have hg := X.out.1.len.2.2.2.2
          rw [hO1.block g (by rw [e1]; omega) (by omega), Below.heap_alloc _ _ _ hg]
        · exact (X.out.2.1.alloc hP0 _).trans (hO1.below hP0 (by rw [e1]; omega))
        · subst hv
          have := X.out.1.len.2.2.2.2
          omega)
      have X3 := Lib.hid X.out.2.2
      clear hB1 hO1 X hP0 e1
      generalize wr.heap.size = P at *
      clear wr
      have hU : ts.length ≤ 4096 := by have := X3.out.1; omega
      generalize hUe : ts.length = U at *
      have UH := Lib.hid hUe
      clear hUe
      obtain ⟨bP, c0P⟩ : (∀ b, b < 256 → w1.cell? ⟨P, 1 + b, none⟩ = some (.bool false)) ∧ w1.cell? ⟨P, 0, none⟩ = some (.int .i64 1) := ⟨fun b hb => by rw [H1.out.1.cell, pieceA_get _ _ _ hb]; rfl, by rw [H1.out.1.cell, pieceA_zero]⟩
      have CP := Lib.hid bP
      clear bP
      have frP : ∀ i, w1.frozen? ⟨P, i, none⟩ = false := fun i => H1.out.1.free i
      by_cases h42 : bt s.data.toList i = 42
      · by_cases hn : i + 1 < s.size ∧ bt s.data.toList (i + 1) = 42
        · have S5 := Lib.hid (show SInv w ((w1.setCell ⟨P, 0, none⟩ (.int .i64 2)).setCell ⟨P, 0, none⟩ (.int .i64 3)) s g' (i + 2) P u4 ts (3, none0) from
            Here.fin (t := (3, none0)) ((H1.out.kind 2).kind 3) hi (by unfold tokAt; rw [if_pos h42, hl, if_pos hn]; rfl) (by rw [UH.out]; exact X3.out))
          rw [h42] at hbt
          obtain ⟨hn1, hn2⟩ := hn
          have d1 : (i : Int) + 1 < (s.size : Int) := by omega
          have hb1 := bt_get s (i + 1) hn1
          rw [hn2] at hb1
          have hq4 : ((i : Int) + 1).toNat = i + 1 := by omega
          clear h42 hn2
          have BP := S5.out.1
          have SV := Lib.hid S5.out.2.1
          have SB := Lib.hid S5.out.2.2.1.size
          go_wp2_with (first | (at_builtin; refine wpList_pushM _ rfl (.tmp 79) (.tmp 81) 64 rfl w.heap.size 76 (.agg (pieceA 0 noBytes)) 257 264 encP Try.underlying64 Try.info76 (pieceA_size _ _) (by omega) encP_len u4 ts (3, none0) U rfl SV.out UH.out _ rfl rfl (pieceA 3 noBytes) (pieceA_list _ _) (encP_one _) (by omega) (by unfold maxLen; omega) SB.out ?_; intro g cap w8 hown hgr hb8) | (refine wpList_loadP rfl _ rfl P rfl 3 noBytes BP ?_) | (refine wpList_litP rfl _ rfl 3 noBytes rfl ?_))
          have RN := Lib.hid (RInv.next S5.out hown hb8)
          clear hown hgr hb8
          go_roundg g'
          case measure => omega
          case rel => exact ⟨i + 2, ts ++ [(3, none0)], by go_num, RN.out⟩
        · have S5 := Lib.hid (show SInv w (w1.setCell ⟨P, 0, none⟩ (.int .i64 2)) s g' (i + 1) P u4 ts (2, none0) from
            Here.fin (t := (2, none0)) (H1.out.kind 2) hi (by unfold tokAt; rw [if_pos h42, hl, if_neg hn]; rfl) (by rw [UH.out]; exact X3.out))
          rw [h42] at hbt
          clear h42
          by_cases hn1 : i + 1 < s.size
          · have d1 : (i : Int) + 1 < (s.size : Int) := by omega
            have hb1 := bt_get s (i + 1) hn1
            have t1 : (((bt s.data.toList (i + 1) : Nat) : Int) == 42) = false := by simp; omega
            have hq4 : ((i : Int) + 1).toNat = i + 1 := by omega
            clear hn
            have BP := S5.out.1
            have SV := Lib.hid S5.out.2.1
            have SB := Lib.hid S5.out.2.2.1.size
            go_wp2_with (first | (at_builtin; refine wpList_pushM _ rfl (.tmp 79) (.tmp 81) 64 rfl w.heap.size 76 (.agg (pieceA 0 noBytes)) 257 264 encP Try.underlying64 Try.info76 (pieceA_size _ _) (by omega) encP_len u4 ts (2, none0) U rfl SV.out UH.out _ rfl rfl (pieceA 2 noBytes) (pieceA_list _ _) (encP_one _) (by omega) (by unfold maxLen; omega) SB.out ?_; intro g cap w8 hown hgr hb8) | (refine wpList_loadP rfl _ rfl P rfl 2 noBytes BP ?_) | (refine wpList_litP rfl _ rfl 2 noBytes rfl ?_))
            have RN := Lib.hid (RInv.next S5.out hown hb8)
            clear hown hgr hb8
            go_roundg g'
            case measure => omega
            case rel => exact ⟨i + 1, ts ++ [(2, none0)], by go_num, RN.out⟩
          · have d1 : ¬ (i : Int) + 1 < (s.size : Int) := by omega
            clear hn
            have BP := S5.out.1
            have SV := Lib.hid S5.out.2.1
            have SB := Lib.hid S5.out.2.2.1.size
            go_wp2_with (first | (at_builtin; refine wpList_pushM _ rfl (.tmp 79) (.tmp 81) 64 rfl w.heap.size 76 (.agg (pieceA 0 noBytes)) 257 264 encP Try.underlying64 Try.info76 (pieceA_size _ _) (by omega) encP_len u4 ts (2, none0) U rfl SV.out UH.out _ rfl rfl (pieceA 2 noBytes) (pieceA_list _ _) (encP_one _) (by omega) (by unfold maxLen; omega) SB.out ?_; intro g cap w8 hown hgr hb8) | (refine wpList_loadP rfl _ rfl P rfl 2 noBytes BP ?_) | (refine wpList_litP rfl _ rfl 2 noBytes rfl ?_))
            have RN := Lib.hid (RInv.next S5.out hown hb8)
            clear hown hgr hb8
            go_roundg g'
            case measure => omega
            case rel => exact ⟨i + 1, ts ++ [(2, none0)], by go_num, RN.out⟩
      have t42 : (((bt s.data.toList i : Nat) : Int) == 42) = false := by simp; omega
      have H42 := Lib.hid h42
      clear h42
      by_cases h63 : bt s.data.toList i = 63
      · have TA := Lib.hid (show tokAt s.data.toList i = some ((1, fun b => decide (b ≠ 47)), i + 1) from by unfold tokAt; rw [if_neg H42.out, if_pos h63])
        rw [h63] at hbt
        clear h63 t42
        go_wp2_with fail
        go_loopg [7] 256 (fun g s7 wr => ∃ b : Nat, b ≤ 256 ∧ 256 - b ≤ g ∧ s7 = .int .i64 b ∧ Here w wr P u4 ts 1 (fun y => decide (y < b) && decide (y ≠ 47)))
        case atStart => exact ⟨0, by omega, by omega, rfl, H1.out.congr fun b _ => by simp [noBytes]⟩
        case round =>
          obtain ⟨b, hb1, hb2, rfl, hH⟩ := hrel
          have H6 := Lib.hid hH
          clear hH H1 c0P frP
          by_cases hbh : b < 256
          · have BO := H6.out.1
            have cb : wr.cell? ⟨P, 1 + b, none⟩ = some (.bool false) := by rw [BO.cell, pieceA_get _ _ _ hbh]; simp
            have fr := BO.free (1 + b)
            have ne : ((b : Int) != 47) = decide (b ≠ 47) := by rw [Bool.eq_iff_iff]; simp [bne]; omega
            have NE := Lib.hid ne
            have H7 := Lib.hid (show ∀ x, x = decide (b ≠ 47) → Here w (wr.setCell ⟨P, 1 + b, none⟩ (.bool x)) P u4 ts 1 (fun y => decide (y < b + 1) && decide (y ≠ 47)) from by
              intro x hx
              refine (H6.out.byte b x hbh).congr fun y _ => ?_
              by_cases hy : y = b
              · subst hy; simp [hx]
              · have : decide (y < b + 1) = decide (y < b) := by rw [Bool.eq_iff_iff]; simp; omega
                simp only [if_neg hy, this])
            clear BO ne
            go_wp2_with fail
            go_roundg (256 - (b + 1))
            case measure => omega
            case rel => exact ⟨b + 1, by omega, by omega, by go_num, H7.out _ NE.out⟩
          · have S5 := Lib.hid (show SInv w wr s g' (i + 1) P u4 ts (1, fun b => decide (b ≠ 47)) from by
              have hb' : b = 256 := by omega
              have hc := H6.out.congr (g := fun b => decide (b ≠ 47)) (fun y hy => by
                have : decide (y < b) = true := by simp; omega
                rw [this, Bool.true_and])
              exact Here.fin (t := (1, fun b => decide (b ≠ 47))) hc hi TA.out (by rw [UH.out]; exact X3.out))
            clear H6
            have BP := S5.out.1
            have SV := Lib.hid S5.out.2.1
            have SB := Lib.hid S5.out.2.2.1.size
            go_wp2_with (first | (at_builtin; refine wpList_pushM _ rfl (.tmp 79) (.tmp 81) 64 rfl w.heap.size 76 (.agg (pieceA 0 noBytes)) 257 264 encP Try.underlying64 Try.info76 (pieceA_size _ _) (by omega) encP_len u4 ts (1, fun b => decide (b ≠ 47)) U rfl SV.out UH.out _ rfl rfl (pieceA 1 (fun b => decide (b ≠ 47))) (pieceA_list _ _) (encP_one _) (by omega) (by unfold maxLen; omega) SB.out ?_; intro g cap w8 hown hgr hb8) | (refine wpList_loadP rfl _ rfl P rfl 1 (fun b => decide (b ≠ 47)) BP ?_) | (refine wpList_litP rfl _ rfl 1 (fun b => decide (b ≠ 47)) rfl ?_))
            have RN := Lib.hid (RInv.next S5.out hown hb8)
            clear hown hgr hb8
            go_roundg g'
            case measure => omega
            case rel => exact ⟨i + 1, ts ++ [(1, fun b => decide (b ≠ 47))], by go_num, RN.out⟩
      have t63 : (((bt s.data.toList i : Nat) : Int) == 63) = false := by simp; omega
      have H63 := Lib.hid h63
      clear h63
      by_cases h91 : bt s.data.toList i = 91
      · have TA := Lib.hid (show tokAt s.data.toList i = (setAt s.data.toList (i + 1)).map (fun x => ((1, x.1), x.2)) from by unfold tokAt; rw [if_neg H42.out, if_neg H63.out, if_pos h91])
        rw [h91] at hbt
        clear h91 t42 t63
        have SC := Lib.hid (set_calls w1 s ((i : Int) + 1) (i + 1) (by omega) hs (by omega))
        go_wp2_with fail
        refine SC.out.mono ?_
        rintro e w5 ⟨hb5, hm⟩
        have H5 := Lib.hid (H1.out.below hb5)
        clear H1 SC c0P frP hb5
        cases hset : setAt s.data.toList (i + 1) with
        | none =>
          rw [hset] at hm
          obtain ⟨k0, f0, rfl⟩ := hm
          have PN := Lib.hid (show parse s.data.toList = none from by rw [X3.out.2.2, toks_none HIL.out (by rw [TA.out, hset]; rfl)]; rfl)
          clear hset
          go_wp2_with (first | (refine wpList_newP rfl rfl ?_) | (refine wpList_storeP rfl _ _ rfl w5.heap.size rfl k0 0 f0 noBytes rfl (Blk.new _ _ _) ?_; intro w6 hB6 hO6; have X6 := Lib.hid (show Below w.heap.size w w6 from (H5.out.2.2.1.alloc H5.out.2.2.1.size _).trans (hO6.below H5.out.2.2.1.size (by rw [World.size_alloc]; have := H5.out.2.2.1.size; omega))); clear hB6 hO6))
          go_ret2
          exact ReadEnd.fail X6.out PN.out
        | some xx =>
          obtain ⟨f, j⟩ := xx
          have hle := setAt_le hset (by rw [hl]; omega)
          rw [hl] at hle
          rw [hset] at hm
          simp only at hm
          subst hm
          have TA2 := Lib.hid (show tokAt s.data.toList i = some ((1, f), j) from by rw [TA.out, hset]; rfl)
          clear hset TA
          have hj0 : ((j : Int) == 0) = false := by simp; omega
          go_upto_if 76 with (first | (refine wpList_newP rfl rfl ?_) | (refine wpList_storeP rfl _ _ rfl w5.heap.size rfl 1 0 f noBytes rfl (Blk.new _ _ _) ?_; intro w6 hB6 hO6; have H6 := Lib.hid (H5.out.below (((Below.refl w5.heap.size w5).alloc (Nat.le_refl _) (.cells (pieceA 0 noBytes) 76)).trans (hO6.below (Nat.le_refl _) (by simp)))); have B6 := hB6; clear hB6 hO6))
          generalize w5.heap.size = Z at *
          clear H5
          clear w5
          have BP6 := H6.out.1
          go_wp2_with (first | (refine wpList_loadP rfl _ rfl Z rfl 1 f B6 ?_) | (refine wpList_storeP rfl _ _ rfl P rfl 1 1 f noBytes rfl BP6 ?_; intro w7 hB7 hO7; have S5 := Lib.hid (show SInv w w7 s g' j P u4 ts (1, f) from Here.fin (t := (1, f)) (H6.out.only hB7 hO7) hi TA2.out (by rw [UH.out]; exact X3.out)); have BP := S5.out.1; have SV := Lib.hid S5.out.2.1; have SB := Lib.hid S5.out.2.2.1.size; clear hB7 hO7) | (at_builtin; refine wpList_pushM _ rfl (.tmp 79) (.tmp 81) 64 rfl w.heap.size 76 (.agg (pieceA 0 noBytes)) 257 264 encP Try.underlying64 Try.info76 (pieceA_size _ _) (by omega) encP_len u4 ts (1, f) U rfl SV.out UH.out _ rfl rfl (pieceA 1 f) (pieceA_list _ _) (encP_one _) (by omega) (by unfold maxLen; omega) SB.out ?_; intro g cap w8 hown hgr hb8) | (refine wpList_loadP rfl _ rfl P rfl 1 f BP ?_) | (refine wpList_litP rfl _ rfl 1 f rfl ?_))
          have RN := Lib.hid (RInv.next S5.out hown hb8)
          clear hown hgr hb8
          go_roundg g'
          case measure => omega
          case rel => exact ⟨j, ts ++ [(1, f)], by go_num, RN.out⟩
      · have TA := Lib.hid (show tokAt s.data.toList i = (item s.data.toList i).map (fun x => ((1, fun b => decide (b = x.1)), x.2)) from by unfold tokAt; rw [if_neg H42.out, if_neg H63.out, if_neg h91])
        have t91 : (((bt s.data.toList i : Nat) : Int) == 91) = false := by simp; omega
        clear h91
        have IC := Lib.hid (item_calls w1 s (i : Int) i rfl hs (by omega))
        unfold itemEnd at IC
        cases hit : item s.data.toList i with
        | none =>
          rw [hit] at IC
          have PN := Lib.hid (show parse s.data.toList = none from by rw [X3.out.2.2, toks_none HIL.out (by rw [TA.out, hit]; rfl)]; rfl)
          clear hit
          go_wp2_with fail
          refine IC.out.mono ?_
          rintro e w5 ⟨rfl, hd⟩
          have X5 := Lib.hid (H1.out.2.2.1.trans (hd.below _))
          clear hd
          go_wp2_with fail
          go_ret2
          exact ReadEnd.fail X5.out PN.out
        | some xx =>
          obtain ⟨b, j⟩ := xx
          have hle := item_le hit
          rw [hl] at hle
          rw [hit] at IC
          have TA2 := Lib.hid (show tokAt s.data.toList i = some ((1, fun y => decide (y = b)), j) from by rw [TA.out, hit]; rfl)
          clear hit TA
          have hj0 : ((j : Int) == 0) = false := by simp; omega
          go_wp2_with fail
          refine IC.out.mono ?_
          rintro e w5 ⟨rfl, hd⟩
          have H5 := Lib.hid (H1.out.drawn hd)
          clear hd H1 IC CP c0P frP
          have BP0 := H5.out.1
          have cb : w5.cell? ⟨P, 1 + b, none⟩ = some (.bool false) := by rw [BP0.cell, pieceA_get _ _ _ hle.2.2]; rfl
          have fr := BP0.free (1 + b)
          have hb256 := hle.2.2
          have S5 := Lib.hid (show SInv w (w5.setCell ⟨P, 1 + b, none⟩ (.bool true)) s g' j P u4 ts (1, fun y => decide (y = b)) from
            Here.fin (t := (1, fun y => decide (y = b))) ((H5.out.byte b true hle.2.2).congr fun y _ => by by_cases hy : y = b <;> simp [hy, noBytes]) hi TA2.out (by rw [UH.out]; exact X3.out))
          clear BP0
          have BP := S5.out.1
          have SV := Lib.hid S5.out.2.1
          have SB := Lib.hid S5.out.2.2.1.size
          go_wp2_with (first | (at_builtin; refine wpList_pushM _ rfl (.tmp 79) (.tmp 81) 64 rfl w.heap.size 76 (.agg (pieceA 0 noBytes)) 257 264 encP Try.underlying64 Try.info76 (pieceA_size _ _) (by omega) encP_len u4 ts (1, fun y => decide (y = b)) U rfl SV.out UH.out _ rfl rfl (pieceA 1 (fun y => decide (y = b))) (pieceA_list _ _) (encP_one _) (by omega) (by unfold maxLen; omega) SB.out ?_; intro g cap w8 hown hgr hb8) | (refine wpList_loadP rfl _ rfl P rfl 1 (fun y => decide (y = b)) BP ?_) | (refine wpList_litP rfl _ rfl 1 (fun y => decide (y = b)) rfl ?_))
          have RN := Lib.hid (RInv.next S5.out hown hb8)
          clear hown hgr hb8
          go_roundg g'
          case measure => omega
          case rel => exact ⟨j, ts ++ [(1, fun y => decide (y = b))], by go_num, RN.out⟩
    · have hlt : ¬ (i : Int) < (s.size : Int) := by omega
      have RE := Lib.hid (show ReadEnd w s (.returned (.tuple #[u4, .bool true])) wr from by
        obtain ⟨x1, x2, x3, x4, x5, x6⟩ := R.out
        have hp : parse s.data.toList = some ts := by rw [x6, toks_end (by omega) (by rw [hl]; exact hi)]; simp
        unfold ReadEnd; rw [hp]; exact ⟨x2, u4, rfl, x1⟩)
      go_wp2_with fail
      go_ret2
      exact RE.out
end Go.Proofs.Ytejeepmcoafdcaa
