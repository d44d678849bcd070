/-
  The walks of compile and Check: every pattern.
-/
import Derived.Test.YtejeepmcoafdcaaToken
import Derived.Test.YtejeepmcoafdcaaMany
namespace Go.Proofs.Ytejeepmcoafdcaa
open Go.RowKit
set_option linter.unusedVariables false

/-- a token in memory: its kind as the program has it, and its set -/
abbrev ITok := Int × (Nat → Bool)
def encI (p : ITok) : List Value := (tokCells p.1 p.2).toList
theorem encI_len (p : ITok) : (encI p).length = 5 := rfl
theorem encI_one (p : ITok) : ∀ u ∈ encI p, u.oneCell' = true := by
  intro u hu
  simp [encI, tokCells] at hu
  rcases hu with rfl | rfl | rfl | rfl | rfl <;> rfl
def toI (ts : List Tok) : List ITok := ts.map fun t => ((t.1 : Int) - 1, t.2)
theorem Try.info72 : (Try.prog.info? 72).map (fun i => (i.zero, i.size, i.bytes)) = some (some (.agg #[.int .i64 0, .int .u64 0, .int .u64 0, .int .u64 0, .int .u64 0]), 5, 40) := by kernel_rfl

/-- what compile comes to -/
def CompEnd (w : World) (s : ByteArray) (e : Ending) (w' : World) : Prop :=
  Below w.heap.size w w' ∧ if 4096 < s.size then e = .returned (.tuple #[.slice none 0 0, .int .i64 21]) else
    match parse s.data.toList with
    | none => e = .returned (.tuple #[.slice none 0 0, .int .i64 110])
    | some ts => ∃ v, e = .returned (.tuple #[v, .int .i64 0]) ∧ OwnM w' w.heap.size 72 5 encI v (toI ts)

/-- what a round keeps -/
def PInv (w wr : World) (R : Nat) (s : ByteArray) (g i : Nat) (v : Value) (us : List ITok) (bad : Bool) : Prop :=
  Rdr wr R s (i : Nat) bad ∧ OwnM wr w.heap.size 72 5 encI v us ∧ Below w.heap.size w wr ∧ us.length ≤ s.size + 1 ∧
    (bad = false → i ≤ s.size ∧ us.length ≤ i ∧ s.size < i + g ∧ ∃ ts, us = toI ts ∧ parse s.data.toList = (toks s.data.toList g i).map (ts ++ ·)) ∧ (bad = true → parse s.data.toList = none)
/-- what a round hands on -/
def PNext (s : ByteArray) (g j : Nat) (us : List ITok) : Bool → Prop
  | false => j ≤ s.size ∧ us.length ≤ j ∧ s.size < j + g ∧ ∃ ts, us = toI ts ∧ parse s.data.toList = (toks s.data.toList g j).map (ts ++ ·)
  | true => parse s.data.toList = none
theorem PInv.next {w wr : World} {R : Nat} {s : ByteArray} {g j : Nat} {v : Value} {us : List ITok} {bad : Bool} (h1 : Rdr wr R s (j : Nat) bad) (h2 : OwnM wr w.heap.size 72 5 encI v us) (h3 : Below w.heap.size w wr) (h4 : us.length ≤ s.size + 1) (h5 : PNext s g j us bad) : PInv w wr R s g j v us bad := by
  refine ⟨h1, h2, h3, h4, ?_, ?_⟩
  · intro h; subst h; exact h5
  · intro h; subst h; exact h5

theorem toks_end {p : List UInt8} {g i : Nat} (hg : 0 < g) (h : ¬ i < p.length) : toks p g i = some [] := by
  cases g with
  | zero => omega
  | succ g => unfold toks; rw [if_neg h]
theorem toks_next {p : List UInt8} {g i j : Nat} {t : Tok} (h : i < p.length) (ht : tokAt p i = some (t, j)) : toks p (g + 1) i = (toks p g j).map (t :: ·) := by
  rw [toks, if_pos h, ht]
theorem toks_none {p : List UInt8} {g i : Nat} (h : i < p.length) (ht : tokAt p i = none) : toks p (g + 1) i = none := by
  rw [toks, if_pos h, ht]
theorem tok_uniform {w w' : World} {R : Nat} {s : ByteArray} {a : Nat} {e : Ending} (h : TokEnd w R s a e w') :
    Only R w w' ∧ ∃ (k : Int) (f : Nat → Bool) (j : Nat) (bad : Bool), e = .returned (tokVal k f) ∧ Rdr w' R s (j : Nat) bad ∧ (bad = false → ∃ t : Tok, tokAt s.data.toList a = some (t, j) ∧ k = (t.1 : Int) - 1 ∧ f = t.2) ∧ (bad = true → tokAt s.data.toList a = none) := by
  obtain ⟨ho, hm⟩ := h
  refine ⟨ho, ?_⟩
  cases hi : tokAt s.data.toList a with
  | none => rw [hi] at hm; obtain ⟨k, f, j, h1, h2, _⟩ := hm; exact ⟨k, f, j, true, h1, h2, (fun h => absurd h (by decide)), fun _ => rfl⟩
  | some x => obtain ⟨t, j⟩ := x; rw [hi] at hm; exact ⟨_, _, j, false, hm.1, hm.2, fun _ => ⟨t, rfl, rfl, rfl⟩, fun h => absurd h (by decide)⟩

set_option maxHeartbeats 4000000 in
theorem compile_calls (w : World) (s : ByteArray) (hs : s.size ≤ 140737488351232) :
    Calls Try.prog 27 #[.string s] w (CompEnd w s) := by
  have hl := len_list s
  by_cases hlong : 4096 < s.size
  · have CE := Lib.hid (show ∀ w', Below w.heap.size w w' → CompEnd w s (.returned (.tuple #[.slice none 0 0, .int .i64 21])) w' from fun w' hb => by unfold CompEnd; rw [if_pos hlong]; exact ⟨hb, rfl⟩)
    have hi : (4096 : Int) < (s.size : Int) := by omega
    go_enter Try.func27, Try.ntmps27
    go_wp2
    go_ret2
    exact CE.out _ (Below.refl _ _)
  · have C1 := Lib.hid (show ∀ w', Below w.heap.size w w' → parse s.data.toList = none → CompEnd w s (.returned (.tuple #[.slice none 0 0, .int .i64 110])) w' from fun w' hb hp => by unfold CompEnd; rw [if_neg hlong, hp]; exact ⟨hb, rfl⟩)
    have C2 := Lib.hid (show ∀ w' ts v, Below w.heap.size w w' → parse s.data.toList = some ts → OwnM w' w.heap.size 72 5 encI v (toI ts) → CompEnd w s (.returned (.tuple #[v, .int .i64 0])) w' from fun w' ts v hb hp ho => by unfold CompEnd; rw [if_neg hlong, hp]; exact ⟨hb, v, rfl, ho⟩)
    have hi : ¬ (4096 : Int) < (s.size : Int) := by omega
    have hs4 : s.size ≤ 4096 := by omega
    have P0 := Lib.hid (show PInv w (w.alloc (.cells #[.string s, .int .i64 0, .bool false] 68)) w.heap.size s (s.size + 1) 0 (.slice none 0 0) [] false from
      PInv.next (Blk.new _ _ _) (OwnM.nil _ _ _ _ _) ((Below.refl _ _).alloc (Nat.le_refl _) _) (Nat.zero_le _) ⟨Nat.zero_le _, Nat.le_refl _, by omega, [], rfl, by unfold parse; rw [hl]; simp⟩)
    clear hlong
    go_enter Try.func27, Try.ntmps27
    go_wp2_with fail
    generalize w.alloc (.cells #[.string s, .int .i64 0, .bool false] 68) = w1 at P0 ⊢
    generalize hR : w.heap.size = R at P0 ⊢
    have HR := Lib.hid hR
    clear hR
    go_loopg [5] (s.size + 1) (fun g s5 wr => ∃ (i : Nat) (us : List ITok) (bad : Bool), PInv w wr R s g i s5 us bad)
    case atStart => exact ⟨0, [], false, P0.out⟩
    case round =>
      obtain ⟨i, us, bad, hP⟩ := hrel
      have P := Lib.hid hP
      clear hP P0
      cases bad with
      | true =>
        have MC := Lib.hid (more_is wr R s i true false (by simp) P.out.1)
        go_wp2_with fail
        refine MC.out.mono ?_
        rintro e w3 ⟨rfl, hd⟩
        obtain ⟨c0, c1, c2⟩ := (P.out.1.drawn hd).cells
        have PE := Lib.hid (show CompEnd w s (.returned (.tuple #[.slice none 0 0, .int .i64 110])) w3 from C1.out _ (P.out.2.2.1.trans (hd.below _)) (P.out.2.2.2.2.2 rfl))
        clear hd
        go_wp2
        go_ret2
        exact PE.out
      | false =>
        by_cases hi2 : i < s.size
        · have MC := Lib.hid (more_is wr R s i false true (by simp [hi2]) P.out.1)
          go_wp2_with fail
          refine MC.out.mono ?_
          rintro e w3 ⟨rfl, hd⟩
          have H3 := Lib.hid (P.out.1.drawn hd)
          have O3 := Lib.hid (P.out.2.1.drewN hd)
          have X3 := Lib.hid (P.out.2.2.1.trans (hd.below _))
          have Q := Lib.hid (P.out.2.2.2.2.1 rfl)
          clear hd P MC
          clear wr
          go_wp2_with fail
          refine (token_calls w3 R s i H3.out hs hi2).mono ?_
          intro e w4 hT
          obtain ⟨ho, k, f, j, bad2, rfl, hr4, hb0, hb1⟩ := tok_uniform hT
          have NX : ∃ g', gk = g' + 1 ∧ PNext s g' j (us ++ [(k, f)]) bad2 := by
            obtain ⟨x1, x2, x3, ts, x4, x5⟩ := Q.out
            obtain ⟨g', rfl⟩ : ∃ g', gk = g' + 1 := ⟨gk - 1, by omega⟩
            have hil : i < s.data.toList.length := by rw [hl]; exact hi2
            refine ⟨g', rfl, ?_⟩
            cases bad2 with
            | false =>
              obtain ⟨t, e1, e2, e3⟩ := hb0 rfl
              have hle := tokAt_le e1 hil
              rw [hl] at hle
              refine ⟨by omega, by simp; omega, by omega, ts ++ [t], by rw [x4, e2, e3]; simp [toI], ?_⟩
              rw [x5, toks_next hil e1, Option.map_map]
              congr 1
              funext l
              simp
            | true =>
              show parse s.data.toList = none
              rw [x5, toks_none hil (hb1 rfl)]; rfl
          obtain ⟨g', rfl, hN⟩ := NX
          have N := Lib.hid hN
          have H4 := Lib.hid hr4
          have O4 := Lib.hid (show OwnM w4 w.heap.size 72 5 encI u5 us from O3.out.keep fun g n c hv => by subst hv; exact ho.block g (O3.out.len.2.2.2.2) (OwnM.ne O3.out H3.out (by decide)))
          have X4 := Lib.hid (show Below w.heap.size w w4 from X3.out.trans (ho.below (by rw [HR.out]; exact Nat.le_refl _) X3.out.size))
          have hus : us.length ≤ s.size := by have := Q.out.2.1; omega
          clear ho hT hr4 hb0 hb1 hN H3 O3 X3 Q
          clear w3
          generalize hU : us.length = U at *
          have UH := Lib.hid hU
          clear hU
          unfold tokVal tokCells
          go_wp2_with (at_builtin; refine wpList_pushM w4 rfl (.tmp 12) (.tmp 14) 61 rfl w.heap.size 72 (.agg #[.int .i64 0, .int .u64 0, .int .u64 0, .int .u64 0, .int .u64 0]) 5 40 encI Try.underlying61 Try.info72 rfl (by omega) encI_len u5 us (k, f) U rfl O4.out UH.out _ rfl rfl _ rfl (encI_one _) (by omega) (by unfold maxLen; omega) X4.out.size ?_; intro g cap w5 hown hgr hb5)
          have HR5 := Lib.hid (show Rdr w5 R s (j : Nat) bad2 from by
            have hlt := H4.out.lt
            show w5.heap[R]? = _
            rw [hgr.block R (by rw [World.size_alloc]; exact Nat.lt_succ_of_lt hlt) (O4.out.ownNe H4.out (by decide)), Below.heap_alloc _ _ _ hlt]
            exact H4.out)
          have X5 := Lib.hid (X4.out.trans hb5)
          have O5 := Lib.hid hown
          clear hgr hb5 hown
          go_roundg g'
          case measure => omega
          case rel => exact ⟨j, us ++ [(k, f)], bad2, PInv.next HR5.out O5.out X5.out (by rw [List.length_append, UH.out]; simp; omega) N.out⟩
        · have MC := Lib.hid (more_is wr R s i false false (by simp [hi2]) P.out.1)
          go_wp2_with fail
          refine MC.out.mono ?_
          rintro e w3 ⟨rfl, hd⟩
          obtain ⟨c0, c1, c2⟩ := (P.out.1.drawn hd).cells
          have PE := Lib.hid (show CompEnd w s (.returned (.tuple #[u5, .int .i64 0])) w3 from by
            obtain ⟨x1, x2, x3, ts, x4, x5⟩ := P.out.2.2.2.2.1 rfl
            refine C2.out _ ts _ (P.out.2.2.1.trans (hd.below _)) (by rw [x5, toks_end (by omega) (by rw [hl]; exact hi2)]; simp) ?_
            rw [← x4]; exact P.out.2.1.drewN hd)
          clear hd
          go_wp2
          go_ret2
          exact PE.out

/-- the plain answer of Check -/
def checkErr (l : List UInt8) : Int := if 4096 < l.length then 21 else if (parse l).isNone then 110 else 0
theorem check_calls (w : World) (s : ByteArray) (hs : s.size ≤ 140737488351232) :
    Calls Try.prog 23 #[.string s] w fun e w' => e = .returned (.int .i64 (checkErr s.data.toList)) ∧ Below w.heap.size w w' := by
  have hl := len_list s
  go_enter Try.func23, Try.ntmps23
  go_wp2_with fail
  refine (compile_calls w s hs).mono ?_
  rintro e w1 ⟨hb, hm⟩
  have CE : ∃ v, e = .returned (.tuple #[v, .int .i64 (checkErr s.data.toList)]) := by
    unfold checkErr
    rw [hl]
    by_cases h : 4096 < s.size
    · rw [if_pos h] at hm; exact ⟨.slice none 0 0, by rw [hm]; simp [h]⟩
    · rw [if_neg h] at hm
      cases hp : parse s.data.toList with
      | none => rw [hp] at hm; exact ⟨.slice none 0 0, by rw [hm]; simp [h]⟩
      | some ts => rw [hp] at hm; obtain ⟨v, h1, _⟩ := hm; exact ⟨v, by rw [h1]; simp [h]⟩
  obtain ⟨v, rfl⟩ := CE
  clear hm
  have HB := Lib.hid hb
  clear hb
  generalize hE : checkErr s.data.toList = er at *
  have EH := Lib.hid hE
  clear hE
  go_wp2_with fail
  go_ret
  exact ⟨by rw [EH.out]; rfl, HB.out⟩
end Go.Proofs.Ytejeepmcoafdcaa
