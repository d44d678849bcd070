/-
  The walks of a match's state: begin, skip, step, done; and of a token's has.
-/
import Derived.Test.YtejcpngmllciiaaCompile
import Derived.Laws.OwnMore
namespace Go.Proofs.Ytejcpngmllciiaa
open Go.RowKit
set_option linter.unusedVariables false

/-- a block of bools -/
def boolsA (m : Nat) (c : Nat → Bool) : Array Value := ((List.range m).map fun i => Value.bool (c i)).toArray
theorem boolsA_size (m : Nat) (c : Nat → Bool) : (boolsA m c).size = m := by simp [boolsA]
theorem boolsA_get (m : Nat) (c : Nat → Bool) (i : Nat) (h : i < m) : (boolsA m c)[i]? = some (.bool (c i)) := by simp [boolsA, h]
theorem boolsA_ext {m : Nat} {c d : Nat → Bool} (h : ∀ i, i < m → c i = d i) : boolsA m c = boolsA m d := by
  unfold boolsA
  congr 1
  refine List.map_congr_left fun i hi => ?_
  rw [h i (List.mem_range.1 hi)]
theorem boolsA_set (m : Nat) (c : Nat → Bool) (i : Nat) (x : Bool) : (boolsA m c).setIfInBounds i (.bool x) = boolsA m (fun y => if y = i then x else c y) := by
  apply Array.ext_getElem?
  intro j
  rw [Array.getElem?_setIfInBounds]
  by_cases hj : j < m
  · rw [boolsA_get m (fun y => if y = i then x else c y) j hj]
    by_cases h : i = j
    · subst h; rw [if_pos rfl, if_pos (by rw [boolsA_size]; exact hj)]; simp
    · rw [if_neg h, boolsA_get _ _ _ hj, if_neg (by omega)]
  · rw [Array.getElem?_eq_none (xs := boolsA m (fun y => if y = i then x else c y)) (by rw [boolsA_size]; omega)]
    by_cases h : i = j
    · subst h; rw [if_pos rfl, if_neg (by rw [boolsA_size]; exact hj)]
    · rw [if_neg h, Array.getElem?_eq_none (by rw [boolsA_size]; omega)]
theorem Blk.apart {w : World} {a b : Nat} {cs ds : Array Value} {T U : TypeId} (h : Blk w a cs T) (k : Blk w b ds U) (hT : T ≠ U) : a ≠ b := by
  intro e
  subst e
  unfold Blk at h k
  rw [h] at k
  cases k
  exact hT rfl

/-- a match's state at X: the tokens, and the places on at o -/
def Run (w : World) (B X : Nat) (v : Value) (us : List ITok) (o n : Nat) (c : Nat → Bool) : Prop :=
  Blk w X #[v, .slice (some ⟨o, 0, none⟩) (n + 1) (n + 1)] 65 ∧ OwnM w B 54 5 encI v us ∧ us.length = n ∧ Blk w o (boolsA (n + 1) c) 4 ∧ n ≤ 5000
theorem Run.put {w w' : World} {B X : Nat} {v : Value} {us : List ITok} {o n : Nat} {c d : Nat → Bool} (h : Run w B X v us o n c) (hb : Blk w' o (boolsA (n + 1) d) 4) (ho : Only o w w') : Run w' B X v us o n d :=
  ⟨h.1.only ho (h.1.apart h.2.2.2.1 (by decide)), h.2.1.keep fun g m cc hv => by
      subst hv
      exact ho.block g h.2.1.len.2.2.2.2 (OwnM.ne h.2.1 h.2.2.2.1 (by decide)), h.2.2.1, hb, h.2.2.2.2⟩
theorem Run.cells {w : World} {B X : Nat} {v : Value} {us : List ITok} {o n : Nat} {c : Nat → Bool} (h : Run w B X v us o n c) : w.cell? ⟨X, 0, none⟩ = some v ∧ w.cell? ⟨X, 1, none⟩ = some (.slice (some ⟨o, 0, none⟩) (n + 1) (n + 1)) := ⟨h.1.cell 0, h.1.cell 1⟩
theorem Run.on {w : World} {B X : Nat} {v : Value} {us : List ITok} {o n : Nat} {c : Nat → Bool} (h : Run w B X v us o n c) (i : Nat) (hi : i ≤ n) : w.cell? ⟨o, i, none⟩ = some (.bool (c i)) := by
  rw [h.2.2.2.1.cell, boolsA_get _ _ _ (by omega)]
theorem Run.congr {w : World} {B X : Nat} {v : Value} {us : List ITok} {o n : Nat} {c d : Nat → Bool} (h : Run w B X v us o n c) (e : ∀ i, i ≤ n → c i = d i) : Run w B X v us o n d := by
  unfold Run at *; rw [← boolsA_ext (fun i hi => e i (by omega))]; exact h
theorem Run.alloc {w : World} {B X : Nat} {v : Value} {us : List ITok} {o n : Nat} {c : Nat → Bool} (h : Run w B X v us o n c) (ob : Obj) : Run (w.alloc ob) B X v us o n c := h.put (h.2.2.2.1.alloc ob) ((Only.refl _ _).alloc ob)
theorem Run.drawn {w w' : World} {B X : Nat} {v : Value} {us : List ITok} {o n : Nat} {c : Nat → Bool} (h : Run w B X v us o n c) (hd : Drawn w w') : Run w' B X v us o n c := h.put (h.2.2.2.1.drawn hd) (Only.drawn hd)
/-- the token at i -/
def tk (us : List ITok) (i : Nat) : ITok := us.getD i (0, none0)
theorem Run.tok {w : World} {B X : Nat} {v : Value} {us : List ITok} {o n : Nat} {c : Nat → Bool} (h : Run w B X v us o n c) (i : Nat) (hi : i < n) :
    ∃ g cap, v = .slice (some ⟨g, 0, none⟩) n cap ∧ n ≤ cap ∧ cap ≤ maxLen ∧ g < w.heap.size ∧ ∀ i, i < n → (w.cell? ⟨g, i * 5, none⟩ = some (.int .i64 (tk us i).1) ∧ w.cell? ⟨g, i * 5 + 1, none⟩ = some (.int .u64 (word (tk us i).2 0 : Nat)) ∧ w.cell? ⟨g, i * 5 + 2, none⟩ = some (.int .u64 (word (tk us i).2 1 : Nat)) ∧ w.cell? ⟨g, i * 5 + 3, none⟩ = some (.int .u64 (word (tk us i).2 2 : Nat)) ∧ w.cell? ⟨g, i * 5 + 4, none⟩ = some (.int .u64 (word (tk us i).2 3 : Nat))) := by
  obtain ⟨_, ho, hn, _, _⟩ := h
  subst hn
  rcases ho.form with ⟨_, rfl⟩ | ⟨g, cap, rfl⟩
  · simp at hi
  · have hl := ho.len
    refine ⟨g, cap, rfl, hl.2.1, hl.2.2.1, hl.2.2.2.2, fun i hi => ?_⟩
    have ht : tk us i = us[i] := by simp [tk, List.getD, List.getElem?_eq_getElem hi]
    rw [ht]
    have hc := fun j hj => ho.cell encI_len i hi j hj
    refine ⟨?_, ?_, ?_, ?_, ?_⟩
    · have := hc 0 (by omega); rw [Nat.add_zero] at this; rw [this]; rfl
    · rw [hc 1 (by omega)]; rfl
    · rw [hc 2 (by omega)]; rfl
    · rw [hc 3 (by omega)]; rfl
    · rw [hc 4 (by omega)]; rfl
theorem Run.len {w : World} {B X : Nat} {v : Value} {us : List ITok} {o n : Nat} {c : Nat → Bool} (h : Run w B X v us o n c) : ∃ ao cap, v = .slice ao n cap := by
  obtain ⟨_, ho, hn, _, _⟩ := h
  subst hn
  rcases ho.form with ⟨rfl, rfl⟩ | ⟨g, cap, rfl⟩
  · exact ⟨_, _, rfl⟩
  · exact ⟨_, _, rfl⟩

/-- after k rounds of skip -/
def skipTo (s q : Nat → Bool) (k : Nat) : Nat → Bool := fun i => if i ≤ k then skipC s q i else q i
theorem skipTo_zero (s q : Nat → Bool) : skipTo s q 0 = q := by
  funext i; unfold skipTo
  by_cases h : i ≤ 0
  · obtain rfl : i = 0 := by omega
    simp [skipC]
  · rw [if_neg h]
theorem skipTo_at (s q : Nat → Bool) (k : Nat) : skipTo s q k k = skipC s q k := by simp [skipTo]
theorem skipTo_next (s q : Nat → Bool) (k : Nat) : skipTo s q (k + 1) = fun i => if i = k + 1 then (q (k + 1) || (skipC s q k && s k)) else skipTo s q k i := by
  funext i
  by_cases h : i = k + 1
  · subst h; simp [skipTo, skipC]
  · rw [if_neg h]
    unfold skipTo
    by_cases h2 : i ≤ k
    · rw [if_pos h2, if_pos (by omega)]
    · rw [if_neg h2, if_neg (by omega)]
def starI (us : List ITok) (i : Nat) : Bool := decide ((tk us i).1 ≠ 0)

set_option maxHeartbeats 2000000 in
theorem skip_calls (w : World) (B X : Nat) (v : Value) (us : List ITok) (o n : Nat) (q : Nat → Bool) (h : Run w B X v us o n q) :
    Calls Try.prog 32 #[.pointer (some ⟨X, 0, none⟩)] w fun e w' => e = .returned (.tuple #[]) ∧ Run w' B X v us o n (skipC (starI us) q) ∧ Only o w w' := by
  obtain ⟨x0, x1⟩ := h.cells
  obtain ⟨ao, cap, rfl⟩ := h.len
  have hn := h.2.2.2.2
  have H := Lib.hid h
  clear h
  go_enter Try.func32, Try.ntmps32
  go_wp2_with fail
  go_loopg [2, 3, 9] n (fun g s2 s3 s9 wr => ∃ k : Nat, k ≤ n ∧ n - k ≤ g ∧ s9 = .int .i64 k ∧ Run wr B X (.slice ao n cap) us o n (skipTo (starI us) q k) ∧ Only o w wr)
  case atStart => exact ⟨0, Nat.zero_le _, by omega, rfl, by rw [skipTo_zero]; exact H.out, Only.refl _ _⟩
  case round =>
    obtain ⟨k, hk, hg, rfl, hR, hO⟩ := hrel
    have R := Lib.hid hR
    have O := Lib.hid hO
    clear hR hO H x0 x1
    by_cases hlt : k < n
    · obtain ⟨g, cap', hv, hc1, hc2, hgl, hcs⟩ := R.out.tok k hlt
      cases hv
      obtain ⟨d0, d1, d2, d3, d4⟩ := hcs k hlt
      clear hcs
      generalize hkd : (tk us k).1 = kk at *
      have hst : starI us k = decide (kk ≠ 0) := by unfold starI; rw [hkd]
      have ST := Lib.hid hst
      clear hst hkd
      obtain ⟨y0, y1⟩ := R.out.cells
      have z0 := R.out.on k (by omega)
      have z1 := R.out.on (k + 1) (by omega)
      rw [skipTo_at] at z0
      have BX := R.out.1.lt
      have BO := R.out.2.2.2.1.lt
      have fro := fun i => R.out.2.2.2.1.free i
      have R2 := Lib.hid (show ∀ x, x = (q (k + 1) || (skipC (starI us) q k && starI us k)) → ∀ wz, Run wz B X (.slice (some ⟨g, 0, none⟩) n cap) us o n (skipTo (starI us) q k) → Run (wz.setCell ⟨o, k + 1, none⟩ (.bool x)) B X (.slice (some ⟨g, 0, none⟩) n cap) us o n (skipTo (starI us) q (k + 1)) from
        fun x hx wz hz => hz.put (by rw [skipTo_next, ← hx, ← boolsA_set]; exact hz.2.2.2.1.set _ _) ((Only.refl _ _).set _ _))
      have R3 := Lib.hid (show (q (k + 1) || (skipC (starI us) q k && starI us k)) = skipTo (starI us) q k (k + 1) → ∀ wz, Run wz B X (.slice (some ⟨g, 0, none⟩) n cap) us o n (skipTo (starI us) q k) → Run wz B X (.slice (some ⟨g, 0, none⟩) n cap) us o n (skipTo (starI us) q (k + 1)) from
        fun hx wz hz => hz.congr fun i _ => by
          rw [skipTo_next]
          by_cases hi : i = k + 1
          · subst hi; simp [hx]
          · simp [hi])
      have Q1 := Lib.hid (show skipTo (starI us) q k (k + 1) = q (k + 1) from by unfold skipTo; rw [if_neg (by omega)])
      generalize skipTo (starI us) q k (k + 1) = old at *
      generalize hsc : skipC (starI us) q k = sc at *
      clear hsc
      cases sc with
      | false =>
        have RF := Lib.hid (R3.out (by rw [← Q1.out]; simp))
        go_wp2_with fail
        go_roundg (n - (k + 1))
        case measure => omega
        case rel => exact ⟨k + 1, by omega, by omega, by go_num, RF.out _ (R.out.alloc _), O.out.alloc _⟩
      | true =>
        by_cases hk0 : kk = 0
        · have RF := Lib.hid (R3.out (by rw [← Q1.out, ST.out, hk0]; simp))
          subst hk0
          go_wp2_with fail
          go_roundg (n - (k + 1))
          case measure => omega
          case rel => exact ⟨k + 1, by omega, by omega, by go_num, RF.out _ (R.out.alloc _), O.out.alloc _⟩
        · have RF := Lib.hid (R2.out true (by rw [ST.out]; simp [hk0]))
          have t1 : (kk != 0) = true := by simp [bne, hk0]
          replace hk0 := Lib.hid hk0
          go_wp2_with fail
          go_roundg (n - (k + 1))
          case measure => omega
          case rel => first | exact ⟨k + 1, by omega, by omega, by go_num, RF.out _ (R.out.alloc _), (O.out.alloc _).set _ _⟩ | exact ⟨k + 1, by omega, by omega, by go_num, (RF.out _ R.out).alloc _, (O.out.set _ _).alloc _⟩
    · obtain rfl : k = n := by omega
      have E := Lib.hid (show Run wr B X (.slice ao k cap) us o k (skipC (starI us) q) from R.out.congr fun i hi => by simp [skipTo, hi])
      go_wp2_with fail
      go_end0
      exact ⟨rfl, E.out, O.out⟩

theorem done_calls (w : World) (B X : Nat) (v : Value) (us : List ITok) (o n : Nat) (q : Nat → Bool) (h : Run w B X v us o n q) :
    Calls Try.prog 24 #[.pointer (some ⟨X, 0, none⟩)] w fun e w' => e = .returned (.bool (q n)) ∧ Drawn w w' := by
  obtain ⟨x0, x1⟩ := h.cells
  obtain ⟨ao, cap, rfl⟩ := h.len
  have z := h.on n (Nat.le_refl _)
  have hn := h.2.2.2.2
  clear h
  have h1 : (0 : Int) ≤ (n : Int) := by omega
  have h2 : (n : Int) < ((n + 1 : Nat) : Int) := by omega
  have h3 : (n : Int) < (n : Int) + 1 := by omega
  go_enter Try.func24, Try.ntmps24
  go_wp2_with fail
  go_quiet (fail)
  all_goals go_wp2_with fail
  all_goals go_ret
  all_goals exact ⟨rfl, ⟨_, rfl⟩⟩

theorem has_calls (w : World) (T o : Nat) (f : Nat → Bool) (x : Int) (b : Nat) (hx : x = b) (hb : b < 256) (h : ∀ j, j < 4 → w.cell? ⟨T, o + 1 + j, none⟩ = some (.int .u64 (word f j : Nat))) :
    Calls Try.prog 33 #[.pointer (some ⟨T, o, none⟩), .int .u8 x] w fun e w' => e = .returned (.bool (f b)) ∧ w' = w := by
  subst hx
  have hj : b / 64 < 4 := by omega
  have c := h (b / 64) hj
  clear h
  have ht := bit_test (word f (b / 64)) (b % 64) (word_lt _ _)
  have hw : (word f (b / 64)).testBit (b % 64) = f b := by
    rw [word_bit, show 64 * (b / 64) + b % 64 = b from by omega]
    simp; omega
  rw [hw] at ht
  generalize word f (b / 64) = W at *
  have HT := Lib.hid ht
  clear ht hw
  go_enter Try.func33, Try.ntmps33
  go_wp2_with fail
  go_ret
  exact ⟨by rw [← HT.out]; rfl, rfl⟩
end Go.Proofs.Ytejcpngmllciiaa
