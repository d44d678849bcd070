/-
  The walk of target.Relative: every two lists of texts that are not too great.
-/
import Derived.Test.YthhggganhegfhaaDoorRepeat
import Derived.Test.YthhggganhegfhaaDoorJoinD
namespace Go.Proofs.YthhggganhegfhaaDoor
open Go.RowKit
set_option linter.unusedVariables false

/-- without what both begin with -/
def dropC : List ByteArray → List ByteArray → List ByteArray × List ByteArray
  | a :: f, b :: t => if a = b then dropC f t else (a :: f, b :: t)
  | [], t => ([], t)
  | a :: f, [] => (a :: f, [])
def relL (f t : List ByteArray) : List ByteArray := List.replicate (dropC f t).1.length dotsB ++ (dropC f t).2
/-- what Relative answers -/
def relB (f t : List ByteArray) : ByteArray := if relL f t = [] then ⟨#[46]⟩ else joinB (relL f t)
theorem dropC_nil (t : List ByteArray) : dropC [] t = ([], t) := by simp [dropC]
theorem dropC_nil2 (f : List ByteArray) : dropC f [] = (f, []) := by cases f <;> simp [dropC]
theorem dropC_ne {a b : ByteArray} {f t : List ByteArray} (h : ¬ a = b) : dropC (a :: f) (b :: t) = (a :: f, b :: t) := by simp [dropC, h]
theorem dropC_eq (a : ByteArray) (f t : List ByteArray) : dropC (a :: f) (a :: t) = dropC f t := by simp [dropC]
theorem dropC_tb : ∀ f t : List ByteArray, (dropC f t).1.length ≤ f.length ∧ tbulk (dropC f t).2 ≤ tbulk t
  | [], t => by rw [dropC_nil]; exact ⟨Nat.le_refl _, Nat.le_refl _⟩
  | a :: f, [] => by rw [dropC_nil2]; exact ⟨Nat.le_refl _, Nat.le_refl _⟩
  | a :: f, b :: t => by
    by_cases h : a = b
    · subst h
      rw [dropC_eq]
      have := dropC_tb f t
      simp only [List.length_cons, tbulk]
      omega
    · rw [dropC_ne h]; exact ⟨Nat.le_refl _, Nat.le_refl _⟩
theorem tbulk_app : ∀ xs ys : List ByteArray, tbulk (xs ++ ys) = tbulk xs + tbulk ys
  | [], ys => by simp [tbulk]
  | x :: xs, ys => by simp only [List.cons_append, tbulk, tbulk_app xs ys]; omega
theorem tbulk_rep : ∀ n, tbulk (List.replicate n dotsB) = 3 * n
  | 0 => rfl
  | n + 1 => by
    have : dotsB.size = 2 := rfl
    simp only [List.replicate_succ, tbulk, tbulk_rep n, this]; omega
theorem relL_tb (f t : List ByteArray) : tbulk (relL f t) ≤ 3 * f.length + tbulk t := by
  have := dropC_tb f t
  unfold relL
  rw [tbulk_app, tbulk_rep]
  omega
theorem own_of_rep {w : World} {B N n : Nat} (h : Blk w N (repC n n) 9) (hB : B ≤ N) (hm : n ≤ maxLen) : Own w B 9 strE (.slice (some ⟨N, 0, none⟩) n n) (List.replicate n dotsB) := by
  have hl : (List.replicate n dotsB).length = n := by simp
  unfold Own
  rw [hl]
  refine ⟨by simp, Or.inr ⟨N, n, repC n n, rfl, hB, h, Nat.le_refl _, hm, by rw [repC_size (Nat.le_refl _)]; omega, ?_⟩⟩
  simp [repC]

/-- the rest of what is read, wherever it is said to lie if nothing is left -/
theorem rest_rd {w : World} {b o c : Nat} {x : ByteArray} {xs : List ByteArray} (h1 : (x :: xs).length ≤ c) (h2 : c ≤ maxLen) (hc : ∀ i (h : i < (x :: xs).length), w.cell? ⟨b, o + i, none⟩ = some (strE ((x :: xs)[i]))) :
    ∀ (a : Nat) (n : Nat), n = xs.length → (n = 0 ∨ a = o + 1) → Rd w strE (.slice (some ⟨b, a, none⟩) n (c - 1)) xs := by
  intro a n hn ha
  subst hn
  simp only [List.length_cons] at h1
  refine ⟨some ⟨b, a, none⟩, c - 1, rfl, by omega, by omega, (fun h => by cases h), fun hne => ⟨b, a, rfl, fun i hi => ?_⟩⟩
  rcases ha with h0 | rfl
  · omega
  · have := hc (i + 1) (by simp; omega)
    rw [show o + 1 + i = o + (i + 1) by omega, this]
    simp

set_option maxHeartbeats 8000000 in
theorem relative_calls (v1 v2 : Value) (f t : List ByteArray) (w : World) (h1 : Rd w strE v1 f) (h2 : Rd w strE v2 t) (hk : 3 * f.length + tbulk t ≤ 4194304) :
    Calls Tryd.prog 28 #[v1, v2] w fun e w' => e = .returned (.string (relB f t)) ∧ Below w.heap.size w w' := by
  have hrel := relL_tb f t
  obtain ⟨RR, hR⟩ : ∃ RR, RR = relB f t := ⟨_, rfl⟩
  rw [← hR]
  have HR : Hid (RR = (if List.replicate (dropC f t).1.length dotsB ++ (dropC f t).2 = [] then ⟨#[46]⟩ else joinB (List.replicate (dropC f t).1.length dotsB ++ (dropC f t).2))) := Lib.hid hR
  have HT : Hid (tbulk (List.replicate (dropC f t).1.length dotsB ++ (dropC f t).2) ≤ 4194304) := Lib.hid (Nat.le_trans hrel hk)
  clear hR hrel
  have R1 := Lib.hid h1
  have R2 := Lib.hid h2
  obtain ⟨ao1, c1, rfl⟩ := h1.any
  obtain ⟨ao2, c2, rfl⟩ := h2.any
  have hfl : f.length ≤ 4194304 := by omega
  have htl : t.length ≤ 4194304 := by have := tbulk_len t; omega
  clear h1 h2 hk
  obtain ⟨n1, hn1⟩ : ∃ n1, n1 = f.length := ⟨_, rfl⟩
  obtain ⟨n2, hn2⟩ : ∃ n2, n2 = t.length := ⟨_, rfl⟩
  rw [← hn1] at R1 hfl ⊢
  rw [← hn2] at R2 htl ⊢
  have HN1 := Lib.hid hn1
  have HN2 := Lib.hid hn2
  clear hn1 hn2
  go_enter Tryd.func28, Tryd.ntmps28
  go_wp2_with fail
  go_loopg [0, 1] n1 (fun g s0 s1 wr => ∃ (f' t' : List ByteArray) (a1 a2 : Option Addr) (m1 m2 d1 d2 : Nat), s0 = .slice a1 m1 d1 ∧ s1 = .slice a2 m2 d2 ∧ m1 ≤ g ∧ m1 ≤ 4194304 ∧ m2 ≤ 4194304 ∧ Hid (m1 = f'.length) ∧ Hid (m2 = t'.length) ∧ Hid (Rd w strE (.slice a1 m1 d1) f') ∧ Hid (Rd w strE (.slice a2 m2 d2) t') ∧ Hid (dropC f t = dropC f' t') ∧ Hid (Drawn w wr))
  case atStart => exact ⟨f, t, ao1, ao2, n1, n2, c1, c2, rfl, rfl, by omega, hfl, htl, HN1, HN2, R1, R2, Lib.hid rfl, Lib.hid (Drawn.refl _)⟩
  case round =>
    obtain ⟨f', t', a1, a2, m1, m2, d1, d2, rfl, rfl, hg, hm1, hm2, H1, H2, Q1, Q2, DC, DW⟩ := hrel
    rename World => wr
    have fin : ∀ (e : dropC f' t' = (f', t')), RR = (if List.replicate m1 dotsB ++ t' = [] then ⟨#[46]⟩ else joinB (List.replicate m1 dotsB ++ t')) ∧ tbulk (List.replicate m1 dotsB ++ t') ≤ 4194304 := fun e => by
      have a := HR.out
      have b := HT.out
      rw [DC.out, e] at a b
      simp only at a b
      rw [← H1.out] at a b
      exact ⟨a, b⟩
    have FIN := Lib.hid fin
    clear fin
    by_cases z1 : m1 = 0
    · have e : f' = [] := List.eq_nil_of_length_eq_zero (by rw [← H1.out]; exact z1)
      have F := Lib.hid (FIN.out (by rw [e, dropC_nil]))
      clear e
      subst z1
      go_wp2_with fail
      go_region
      have RC := Lib.hid (fun wz b hb => repeat_calls b 0 wz (by omega) hb)
      go_wp2_with fail
      refine (RC.out _ _ (by show (World.alloc _ _).cell? _ = _; rw [World.cell?_alloc_at _ _ _ _ rfl]; rfl)).mono ?_
      rintro e w2 ⟨rfl, hblk, hbl⟩
      have hN : (World.drew (wr.alloc (.cells #[Value.string ⟨#[46, 46]⟩] 9))).heap.size = wr.heap.size + 1 := by simp
      have hsz2 : wr.heap.size + 1 ≤ w2.heap.size := by rw [← hN]; exact hbl.size
      rw [hN] at hblk hbl
      have OR := Lib.hid (own_of_rep hblk (Nat.le_refl _) (by unfold maxLen; omega))
      have BR := Lib.hid hbl
      have L0 := Lib.hid (show Below w.heap.size w wr from DW.out.below _)
      have hws : w.heap.size ≤ wr.heap.size := L0.out.size
      have L2 := Lib.hid (show Below w.heap.size w w2 from ((L0.out.alloc L0.out.size (.cells #[strE dotsB] 9)).drew).trans (hbl.mono (by omega)))
      have T2 := Lib.hid (Q2.out.below L2.out)
      clear hblk hbl RC hN
      obtain ⟨q, hq⟩ : ∃ q, 0 + t'.length = q := ⟨_, rfl⟩
      have HQ := Lib.hid hq
      have hlr := Lib.hid (show (List.replicate 0 dotsB ++ t').length = q by rw [List.length_append, List.length_replicate]; exact hq)
      have hq2 : q ≤ 8388608 := by have := H2.out; omega
      clear hq
      by_cases zz : q = 0
      · have zq : ((q : Int) == 0) = true := by rw [zz]; rfl
        have E := Lib.hid (show RR = ⟨#[46]⟩ by
          rw [F.out.1, if_pos (List.eq_nil_of_length_eq_zero (by rw [hlr.out]; exact zz))])
        clear zz
        go_wp2_with (at_builtin; refine wpList_push_all w2 rfl (.tmp 31) (.tmp 32) 22 rfl (wr.heap.size + 1) 9 (.string ⟨#[]⟩) 16 strE Tryd.underlying22 Tryd.info9 rfl (wr.heap.size + 1) 0 0 (List.replicate 0 dotsB) t' _ rfl OR.out rfl T2.out (fun _ => rfl) (by have := H2.out; omega) (by unfold maxLen; have := H2.out; omega) hsz2 ?_; intro g3 cap3 w3 hown3 hb3; rw [HQ.out] at hown3 ⊢)
        have L3 := Lib.hid (L2.out.trans (hb3.mono (by omega)))
        go_ret
        exact ⟨by rw [E.out]; rfl, L3.out⟩
      · have zq : ((q : Int) == 0) = false := beq_eq_false_iff_ne.2 (by omega)
        have E := Lib.hid (show RR = joinB (List.replicate 0 dotsB ++ t') by
          rw [F.out.1, if_neg (fun e => zz (by rw [← hlr.out, e]; rfl))])
        have JC := Lib.hid (fun wz u (hu : Rd wz strE u (List.replicate 0 dotsB ++ t')) => join_calls u _ wz hu F.out.2)
        rw [← E.out] at JC
        clear zz E
        go_wp2_with (at_builtin; refine wpList_push_all w2 rfl (.tmp 31) (.tmp 32) 22 rfl (wr.heap.size + 1) 9 (.string ⟨#[]⟩) 16 strE Tryd.underlying22 Tryd.info9 rfl (wr.heap.size + 1) 0 0 (List.replicate 0 dotsB) t' _ rfl OR.out rfl T2.out (fun _ => rfl) (by have := H2.out; omega) (by unfold maxLen; have := H2.out; omega) hsz2 ?_; intro g3 cap3 w3 hown3 hb3; rw [HQ.out] at hown3 ⊢)
        have O3 := Lib.hid hown3.rd
        have L3 := Lib.hid (L2.out.trans (hb3.mono (by omega)))
        clear hown3 hb3
        refine (JC.out _ _ O3.out).mono ?_
        rintro e w4 ⟨rfl, hb4⟩
        have L4 := Lib.hid (Below.next L3.out hb4)
        clear hb4
        go_wp2
        go_ret
        exact ⟨rfl, L4.out⟩
    · have p1 : 0 < m1 := by omega
      by_cases z2 : m2 = 0
      · have e : t' = [] := List.eq_nil_of_length_eq_zero (by rw [← H2.out]; exact z2)
        have F := Lib.hid (FIN.out (by rw [e, dropC_nil2]))
        clear e z1
        subst z2
        go_wp2_with fail
        go_region
        have RC := Lib.hid (fun wz b hb => repeat_calls b m1 wz hm1 hb)
        go_wp2_with fail
        refine (RC.out _ _ (by show (World.alloc _ _).cell? _ = _; rw [World.cell?_alloc_at _ _ _ _ rfl]; rfl)).mono ?_
        rintro e w2 ⟨rfl, hblk, hbl⟩
        have hN : (World.drew (wr.alloc (.cells #[Value.string ⟨#[46, 46]⟩] 9))).heap.size = wr.heap.size + 1 := by simp
        have hsz2 : wr.heap.size + 1 ≤ w2.heap.size := by rw [← hN]; exact hbl.size
        rw [hN] at hblk hbl
        have OR := Lib.hid (own_of_rep hblk (Nat.le_refl _) (by unfold maxLen; omega))
        have BR := Lib.hid hbl
        have L0 := Lib.hid (show Below w.heap.size w wr from DW.out.below _)
        have hws : w.heap.size ≤ wr.heap.size := L0.out.size
        have L2 := Lib.hid (show Below w.heap.size w w2 from ((L0.out.alloc L0.out.size (.cells #[strE dotsB] 9)).drew).trans (hbl.mono (by omega)))
        have T2 := Lib.hid (Q2.out.below L2.out)
        clear hblk hbl RC hN
        obtain ⟨q, hq⟩ : ∃ q, m1 + t'.length = q := ⟨_, rfl⟩
        have HQ := Lib.hid hq
        have hlr := Lib.hid (show (List.replicate m1 dotsB ++ t').length = q by rw [List.length_append, List.length_replicate]; exact hq)
        have hq2 : q ≤ 8388608 := by have := H2.out; omega
        clear hq
        by_cases zz : q = 0
        · have zq : ((q : Int) == 0) = true := by rw [zz]; rfl
          have E := Lib.hid (show RR = ⟨#[46]⟩ by
            rw [F.out.1, if_pos (List.eq_nil_of_length_eq_zero (by rw [hlr.out]; exact zz))])
          clear zz
          go_wp2_with (at_builtin; refine wpList_push_all w2 rfl (.tmp 31) (.tmp 32) 22 rfl (wr.heap.size + 1) 9 (.string ⟨#[]⟩) 16 strE Tryd.underlying22 Tryd.info9 rfl (wr.heap.size + 1) m1 m1 (List.replicate m1 dotsB) t' _ rfl OR.out rfl T2.out (fun _ => rfl) (by have := H2.out; omega) (by unfold maxLen; have := H2.out; omega) hsz2 ?_; intro g3 cap3 w3 hown3 hb3; rw [HQ.out] at hown3 ⊢)
          have L3 := Lib.hid (L2.out.trans (hb3.mono (by omega)))
          go_ret
          exact ⟨by rw [E.out]; rfl, L3.out⟩
        · have zq : ((q : Int) == 0) = false := beq_eq_false_iff_ne.2 (by omega)
          have E := Lib.hid (show RR = joinB (List.replicate m1 dotsB ++ t') by
            rw [F.out.1, if_neg (fun e => zz (by rw [← hlr.out, e]; rfl))])
          have JC := Lib.hid (fun wz u (hu : Rd wz strE u (List.replicate m1 dotsB ++ t')) => join_calls u _ wz hu F.out.2)
          rw [← E.out] at JC
          clear zz E
          go_wp2_with (at_builtin; refine wpList_push_all w2 rfl (.tmp 31) (.tmp 32) 22 rfl (wr.heap.size + 1) 9 (.string ⟨#[]⟩) 16 strE Tryd.underlying22 Tryd.info9 rfl (wr.heap.size + 1) m1 m1 (List.replicate m1 dotsB) t' _ rfl OR.out rfl T2.out (fun _ => rfl) (by have := H2.out; omega) (by unfold maxLen; have := H2.out; omega) hsz2 ?_; intro g3 cap3 w3 hown3 hb3; rw [HQ.out] at hown3 ⊢)
          have O3 := Lib.hid hown3.rd
          have L3 := Lib.hid (L2.out.trans (hb3.mono (by omega)))
          clear hown3 hb3
          refine (JC.out _ _ O3.out).mono ?_
          rintro e w4 ⟨rfl, hb4⟩
          have L4 := Lib.hid (Below.next L3.out hb4)
          clear hb4
          go_wp2
          go_ret
          exact ⟨rfl, L4.out⟩
      · have p2 : 0 < m2 := by omega
        rcases Q1.out.cases with ⟨e1, _⟩ | ⟨_, b1, o1, d1', hv1, k1, l1, cc1⟩
        · exact absurd (by rw [H1.out, e1]; rfl) z1
        rcases Q2.out.cases with ⟨e2, _⟩ | ⟨_, b2, o2, d2', hv2, k2, l2, cc2⟩
        · exact absurd (by rw [H2.out, e2]; rfl) z2
        simp only [Value.slice.injEq] at hv1 hv2
        obtain ⟨rfl, hx1, rfl⟩ := hv1
        obtain ⟨rfl, hx2, rfl⟩ := hv2
        clear hx1 hx2
        obtain ⟨x, f2, rfl⟩ : ∃ x f2, f' = x :: f2 := by
          cases f' with
          | nil => exact absurd H1.out (by simpa using z1)
          | cons x f2 => exact ⟨x, f2, rfl⟩
        obtain ⟨y, t2, rfl⟩ : ∃ y t2, t' = y :: t2 := by
          cases t' with
          | nil => exact absurd H2.out (by simpa using z2)
          | cons y t2 => exact ⟨y, t2, rfl⟩
        have g1 : wr.cell? ⟨b1, o1, none⟩ = some (strE x) := by rw [DW.out.cell]; exact cc1 0 (by simp)
        have g2 : wr.cell? ⟨b2, o2, none⟩ = some (strE y) := by rw [DW.out.cell]; exact cc2 0 (by simp)
        have REST1 := Lib.hid (rest_rd k1 l1 cc1)
        have REST2 := Lib.hid (rest_rd k2 l2 cc2)
        have hd1 : d1 ≤ 9223372036854775807 := by unfold maxLen at l1; omega
        have hd2 : d2 ≤ 9223372036854775807 := by unfold maxLen at l2; omega
        have kd1 : m1 ≤ d1 := by rw [H1.out]; exact k1
        have kd2 : m2 ≤ d2 := by rw [H2.out]; exact k2
        clear cc1 cc2 k1 k2 l1 l2 z1 z2
        by_cases hxy : x = y
        · subst hxy
          have DC2 := Lib.hid (show dropC f t = dropC f2 t2 by rw [DC.out, dropC_eq])
          have H12 := Lib.hid (show m1 - 1 = f2.length by rw [H1.out]; rfl)
          have H22 := Lib.hid (show m2 - 1 = t2.length by rw [H2.out]; rfl)
          clear FIN DC
          go_wp2_with fail
          go_region
          go_wp2_with fail
          have i1 : (1 : Int) ≤ (m1 : Int) := by omega
          have i2 : (1 : Int) ≤ (m2 : Int) := by omega
          have i3 : (m1 : Int) ≤ (d1 : Int) := by omega
          have i4 : (m2 : Int) ≤ (d2 : Int) := by omega
          have i5 : (1 : Int) ≤ (d1 : Int) := by omega
          have i6 : (1 : Int) ≤ (d2 : Int) := by omega
          go_region
          generalize hA1 : (if d1 = 1 then (some ⟨b1, o1, none⟩ : Option Addr) else some ⟨b1, o1 + 1, none⟩) = A1
          generalize hA2 : (if d2 = 1 then (some ⟨b2, o2, none⟩ : Option Addr) else some ⟨b2, o2 + 1, none⟩) = A2
          have RA1 := Lib.hid (show Rd w strE (.slice A1 (m1 - 1) (d1 - 1)) f2 from by
            rw [← hA1]
            by_cases e : d1 = 1
            · rw [if_pos e]; exact REST1.out _ _ H12.out (Or.inl (by omega))
            · rw [if_neg e]; exact REST1.out _ _ H12.out (Or.inr rfl))
          have RA2 := Lib.hid (show Rd w strE (.slice A2 (m2 - 1) (d2 - 1)) t2 from by
            rw [← hA2]
            by_cases e : d2 = 1
            · rw [if_pos e]; exact REST2.out _ _ H22.out (Or.inl (by omega))
            · rw [if_neg e]; exact REST2.out _ _ H22.out (Or.inr rfl))
          clear hA1 hA2
          go_wp2
          go_roundg (m1 - 1)
          case measure => omega
          case rel => exact ⟨f2, t2, A1, A2, m1 - 1, m2 - 1, d1 - 1, d2 - 1, rfl, rfl, Nat.le_refl _, by omega, by omega, H12, H22, RA1, RA2, DC2, Lib.hid DW.out.drew.drew⟩
        · have hxy' : (x.toList == y.toList) = false := (Lib.bytes_beq_false_iff _ _).2 hxy
          have F := Lib.hid (FIN.out (dropC_ne hxy))
          clear hxy
          generalize y :: t2 = t' at *
          go_wp2_with fail
          go_region
          have RC := Lib.hid (fun wz b hb => repeat_calls b m1 wz hm1 hb)
          go_wp2_with fail
          refine (RC.out _ _ (by show (World.alloc _ _).cell? _ = _; rw [World.cell?_alloc_at _ _ _ _ rfl]; rfl)).mono ?_
          rintro e w2 ⟨rfl, hblk, hbl⟩
          have hN : (World.drew (wr.alloc (.cells #[Value.string ⟨#[46, 46]⟩] 9))).heap.size = wr.heap.size + 1 := by simp
          have hsz2 : wr.heap.size + 1 ≤ w2.heap.size := by rw [← hN]; exact hbl.size
          rw [hN] at hblk hbl
          have OR := Lib.hid (own_of_rep hblk (Nat.le_refl _) (by unfold maxLen; omega))
          have BR := Lib.hid hbl
          have L0 := Lib.hid (show Below w.heap.size w wr from DW.out.below _)
          have hws : w.heap.size ≤ wr.heap.size := L0.out.size
          have L2 := Lib.hid (show Below w.heap.size w w2 from ((L0.out.alloc L0.out.size (.cells #[strE dotsB] 9)).drew).trans (hbl.mono (by omega)))
          have T2 := Lib.hid (Q2.out.below L2.out)
          clear hblk hbl RC hN
          obtain ⟨q, hq⟩ : ∃ q, m1 + t'.length = q := ⟨_, rfl⟩
          have HQ := Lib.hid hq
          have hlr := Lib.hid (show (List.replicate m1 dotsB ++ t').length = q by rw [List.length_append, List.length_replicate]; exact hq)
          have hq2 : q ≤ 8388608 := by have := H2.out; omega
          clear hq
          by_cases zz : q = 0
          · have zq : ((q : Int) == 0) = true := by rw [zz]; rfl
            have E := Lib.hid (show RR = ⟨#[46]⟩ by
              rw [F.out.1, if_pos (List.eq_nil_of_length_eq_zero (by rw [hlr.out]; exact zz))])
            clear zz
            go_wp2_with (at_builtin; refine wpList_push_all w2 rfl (.tmp 31) (.tmp 32) 22 rfl (wr.heap.size + 1) 9 (.string ⟨#[]⟩) 16 strE Tryd.underlying22 Tryd.info9 rfl (wr.heap.size + 1) m1 m1 (List.replicate m1 dotsB) t' _ rfl OR.out rfl T2.out (fun _ => rfl) (by have := H2.out; omega) (by unfold maxLen; have := H2.out; omega) hsz2 ?_; intro g3 cap3 w3 hown3 hb3; rw [HQ.out] at hown3 ⊢)
            have L3 := Lib.hid (L2.out.trans (hb3.mono (by omega)))
            go_ret
            exact ⟨by rw [E.out]; rfl, L3.out⟩
          · have zq : ((q : Int) == 0) = false := beq_eq_false_iff_ne.2 (by omega)
            have E := Lib.hid (show RR = joinB (List.replicate m1 dotsB ++ t') by
              rw [F.out.1, if_neg (fun e => zz (by rw [← hlr.out, e]; rfl))])
            have JC := Lib.hid (fun wz u (hu : Rd wz strE u (List.replicate m1 dotsB ++ t')) => join_calls u _ wz hu F.out.2)
            rw [← E.out] at JC
            clear zz E
            go_wp2_with (at_builtin; refine wpList_push_all w2 rfl (.tmp 31) (.tmp 32) 22 rfl (wr.heap.size + 1) 9 (.string ⟨#[]⟩) 16 strE Tryd.underlying22 Tryd.info9 rfl (wr.heap.size + 1) m1 m1 (List.replicate m1 dotsB) t' _ rfl OR.out rfl T2.out (fun _ => rfl) (by have := H2.out; omega) (by unfold maxLen; have := H2.out; omega) hsz2 ?_; intro g3 cap3 w3 hown3 hb3; rw [HQ.out] at hown3 ⊢)
            have O3 := Lib.hid hown3.rd
            have L3 := Lib.hid (L2.out.trans (hb3.mono (by omega)))
            clear hown3 hb3
            refine (JC.out _ _ O3.out).mono ?_
            rintro e w4 ⟨rfl, hb4⟩
            have L4 := Lib.hid (Below.next L3.out hb4)
            clear hb4
            go_wp2
            go_ret
            exact ⟨rfl, L4.out⟩
end Go.Proofs.YthhggganhegfhaaDoor
