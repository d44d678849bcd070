/-
  The walk of the program's hits: is there a match of the text, or of a beginning ahead of a stroke?
-/
import Derived.Test.YtejcpngmllciiaaMatch
namespace Go.Proofs.Ytejcpngmllciiaa
open Go.RowKit
set_option linter.unusedVariables false

/-- is there a match of a beginning ahead of a stroke, of less than k bytes? -/
def hitTo (m : Nat → Bool) (l : List UInt8) : Nat → Bool
  | 0 => false
  | k + 1 => hitTo m l k || (decide (bt l k = 47) && m k)
def hitB (m : Nat → Bool) (l : List UInt8) : Bool := hitTo m l l.length || m l.length
theorem hitTo_up {m : Nat → Bool} {l : List UInt8} {k : Nat} (h : hitTo m l k = true) : ∀ j, k ≤ j → hitTo m l j = true := by
  intro j hj
  induction hj with
  | refl => exact h
  | step _ ih => unfold hitTo; rw [ih, Bool.true_or]
theorem hitTo_iff (m : Nat → Bool) (l : List UInt8) : ∀ k, hitTo m l k = true ↔ ∃ j, j < k ∧ bt l j = 47 ∧ m j = true
  | 0 => by simp [hitTo]
  | k + 1 => by
    unfold hitTo
    rw [Bool.or_eq_true, Bool.and_eq_true, decide_eq_true_iff, hitTo_iff m l k]
    constructor
    · rintro (⟨j, h1, h2, h3⟩ | ⟨h2, h3⟩)
      · exact ⟨j, by omega, h2, h3⟩
      · exact ⟨k, by omega, h2, h3⟩
    · rintro ⟨j, h1, h2, h3⟩
      by_cases e : j = k
      · subst e; exact Or.inr ⟨h2, h3⟩
      · exact Or.inl ⟨j, by omega, h2, h3⟩

set_option maxHeartbeats 2000000 in
theorem hits_calls (w : World) (B : Nat) (v : Value) (us : List ITok) (t : ByteArray) (h : OwnM w B 54 5 encI v us) (hn5 : us.length ≤ 5000) (ht : t.size ≤ 140737488351232) :
    Calls Try.prog 26 #[v, .string t] w fun e w' => e = .returned (.bool (hitB (fun k => colI us us.length t.data.toList k us.length) t.data.toList)) ∧ Below w.heap.size w w' := by
  have hl := len_list t
  have BC := Lib.hid (begin_calls w B v us h hn5)
  have HBN : ∀ m : Nat → Bool, hitB m t.data.toList = (hitTo m t.data.toList t.size || m t.size) := fun m => by unfold hitB; rw [hl]
  rw [HBN]
  clear HBN hl h
  generalize hn : us.length = n at *
  clear hn
  go_enter Try.func26, Try.ntmps26
  go_wp2_with fail
  refine BC.out.mono ?_
  rintro e w2 ⟨X, o, rfl, hr, hb, hxo⟩
  have X2 := Lib.hid hb
  have R2 := Lib.hid hr
  have OX := Lib.hid hxo
  clear hr hb hxo BC
  go_wp2_with fail
  go_loopg [6, 11] t.size (fun g s6 s11 wr => ∃ k : Nat, k ≤ t.size ∧ t.size - k ≤ g ∧ s11 = .int .i64 k ∧ hitTo (fun k => colI us n t.data.toList k n) t.data.toList k = false ∧ Run wr B X v us o n (colI us n t.data.toList k) ∧ Below w.heap.size w wr)
  case atStart => exact ⟨0, Nat.zero_le _, by omega, rfl, rfl, R2.out, X2.out⟩
  case round =>
    obtain ⟨k, hk, hg, rfl, hh, hR, hX⟩ := hrel
    have R := Lib.hid hR
    have XB := Lib.hid hX
    have HH := Lib.hid hh
    clear hR hX R2 X2 hh
    by_cases hkt : k < t.size
    · have hbt := bt_get t k hkt
      have hk0 : (0 : Int) ≤ (k : Int) := by omega
      have hk1 : (k : Int) < (t.size : Int) := by omega
      have SC := Lib.hid (fun wz (hd : Drawn wr wz) => step_calls' wz B X v us o n _ ((bt t.data.toList k : Nat) : Int) (bt t.data.toList k) rfl (bt_lt _ _) (R.out.drawn hd))
      by_cases h47 : bt t.data.toList k = 47
      · have DC := Lib.hid (done_calls wr B X v us o n _ R.out)
        have HB47 := Lib.hid h47
        have hbt0 := hbt
        rw [h47] at hbt SC
        cases hc : colI us n t.data.toList k n with
        | true =>
          rw [hc] at DC
          have ANS := Lib.hid (show (hitTo (fun k => colI us n t.data.toList k n) t.data.toList t.size || colI us n t.data.toList t.size n) = true from by
            rw [hitTo_up (k := k + 1) (by unfold hitTo; rw [h47, hc]; simp) t.size hkt, Bool.true_or])
          clear hc h47 hbt0
          go_wp2_with fail
          refine DC.out.mono ?_
          rintro e w4 ⟨rfl, hd⟩
          have FIN := Lib.hid (XB.out.trans (hd.below _))
          clear hd
          go_wp2_with fail
          go_ret
          exact ⟨by rw [ANS.out]; rfl, FIN.out⟩
        | false =>
          rw [hc] at DC
          have NX := Lib.hid (show hitTo (fun k => colI us n t.data.toList k n) t.data.toList (k + 1) = false from by unfold hitTo; rw [HH.out, hc]; simp)
          clear hc h47 hbt0
          go_wp2_with fail
          refine DC.out.mono ?_
          rintro e w4 ⟨rfl, hd⟩
          have SC2 := Lib.hid (SC.out w4 hd)
          have XB2 := Lib.hid (XB.out.trans (hd.below _))
          clear hd SC
          go_wp2_with fail
          refine SC2.out.mono ?_
          rintro e w5 ⟨rfl, hr, ho⟩
          have FIN := Lib.hid (And.intro hr (XB2.out.trans (ho.below OX.out XB2.out.size)))
          clear hr ho
          go_wp2_with fail
          go_roundg (t.size - (k + 1))
          case measure => omega
          case rel => exact ⟨k + 1, by omega, by omega, by go_num, NX.out, by have := FIN.out.1; rw [← HB47.out] at this; exact this, FIN.out.2⟩
      · have t4 : (((bt t.data.toList k : Nat) : Int) == 47) = false := by simp; omega
        have NX := Lib.hid (show hitTo (fun k => colI us n t.data.toList k n) t.data.toList (k + 1) = false from by unfold hitTo; rw [HH.out]; simp [h47])
        replace h47 := Lib.hid h47
        go_wp2_with fail
        refine (SC.out wr (Drawn.refl _)).mono ?_
        rintro e w5 ⟨rfl, hr, ho⟩
        have FIN := Lib.hid (And.intro hr (XB.out.trans (ho.below OX.out XB.out.size)))
        clear hr ho
        go_wp2_with fail
        go_roundg (t.size - (k + 1))
        case measure => omega
        case rel => exact ⟨k + 1, by omega, by omega, by go_num, NX.out, FIN.out.1, FIN.out.2⟩
    · obtain rfl : k = t.size := by omega
      have DC := Lib.hid (done_calls wr B X v us o n _ R.out)
      go_wp2_with fail
      refine DC.out.mono ?_
      rintro e w4 ⟨rfl, hd⟩
      have FIN := Lib.hid (XB.out.trans (hd.below _))
      clear hd
      go_wp2_with fail
      go_ret
      exact ⟨by rw [HH.out, Bool.false_or]; rfl, FIN.out⟩
end Go.Proofs.Ytejcpngmllciiaa
