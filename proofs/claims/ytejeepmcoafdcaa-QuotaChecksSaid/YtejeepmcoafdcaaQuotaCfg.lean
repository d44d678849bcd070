/-
  The walks of the bounds of a configuration: the program's within, the document's in.
-/
import Derived.Test.YtejeepmcoafdcaaMany
import Derived.Test.YtejeepmcoafdcaaOpenCfg
namespace Go.Proofs.Ytejeepmcoafdcaa
open Go.RowKit
set_option linter.unusedVariables false

/-- a number and what it lies between -/
abbrev Bd := Int × Int × Int
def encB (b : Bd) : List Value := [.int .i64 b.1, .int .i64 b.2.1, .int .i64 b.2.2]
def inB (b : Bd) : Bool := decide (b.2.1 ≤ b.1) && decide (b.1 ≤ b.2.2)

set_option maxHeartbeats 1000000 in
theorem within_calls (w : World) (v : Value) (bs : List Bd) (h : RdM w 3 encB v bs) (hl : bs.length ≤ 1000) :
    Calls Try.prog 22 #[v] w fun e w' => e = .returned (.bool (bs.all inB)) ∧ Below w.heap.size w w' := by
  obtain ⟨ao, c, rfl, hx0⟩ := id h
  clear hx0
  have R := Lib.hid h
  clear h
  generalize hn : bs.length = n at *
  have HN := Lib.hid hn
  clear hn
  go_enter Try.func22, Try.ntmps22
  go_wp2_with fail
  go_loopg [4, 7] n (fun g s4 s7 wr => ∃ k : Nat, k ≤ n ∧ n - k ≤ g ∧ s7 = .int .i64 k ∧ (bs.take k).all inB = true ∧ Below w.heap.size w wr)
  case atStart => exact ⟨0, Nat.zero_le _, by omega, rfl, rfl, Below.refl _ _⟩
  case round =>
    obtain ⟨k, hk, hg, rfl, hno, hX⟩ := hrel
    have XB := Lib.hid hX
    have NO := Lib.hid hno
    clear hX hno
    by_cases hkn : k < n
    · have hkx : k < bs.length := by rw [HN.out]; exact hkn
      obtain ⟨p, hp⟩ : ∃ p, p = bs[k] := ⟨_, rfl⟩
      have NX := Lib.hid (show (bs.take (k + 1)).all inB = inB p from by
        rw [List.take_add_one, List.getElem?_eq_getElem hkx, List.all_append, NO.out, ← hp]
        simp)
      have PX := Lib.hid (show p ∈ bs from by rw [hp]; exact List.getElem_mem _)
      obtain ⟨⟨b, o, rfl, hb, q0, q1, q2⟩⟩ : Nonempty (∃ b o, ao = some ⟨b, o, none⟩ ∧ b < w.heap.size ∧ wr.cell? ⟨b, o + k * 3, none⟩ = some (.int .i64 p.1) ∧ wr.cell? ⟨b, o + k * 3 + 1, none⟩ = some (.int .i64 p.2.1) ∧ wr.cell? ⟨b, o + k * 3 + 2, none⟩ = some (.int .i64 p.2.2)) := by
        obtain ⟨ao', c', hv, h1, h2, h3, h4⟩ := R.out
        cases hv
        obtain ⟨b, o, ha, hb, hc⟩ := h4 (fun e => by rw [e] at hkx; simp at hkx)
        have hbb : ∀ i, wr.cell? ⟨b, i, none⟩ = w.cell? ⟨b, i, none⟩ := fun i => XB.out.cell hb
        refine ⟨b, o, ha, hb, ?_, ?_, ?_⟩
        · rw [hbb, ← Nat.add_zero (o + k * 3), hc k hkx 0 (by omega), ← hp]; rfl
        · rw [hbb, hc k hkx 1 (by omega), ← hp]; rfl
        · rw [hbb, hc k hkx 2 (by omega), ← hp]; rfl
      clear hp hkx
      have h0 : (0 : Int) ≤ (k : Int) := by omega
      have h1 : (k : Int) < (n : Int) := by omega
      obtain ⟨x, lo, hi⟩ := p
      simp only at q0 q1 q2
      go_wp2_with fail
      · rename_i q1 q2
        have e := Lib.hid (show inB (x, lo, hi) = false from by unfold inB; simp only; rw [decide_eq_false (show ¬ x ≤ hi by omega), Bool.and_false])
        go_ret
        exact ⟨by rw [List.all_eq_false.2 ⟨_, PX.out, by rw [e.out]; decide⟩]; rfl, XB.out.alloc XB.out.size _⟩
      · rename_i q1 q2
        have e := Lib.hid (show inB (x, lo, hi) = true from by unfold inB; simp only; rw [decide_eq_true q2.1, decide_eq_true q2.2]; rfl)
        go_roundg (n - (k + 1))
        case measure => omega
        case rel => exact ⟨k + 1, by omega, by omega, by go_num, by rw [NX.out]; exact e.out, XB.out.alloc XB.out.size _⟩
      · rename_i q1
        have e := Lib.hid (show inB (x, lo, hi) = false from by unfold inB; simp only; rw [decide_eq_false (show ¬ lo ≤ x by omega)]; rfl)
        go_ret
        exact ⟨by rw [List.all_eq_false.2 ⟨_, PX.out, by rw [e.out]; decide⟩]; rfl, XB.out.alloc XB.out.size _⟩
    · obtain rfl : k = n := by omega
      have FE1 := Lib.hid (show bs.all inB = true from by
        have := NO.out
        rw [← HN.out, List.take_length] at this
        exact this)
      clear NO
      go_wp2_with fail
      go_ret
      exact ⟨by rw [FE1.out]; rfl, XB.out⟩
end Go.Proofs.Ytejeepmcoafdcaa
