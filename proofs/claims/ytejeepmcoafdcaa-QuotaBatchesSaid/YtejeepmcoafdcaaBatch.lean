/-
  The walk of Meter.Batch: a deferred closure that recovers.
-/
import Derived.Test.YtejeepmcoafdcaaMust
import Derived.Test.YtejeepmcoafdcaaCharges
import Derived.Test.YtejeepmcoafdcaaBatchPlain
import Derived.Deep.LoopGhost
namespace Go.Proofs.Ytejeepmcoafdcaa
open Go.RowKit
set_option linter.unusedVariables false

theorem assert_errno (er : Int) (xT : TypeId) (w : World) : (Instr.typeAssert (.iface 31 (.int .i64 er)) xT 31 true).run Try.prog w = .ok (.tuple #[.int .i64 er, .bool true]) w := by
  simp [Instr.typeAssert, run_underlying Try.underlying31]
theorem catch_panicking (p : Addr) (x er : Int) (older : List PanicEntry) (w : World) (hc : w.cell? p = some (.int .i64 x)) (hz : w.frozen? p = false) :
    CallsD Try.prog 20 #[.pointer (some p)] (.panicking ({ v := .iface 31 (.int .i64 er), recovered := false } :: older)) w fun e u' w' =>
      e = .returned (.tuple #[]) ∧ u' = .panicking ({ v := .iface 31 (.int .i64 er), recovered := true } :: older) ∧ w' = w.setCell p (.int .i64 er) := by
  refine callsD_of_wpS Try.func20 rfl fun c₀ cs hu => ?_
  apply wpS_seq
  apply wpS_region
  simp [wpOpsS, go_sem, recoverD, hu, Try.ntmps20, Exit.thenS]
  apply wpS_seq
  apply wpS_region
  simp [wpOpsS, go_sem, Exit.thenS]
  refine wpS_cond (t := true) (by simp [Act.eval, Array.replicate]) ?_
  simp only [if_true]
  apply wpS_region
  simp [wpOpsS, go_sem, hc, hz, assert_errno, bodyPostS, results, Try.results20]

theorem catch_idle (p : Addr) (w : World) :
    CallsD Try.prog 20 #[.pointer (some p)] .returning w fun e u' w' => e = .returned (.tuple #[]) ∧ u' = .returning ∧ w' = w := by
  refine callsD_of_wpS Try.func20 rfl fun c₀ cs hu => ?_
  apply wpS_seq
  apply wpS_region
  simp [wpOpsS, go_sem, recoverD, hu, Try.ntmps20, Exit.thenS]
  apply wpS_seq
  apply wpS_region
  simp [wpOpsS, go_sem, Exit.thenS]
  refine wpS_cond (t := false) (by simp [Act.eval, Array.replicate]) ?_
  simp only [Bool.false_eq_true, if_false]
  refine wpS_of_wp (wp_skip ?_)
  cases c₀
  simp_all [bodyPostS, results, Try.results20]

/-- what a round of Batch keeps: M the meter, E the answer's variable -/
def BInv (w wr : World) (M E : Nat) (mE mB e b : Int) : Prop :=
  Fine e ∧ Fine b ∧ Mt wr M mE mB e b ∧ Blk wr E #[.int .i64 0] 31 ∧ (M ≠ E ∧ w.heap.size ≤ E) ∧ Only M w wr
theorem BInv.cellOld {w wr : World} {M E : Nat} {mE mB e b : Int} (h : BInv w wr M E mE mB e b) {bb i : Nat} (hb : bb < w.heap.size) (hn : bb ≠ M) : wr.cell? ⟨bb, i, none⟩ = w.cell? ⟨bb, i, none⟩ :=
  World.cell?_of_block (h.2.2.2.2.2.block bb hb hn)

set_option maxHeartbeats 2000000 in
theorem batch_calls (w : World) (M : Nat) (mE mB e0 b0 : Int) (ao : Option Addr) (n c : Nat) (xs : List (Int × Int)) (h : Mt w M mE mB e0 b0) (hx : IsInt mE) (hy : IsInt mB) (hf : Fine e0) (hg : Fine b0)
    (hr : RdP w (.slice ao n c) xs) (hoff : 0 < xs.length → ∀ b o, ao = some ⟨b, o, none⟩ → b ≠ M) :
    Calls Try.prog 15 #[.pointer (some ⟨M, 0, none⟩), .slice ao n c] w fun x w' =>
      x = .returned (.tuple #[.int .i64 (batch mE mB xs e0 b0).1, .int .i64 (batch mE mB xs e0 b0).2.1]) ∧ Mt w' M mE mB (batch mE mB xs e0 b0).2.2.1 (batch mE mB xs e0 b0).2.2.2 ∧ Only M w w' := by
  obtain ⟨ao', c', hv⟩ := hr.any
  cases hv
  have HR := Lib.hid hr
  have HO := Lib.hid hoff
  have HL := Lib.hid hr.len
  have HP := Lib.hid (show IsInt mE ∧ IsInt mB from ⟨hx, hy⟩)
  have hM := Blk.lt h
  have hA : Mt (w.alloc (Obj.cells #[.int .i64 0] 31)) M mE mB e0 b0 := Blk.alloc h _
  have hB := Blk.new w #[.int .i64 0] 31
  have A := Lib.hid (show BInv w (w.alloc (Obj.cells #[.int .i64 0] 31)) M w.heap.size mE mB e0 b0 from ⟨hf, hg, hA, hB, ⟨by omega, Nat.le_refl _⟩, (Only.refl _ _).alloc _⟩)
  have hmf : ∀ (fn : Fn) (first cap : Array Value) (w : World), (Instr.makeFunc fn first cap).run Try.prog w = .ok (.func fn first cap) w := fun _ _ _ _ => rfl
  clear h hx hy hf hg hr hoff hA hB hM
  generalize hN : xs.length = N at *
  go_enter_defers Try.func15, Try.ntmps15
  go_wp2_with fail
  generalize w.alloc (Obj.cells #[.int .i64 0] 31) = w1 at *
  generalize w.heap.size = E at *
  go_loopg [4, 11] N (fun g s4 s11 wr => ∃ k : Nat, k ≤ N ∧ N - k ≤ g ∧ s4 = .int .i64 k ∧ s11 = .int .i64 k ∧ ∃ e b, BInv w wr M E mE mB e b ∧ batch mE mB xs e0 b0 = plus k (batch mE mB (xs.drop k) e b))
  case atStart => exact ⟨0, Nat.zero_le _, by omega, rfl, rfl, e0, b0, A.out, rfl⟩
  case round =>
    obtain ⟨k, hk, hg, rfl, rfl, e, b, hI, hQ⟩ := hrel
    have I := Lib.hid hI
    have Q := Lib.hid hQ
    clear hI hQ
    by_cases hlt : k < N
    · obtain ⟨bb, oo, rfl, hbl, hcs⟩ := HR.out.at (by omega)
      obtain ⟨q0, q1, i0, i1⟩ := hcs k (by omega)
      have GO := Lib.hid (fun hz => Q.out.trans (batch_go (mE := mE) (mB := mB) (xs := xs) (e := e) (b := b) (k := k) (by omega) hz))
      have ST := Lib.hid (fun hz => Q.out.trans (batch_stop (mE := mE) (mB := mB) (xs := xs) (e := e) (b := b) (k := k) (by omega) hz))
      generalize (xs.getD k (0, 0)).1 = kd at *
      generalize (xs.getD k (0, 0)).2 = nn at *
      have hbM : bb ≠ M := HO.out (by omega) _ _ rfl
      have g0 : wr.cell? ⟨bb, oo + k * 2, none⟩ = some (.int .i64 kd) := by rw [I.out.cellOld hbl hbM, q0]
      have g1 : wr.cell? ⟨bb, oo + k * 2 + 1, none⟩ = some (.int .i64 nn) := by rw [I.out.cellOld hbl hbM, q1]
      have PN := Lib.hid i1
      clear hcs q0 q1 i0 i1 hbl hbM
      have MC := Lib.hid (must_calls _ M mE mB e b kd nn (Blk.alloc I.out.2.2.1 (Obj.cells #[.int .i64 kd, .int .i64 nn] 33)) HP.out.1 HP.out.2 I.out.1 I.out.2.1 PN.out)
      have h63 : N ≤ 9223372036854775807 := HL.out
      by_cases hz : chargeErr mE mB e b kd nn = 0
      · have GO1 := Lib.hid (GO.out hz)
        have HZ := Lib.hid (show mustEnd (chargeErr mE mB e b kd nn) = .returned (.tuple #[]) from if_pos hz)
        clear hz
        go_wp2_with fail
        refine MC.out.mono ?_
        rintro x w5 ⟨hx5, hm, ho⟩
        rw [HZ.out] at hx5
        subst hx5
        have J := Lib.hid (show BInv w w5 M E mE mB (chargeE mE e kd) (chargeB mB b kd nn) from ⟨chargeE_fine HP.out.1 I.out.1, chargeB_fine HP.out.2 I.out.2.1, hm, (I.out.2.2.2.1.alloc _).only ho (Ne.symm I.out.2.2.2.2.1.1), I.out.2.2.2.2.1, (I.out.2.2.2.2.2.alloc _).trans ho⟩)
        clear hm ho
        go_wp2_with fail
        go_roundg (N - (k + 1))
        case measure => omega
        case rel => exact ⟨k + 1, by omega, by omega, by go_num, by go_num, _, _, J.out, GO1.out⟩
      · have ST1 := Lib.hid (ST.out hz)
        have HZ := Lib.hid (show mustEnd (chargeErr mE mB e b kd nn) = .panicked (noChain (chargeErr mE mB e b kd nn)) from if_neg hz)
        clear hz
        generalize chargeErr mE mB e b kd nn = er at *
        go_wp2_with fail
        refine MC.out.mono ?_
        rintro x w5 ⟨hx5, hm, ho⟩
        rw [HZ.out] at hx5
        subst hx5
        have hE : Blk w5 E #[.int .i64 0] 31 := (I.out.2.2.2.1.alloc _).only ho (Ne.symm I.out.2.2.2.2.1.1)
        have J := Lib.hid (show Mt w5 M mE mB (chargeE mE e kd) (chargeB mB b kd nn) ∧ (M ≠ E ∧ w.heap.size ≤ E) ∧ Only M w w5 ∧ Blk w5 E #[.int .i64 0] 31 from ⟨hm, I.out.2.2.2.2.1, (I.out.2.2.2.2.2.alloc _).trans ho, hE⟩)
        clear hm ho hE
        refine leaves_cons (f := 20) (args := #[.pointer (some ⟨E, 0, none⟩)]) (by simp) (by simp [go_sem]) ?_
        refine (catch_panicking ⟨E, 0, none⟩ 0 er [] w5 (J.out.2.2.2.cell 0) (J.out.2.2.2.free 0)).mono ?_
        rintro e u' w'' ⟨rfl, rfl, rfl⟩
        have c0 : (w5.setCell ⟨E, 0, none⟩ (.int .i64 er)).cell? ⟨E, 0, none⟩ = some (.int .i64 er) := (J.out.2.2.2.set 0 _).cell 0
        simp [Leaves, settle, results, Try.results15, go_sem, c0]
        rw [ST1.out]
        exact ⟨⟨rfl, rfl⟩, J.out.1.other _ (Ne.symm J.out.2.1.1) _, J.out.2.2.1.setNew J.out.2.1.2 _ _⟩
    · obtain rfl : k = N := by omega
      have hEnd := Q.out
      rw [← hN, batch_end, hN] at hEnd
      have EN := Lib.hid hEnd
      have c0 := I.out.2.2.2.1.cell 0
      have f0 := I.out.2.2.2.1.free 0
      clear hEnd
      go_wp2_with fail
      refine leaves_cons (f := 20) (args := #[.pointer (some ⟨E, 0, none⟩)]) (by simp) (by simp [go_sem]) ?_
      refine (catch_idle ⟨E, 0, none⟩ _).mono ?_
      rintro e u' w'' ⟨rfl, rfl, rfl⟩
      have c1 : (wr.setCell ⟨E, 0, none⟩ (.int .i64 0)).cell? ⟨E, 0, none⟩ = some (.int .i64 0) := (I.out.2.2.2.1.set 0 _).cell 0
      simp [Leaves, settle, results, Try.results15, go_sem, c1]
      rw [EN.out]
      exact ⟨⟨rfl, rfl⟩, I.out.2.2.1.other _ (Ne.symm I.out.2.2.2.2.1.1) _, I.out.2.2.2.2.2.setNew I.out.2.2.2.2.1.2 _ _⟩
end Go.Proofs.Ytejeepmcoafdcaa
