/-
  QuotaBatches: for every configuration and every list of batches, QuotaBatches returns true. No condition.
-/
import Derived.Test.YtejeepmcoafdcaaQuotaKit
import Derived.Laws.StructEq
import Derived.Deep.RegionHeld3
namespace Go.Proofs.Ytejeepmcoafdcaa
open Go.ChangeShapes Go.WideShapes Go.ChangeAt Go.RowKit
set_option linter.unusedVariables false

theorem charge_neq_same (a b : Int) (w : World) : (binOp .neq 33 (.agg #[.int .i64 a, .int .i64 b]) (.agg #[.int .i64 a, .int .i64 b])).run Try.prog w = .ok (.bool false) w := by
  rw [run_neq_struct, show (10000 : Nat) = 9999 + 1 from rfl, run_equalIn_agg w 9999 _ _ _ (by kernel_rfl) (by kernel_rfl)]
  simp [Program.fieldsOf, Try.underlying33, Op.eqFields, go_sem]
theorem charge_guard (o : BinOp) (x y : Operand) (xs ys : Array Value) (w : World) : (eqGuard o 33 x y (.agg xs) (.agg ys)).run Try.prog w = .ok () w := run_eqGuard_agg w o _ x y xs ys (by kernel_rfl)

def encC (p : Int × Int) : List Value := [.int .i64 p.1, .int .i64 p.2]
theorem encC_len (p : Int × Int) : (encC p).length = 2 := rfl
theorem encC_one (p : Int × Int) : ∀ u ∈ encC p, u.oneCell' = true := by
  intro u hu
  simp [encC] at hu
  rcases hu with rfl | rfl <;> rfl
theorem Try.info33 : (Try.prog.info? 33).map (fun i => (i.zero, i.size, i.bytes)) = some (some (.agg #[.int .i64 0, .int .i64 0]), 2, 16) := by kernel_rfl
theorem RdP.many {w : World} {ao : Option Addr} {n c : Nat} {xs : List (Int × Int)} (h : RdP w (.slice ao n c) xs) (hn : ao = none → c = 0) : RdM w 2 encC (.slice ao n c) xs := by
  obtain ⟨ao', c', hv, h1, h2, h3, h4⟩ := h
  cases hv
  refine ⟨ao, c, rfl, h1, h2, hn, fun hne => ?_⟩
  obtain ⟨b, o, ha, hcs⟩ := h4 hne
  have hp : 0 < xs.length := List.length_pos_iff.2 hne
  refine ⟨b, o, ha, lt_of_cell (hcs 0 hp).1, fun i hi j hj => ?_⟩
  match j, hj with
  | 0, _ => simpa [encC] using (hcs i hi).1
  | 1, _ => simpa [encC] using (hcs i hi).2
theorem OwnM.rdP {w : World} {B g n cap : Nat} {e : TypeId} {xs : List (Int × Int)} (h : OwnM w B e 2 encC (.slice (some ⟨g, 0, none⟩) n cap) xs) (hi : ∀ p ∈ xs, IsInt p.1 ∧ IsInt p.2) : RdP w (.slice (some ⟨g, 0, none⟩) n cap) xs := by
  obtain ⟨rfl, h1, h2, h3, h4⟩ := h.len
  refine ⟨_, cap, rfl, h1, h2, hi, fun hne => ⟨g, 0, rfl, fun i hi => ?_⟩⟩
  have c0 := h.cell encC_len i hi 0 (by omega)
  have c1 := h.cell encC_len i hi 1 (by omega)
  rw [Nat.zero_add]
  exact ⟨by simpa [encC] using c0, by simpa [encC] using c1⟩
theorem RdP.ints {w : World} {v : Value} {xs : List (Int × Int)} (h : RdP w v xs) : ∀ p ∈ xs, IsInt p.1 ∧ IsInt p.2 := by
  obtain ⟨_, _, _, _, _, h3, _⟩ := h
  exact h3

/-- what a round keeps -/
def QInv (w wr : World) (M R : Nat) (mE mB e1 b1 e b : Int) : Prop :=
  Mt wr M mE mB e1 b1 ∧ Blk wr R (refCells mE mB e b) 30 ∧ Below w.heap.size w wr ∧ Fine e ∧ Fine b
/-- what a round of the document's loop keeps -/
def DInv (mE mB : Int) (xs : List (Int × Int)) (r : Nat × Int × Int × Int) (j : Nat) (er e b : Int) : Prop :=
  (er = 0 → r = plus j (batch mE mB (xs.drop j) e b)) ∧ (¬ er = 0 → r = (j, er, e, b))

set_option maxRecDepth 100000 in
set_option maxHeartbeats 4000000 in
theorem quotaBatches_calls (v1 : Value) (mE mB : Int) (v2 : Value) (bs : List (List (Int × Int))) (w : World) (hc : Cfg v1 mE mB) (h : RdB w v2 bs) (hz : ∀ xs ∈ bs, xs.length * 16 ≤ 140737488351232) :
    Calls Try.prog 4 #[v1, v2] w (Holds w) := by
  obtain ⟨hE, hB, c2, c3, c4, c5, c6, c7, c8, c9, c10, c11, c12, rfl⟩ := hc
  obtain ⟨ao, cc, rfl⟩ := h.any
  have HR := Lib.hid h
  have HL := Lib.hid h.len
  have HZ := Lib.hid hz
  have HP := Lib.hid (show IsInt mE ∧ IsInt mB from ⟨hE, hB⟩)
  clear h hE hB hz
  go_enter Try.func4, Try.ntmps4
  go_wp2_with fail
  refine (alive_calls _).mono ?_
  rintro e w1 ⟨rfl, hb1⟩
  have b0 := Blk.new w #[.int .i64 mE, .int .i64 mB, c2, c3, c4, c5, c6, c7, c8, c9, c10, c11, c12] 24
  have s0 := b0.lt
  have b1 := b0.below hb1 s0
  have hb1' := ((Below.refl w.heap.size w).alloc (Nat.le_refl _) (Obj.cells #[.int .i64 mE, .int .i64 mB, c2, c3, c4, c5, c6, c7, c8, c9, c10, c11, c12] 24)).trans (hb1.mono (by simp))
  clear hb1 b0 s0
  obtain ⟨k0, k1, k2, k3, k4, k5, k6, k7, k8, k9, k10, k11, k12⟩ := cells13 b1
  have B1 := Lib.hid b1
  have X1 := Lib.hid hb1'
  clear b1 hb1'
  go_wp2_with fail
  refine (new_calls mE mB _ _ _ _ _ _ _ _ _ _ _ w1).mono ?_
  clear k0 k1 k2 k3 k4 k5 k6 k7 k8 k9 k10 k11 k12
  rintro e w2 ⟨M, rfl, hM, hm, hb2⟩
  have hMO : M < w2.heap.size := Blk.lt hm
  have b2 := B1.out.below hb2 B1.out.lt
  obtain ⟨k0, k1, k2, k3, k4, k5, k6, k7, k8, k9, k10, k11, k12⟩ := cells13 b2
  have X2 := Lib.hid (X1.out.trans (hb2.mono X1.out.size))
  have M2 := Lib.hid hm
  have HM := Lib.hid (show w.heap.size < M from Nat.lt_of_lt_of_le B1.out.lt hM)
  clear b2 hb2 hm hM k2 k3 k4 k5 k6 k7 k8 k9 k10 k11 k12
  go_wp2_with fail
  have hbR := (X2.out.alloc X2.out.size (Obj.cells (refCells mE mB 0 0) 30))
  have hR := Blk.new w2 (refCells mE mB 0 0) 30
  have mR : Mt (w2.alloc (Obj.cells (refCells mE mB 0 0) 30)) M mE mB 0 0 := Blk.alloc M2.out _
  have I0 := Lib.hid (show QInv w _ M w2.heap.size mE mB 0 0 0 0 from ⟨mR, hR, hbR, by unfold Fine; omega, by unfold Fine; omega⟩)
  clear hbR hR mR k0 k1
  unfold refCells at I0
  generalize hw4 : w2.alloc _ = w4 at *
  have HO := Lib.hid (show M < w2.heap.size ∧ w.heap.size < M from ⟨hMO, HM.out⟩)
  clear HM X1 X2 M2 B1 hMO hw4
  generalize w2.heap.size = R at *
  clear w1 w2
  generalize hN : bs.length = N at *
  have EN := Lib.hid hN
  clear hN
  go_loopg [7] N (fun g s wr => ∃ k : Nat, k ≤ N ∧ N - k ≤ g ∧ s = .int .i64 k ∧ ∃ e b, QInv w wr M R mE mB e b e b)
  case atStart => exact ⟨0, Nat.zero_le _, by omega, rfl, 0, 0, I0.out⟩
  case round =>
    obtain ⟨k, hk, hg, rfl, e, b, hI⟩ := hrel
    have I := Lib.hid hI
    clear hI I0
    have h63 : N ≤ 9223372036854775807 := HL.out
    by_cases hlt : k < N
    · obtain ⟨bb, oo, rfl, hbl, hcs⟩ := HR.out.at (by have := EN.out; omega)
      obtain ⟨ai, ci, q0, q1, q2, q3⟩ := hcs k (by have := EN.out; omega)
      have HX := Lib.hid (HZ.out _ q2)
      generalize bs.getD k [] = xs at *
      have hb := I.out.2.2.1
      have g0 : wr.cell? ⟨bb, oo + k, none⟩ = some (.slice ai xs.length ci) := by rw [hb.cell hbl, q0]
      have Q0 := Lib.hid (show w.cell? ⟨bb, oo + k, none⟩ = some (.slice ai xs.length ci) from q0)
      have QX := Lib.hid q1
      have QN := Lib.hid q3
      have HBL := Lib.hid hbl
      have QM := Lib.hid (((q1.below hb).many q3).alloc (.cells #[] 33))
      clear hcs q0 q1 q2 q3 hb hbl
      have hxl : xs.length ≤ 9223372036854775807 := QX.out.len
      have hbs : bb < wr.heap.size := lt_of_cell g0
      have g1 : (wr.alloc (.cells #[] 33)).cell? ⟨bb, oo + k, none⟩ = some (.slice ai xs.length ci) := by rw [((Below.refl wr.heap.size wr).alloc (Nat.le_refl _) _).cell hbs, g0]
      go_wp2_with (at_builtin; refine wpList_push_allM _ rfl (.tmp 34) (.tmp 38) 25 rfl wr.heap.size 33 (.agg #[.int .i64 0, .int .i64 0]) 2 16 encC Try.underlying25 Try.info33 rfl (by omega) encC_len wr.heap.size 0 0 [] xs _ rfl (OwnM.empty _ _ _ _ _ (Nat.le_refl _)) rfl QM.out encC_one (by have := HX.out; omega) (by unfold maxLen; omega) (by simp) ?_; intro g cap w5 hown hb5)
      replace hb5 := ((Below.refl wr.heap.size wr).alloc (Nat.le_refl _) (.cells #[] 33)).trans hb5
      have hgl := hown.len
      have hsz5 := hb5.size
      have hgR : g ≠ M ∧ g ≠ R ∧ wr.heap.size ≤ g := by have := Blk.lt I.out.1; have := Blk.lt I.out.2.1; omega
      have I5 := Lib.hid (show QInv w w5 M R mE mB e b e b from ⟨Blk.below I.out.1 hb5 (Blk.lt I.out.1), Blk.below I.out.2.1 hb5 (Blk.lt I.out.2.1), I.out.2.2.1.trans (hb5.mono I.out.2.2.1.size), I.out.2.2.2⟩)
      have OW := Lib.hid (show OwnM w5 wr.heap.size 33 2 encC (.slice (some ⟨g, 0, none⟩) xs.length cap) xs from by simpa using hown)
      have GR := Lib.hid hgR
      have C1 := Lib.hid (batch_calls w5 M mE mB e b (some ⟨g, 0, none⟩) xs.length cap xs I5.out.1 HP.out.1 HP.out.2 I5.out.2.2.2.1 I5.out.2.2.2.2 (OW.out.rdP QX.out.ints) (fun _ b' o' hb' => by cases hb'; exact GR.out.1))
      have F1 := Lib.hid (batch_fine HP.out.1 HP.out.2 xs I.out.2.2.2.1 I.out.2.2.2.2)
      have T0 := Lib.hid (show DInv mE mB xs (batch mE mB xs e b) 0 0 e b from ⟨fun _ => rfl, fun h => absurd rfl h⟩)
      clear hown hb5 hgl hsz5 hgR g0 g1 hbs QM I
      generalize hr : batch mE mB xs e b = r at *
      clear hr
      obtain ⟨d, er0, e1, b1⟩ := r
      replace F1 := Lib.hid (show Fine e1 ∧ Fine b1 from F1.out)
      generalize wr.heap.size = S at *
      clear wr
      generalize hn : xs.length = n at *
      have XN := Lib.hid hn
      clear hn
      go_wp2_with fail
      refine C1.out.mono ?_
      rintro x w6 ⟨rfl, hm, ho⟩
      have g0 : w6.cell? ⟨bb, oo + k, none⟩ = some (.slice ai n ci) := by
        have h1 := HBL.out
        rw [World.cell?_of_block (ho.block bb (Nat.lt_of_lt_of_le h1 I5.out.2.2.1.size) (by have := HO.out; show bb ≠ M; omega)), I5.out.2.2.1.cell h1, Q0.out]
      have J := Lib.hid (show QInv w w6 M R mE mB e1 b1 e b from ⟨hm, I5.out.2.1.only ho (by have := HO.out; omega), I5.out.2.2.1.trans (ho.below (by have := HO.out; omega) I5.out.2.2.1.size), I5.out.2.2.2⟩)
      have OW6 := Lib.hid (OW.out.block (ho.block g OW.out.len.2.2.2.2 GR.out.1))
      clear hm ho C1 I5 OW
      clear w5
      have R6 := Lib.hid (show d ≤ n → True from fun _ => trivial)
      go_wp2_with fail
      go_loopg [11, 12, 13, 14] (n + 1) (fun g' s11 s12 s13 s14 wx => ∃ (j : Nat) (er e' b' : Int), j ≤ n ∧ n - j + (if er = 0 then 1 else 0) ≤ g' ∧ s12 = .int .i64 j ∧ s11 = .int .i64 er ∧ DInv mE mB xs (d, er0, e1, b1) j er e' b' ∧ QInv w wx M R mE mB e1 b1 e' b' ∧ OwnM wx S 33 2 encC (.slice (some ⟨g, 0, none⟩) n cap) xs)
      case atStart => exact ⟨0, 0, e, b, Nat.zero_le _, by simp, rfl, rfl, T0.out, J.out, OW6.out⟩
      case round =>
        obtain ⟨j, er, e', b', hj, hg', rfl, rfl, hD, hJ, hW⟩ := hrel
        clear J OW6 T0 g0
        have D := Lib.hid hD
        have J := Lib.hid hJ
        have OW := Lib.hid hW
        have g0 : wr.cell? ⟨bb, oo + k, none⟩ = some (.slice ai n ci) := by rw [hJ.2.2.1.cell HBL.out, Q0.out]
        clear hD hJ hW
        by_cases hgo : j < n ∧ er = 0
        · obtain ⟨hjn, rfl⟩ := hgo
          obtain ⟨cb, co, rfl, hcb, hcc⟩ := QX.out.at (by have := XN.out; omega)
          obtain ⟨q0, q1, i0, i1⟩ := hcc j (by have := XN.out; omega)
          have GO := Lib.hid (fun hz => (D.out.1 rfl).trans (batch_go (mE := mE) (mB := mB) (xs := xs) (e := e') (b := b') (k := j) (by have := XN.out; omega) hz))
          have ST := Lib.hid (fun hz => (D.out.1 rfl).trans (batch_stop (mE := mE) (mB := mB) (xs := xs) (e := e') (b := b') (k := j) (by have := XN.out; omega) hz))
          generalize (xs.getD j (0, 0)).1 = kd at *
          generalize (xs.getD j (0, 0)).2 = nn at *
          have g1 : wr.cell? ⟨cb, co + j * 2, none⟩ = some (.int .i64 kd) := by rw [J.out.2.2.1.cell hcb, q0]
          have g2 : wr.cell? ⟨cb, co + j * 2 + 1, none⟩ = some (.int .i64 nn) := by rw [J.out.2.2.1.cell hcb, q1]
          have PN := Lib.hid i1
          clear hcc q0 q1 i0 i1
          have r := J.out.2.1
          have r0 := Blk.cell r 0
          have r1 := Blk.cell r 1
          have r2 := Blk.cell r 2
          have r3 := Blk.cell r 3
          simp [refCells] at r0 r1 r2 r3
          clear r
          have hRs : R < wr.heap.size := Blk.lt J.out.2.1
          have hbs : bb < wr.heap.size := Nat.lt_of_lt_of_le HBL.out J.out.2.2.1.size
          have hcs : cb < wr.heap.size := Nat.lt_of_lt_of_le hcb J.out.2.2.1.size
          have SC : ∀ wz, Calls Try.prog 12 #[refM mE mB e' b', .int .i64 kd, .int .i64 nn] wz fun x w' => x = .returned (.tuple #[refM mE mB (chargeE mE e' kd) (chargeB mB b' kd nn), .int .i64 (chargeErr mE mB e' b' kd nn)]) ∧ Below wz.heap.size wz w' := fun wz => step_calls wz mE mB e' b' kd nn HP.out.1 HP.out.2 J.out.2.2.2.1 J.out.2.2.2.2 PN.out
          have SCH := Lib.hid SC
          clear SC hcb
          go_upto_region 16 with fail
          go_cut [13, 14] (fun s13 s14 wx => s14 = .int .i64 (chargeErr mE mB e' b' kd nn) ∧ ∃ N, s13 = .pointer (some ⟨N, 0, none⟩) ∧ wr.heap.size ≤ N ∧ Blk wx N (refCells mE mB (chargeE mE e' kd) (chargeB mB b' kd nn)) 30 ∧ Below wr.heap.size wr wx)
          case first =>
            have MK := Lib.hid (show ∀ wz, Below wr.heap.size wr wz → Below wr.heap.size wr wz ∧ wz.cell? ⟨R, 0, none⟩ = some (.int .i64 e') ∧ wz.cell? ⟨R, 1, none⟩ = some (.int .i64 b') ∧ wz.cell? ⟨R, 2, none⟩ = some (.int .i64 mE) ∧ wz.cell? ⟨R, 3, none⟩ = some (.int .i64 mB) ∧ wz.cell? ⟨bb, oo + k, none⟩ = some (.slice (some ⟨cb, co, none⟩) n ci) ∧ wz.cell? ⟨cb, co + j * 2, none⟩ = some (.int .i64 kd) ∧ wz.cell? ⟨cb, co + j * 2 + 1, none⟩ = some (.int .i64 nn) from
              fun wz hz => ⟨hz, by rw [hz.cell hRs, r0], by rw [hz.cell hRs, r1], by rw [hz.cell hRs, r2], by rw [hz.cell hRs, r3], by rw [hz.cell hbs, g0], by rw [hz.cell hcs, g1], by rw [hz.cell hcs, g2]⟩)
            have hk0 : (0 : Int) ≤ ↑k := by omega
            have hk1 : (↑k : Int) < ↑N := by omega
            have hj0 : (0 : Int) ≤ ↑j := by omega
            have hj1 : (↑j : Int) < ↑n := by omega
            go_region_held3 (fun wz => Below wr.heap.size wr wz ∧ wz.cell? ⟨R, 0, none⟩ = some (.int .i64 e') ∧ wz.cell? ⟨R, 1, none⟩ = some (.int .i64 b') ∧ wz.cell? ⟨R, 2, none⟩ = some (.int .i64 mE) ∧ wz.cell? ⟨R, 3, none⟩ = some (.int .i64 mB) ∧ wz.cell? ⟨bb, oo + k, none⟩ = some (.slice (some ⟨cb, co, none⟩) n ci) ∧ wz.cell? ⟨cb, co + j * 2, none⟩ = some (.int .i64 kd) ∧ wz.cell? ⟨cb, co + j * 2 + 1, none⟩ = some (.int .i64 nn))
              ((refine MK.out _ ?_; first | exact (Below.refl _ _).drew | exact ((Below.refl _ _).alloc (Nat.le_refl _) _).drew | exact BX.out | exact BX.out.alloc BX.out.size _ | exact (((BX.out.setCell (Nat.le_refl _) _).setCell (Nat.le_refl _) _).setCell (Nat.le_refl _) _).setCell (Nat.le_refl _) _))
              (first | (go_at_call 12; refine (SCH.out _).mono ?_; rintro e3 wx ⟨rfl, hbx⟩; unfold refM; first | (have BX := Lib.hid (((Below.refl wr.heap.size wr).alloc (Nat.le_refl _) _).drew.trans (hbx.mono (by simp))); have nb := Blk.below (w := World.drew (World.alloc _ _)) (Blk.drew (Blk.new _ _ _)) hbx (by simp); have n0 := Blk.cell nb 0; have n1 := Blk.cell nb 1; have n2 := Blk.cell nb 2; have n3 := Blk.cell nb 3; have f0 := Blk.free nb 0; have f1 := Blk.free nb 1; have f2 := Blk.free nb 2; have f3 := Blk.free nb 3; simp at n0 n1 n2 n3 f0 f1 f2 f3; replace nb := Lib.hid nb; clear hbx) | (have BX := Lib.hid ((Below.refl wr.heap.size wr).drew.trans hbx); clear hbx)))
            all_goals go_wp2_with fail
            all_goals go_meet
            all_goals first
              | exact ⟨rfl, _, rfl, BX.out.size, Blk.new _ _ _, BX.out.alloc BX.out.size _⟩
              | exact ⟨rfl, _, rfl, Nat.le_refl _, (((nb.out.set 0 _).set 1 _).set 2 _).set 3 _, (((BX.out.setCell (Nat.le_refl _) _).setCell (Nat.le_refl _) _).setCell (Nat.le_refl _) _).setCell (Nat.le_refl _) _⟩
              | (trace_state; sorry)
          case rest =>
            rename World => w7
            obtain ⟨rfl, N, rfl, hN, hbk, hbw⟩ := hcut
            have n0 := Blk.cell hbk 0
            have n1 := Blk.cell hbk 1
            have n2 := Blk.cell hbk 2
            have n3 := Blk.cell hbk 3
            have rr := J.out.2.1.below hbw hRs
            have fr : ∀ i, w7.frozen? ⟨R, i, none⟩ = false := fun i => Blk.free rr i
            have r0 := Blk.cell rr 0
            have r1 := Blk.cell rr 1
            have r2 := Blk.cell rr 2
            have r3 := Blk.cell rr 3
            simp [refCells] at n0 n1 n2 n3 r0 r1 r2 r3
            have hRM : R ≠ M := by have := HO.out; omega
            have hRg : R ≠ g := by have := GR.out; omega
            have hwR : w.heap.size ≤ R := by have := HO.out; omega
            have hgw : g < wr.heap.size := OW.out.len.2.2.2.2
            have K8 := Lib.hid (show ∀ a0 a1 a2 a3, a0 = .int .i64 (chargeE mE e' kd) → a1 = .int .i64 (chargeB mB b' kd nn) → a2 = .int .i64 mE → a3 = .int .i64 mB → QInv w ((((w7.setCell ⟨R, 0, none⟩ a0).setCell ⟨R, 1, none⟩ a1).setCell ⟨R, 2, none⟩ a2).setCell ⟨R, 3, none⟩ a3) M R mE mB e1 b1 (chargeE mE e' kd) (chargeB mB b' kd nn) ∧ OwnM ((((w7.setCell ⟨R, 0, none⟩ a0).setCell ⟨R, 1, none⟩ a1).setCell ⟨R, 2, none⟩ a2).setCell ⟨R, 3, none⟩ a3) S 33 2 encC (.slice (some ⟨g, 0, none⟩) n cap) xs from by
              rintro _ _ _ _ rfl rfl rfl rfl
              exact ⟨⟨(((Mt.other (Blk.below J.out.1 hbw (Blk.lt J.out.1)) _ hRM _).other _ hRM _).other _ hRM _).other _ hRM _, (((rr.set 0 _).set 1 _).set 2 _).set 3 _,
                ((((J.out.2.2.1.trans (hbw.mono J.out.2.2.1.size)).setCell hwR _).setCell hwR _).setCell hwR _).setCell hwR _, chargeE_fine HP.out.1 J.out.2.2.2.1, chargeB_fine HP.out.2 J.out.2.2.2.2⟩,
                ((((OW.out.below hbw hgw).other _ hRg _).other _ hRg _).other _ hRg _).other _ hRg _⟩)
            have ND := Lib.hid (show (chargeErr mE mB e' b' kd nn = 0 → DInv mE mB xs (d, er0, e1, b1) (j + 1) 0 (chargeE mE e' kd) (chargeB mB b' kd nn)) ∧ (¬ chargeErr mE mB e' b' kd nn = 0 → DInv mE mB xs (d, er0, e1, b1) j (chargeErr mE mB e' b' kd nn) (chargeE mE e' kd) (chargeB mB b' kd nn)) from
              ⟨fun hz => ⟨fun _ => GO.out hz, fun h => absurd rfl h⟩, fun hz => ⟨fun h => absurd h hz, fun _ => ST.out hz⟩⟩)
            clear hbk hbw rr hRM hRg hwR hgw hN g0 g1 g2 hRs hbs hcs D GO ST SCH OW J
            simp only [if_true] at hg'
            generalize chargeE mE e' kd = e2 at *
            generalize chargeB mB b' kd nn = b2 at *
            generalize chargeErr mE mB e' b' kd nn = er2 at *
            by_cases hz : er2 = 0
            · subst hz
              have ND1 := Lib.hid (ND.out.1 rfl)
              go_wp2_with fail
              go_roundg (n - (j + 1) + 1)
              case measure => omega
              case rel => exact ⟨j + 1, 0, e2, b2, by omega, by simp, by go_num, rfl, ND1.out, (K8.out _ _ _ _ rfl rfl rfl rfl).1, (K8.out _ _ _ _ rfl rfl rfl rfl).2⟩
            · have ND1 := Lib.hid (ND.out.2 hz)
              have t1 : (er2 == 0) = false := by simp [hz]
              have hz' := Lib.hid hz
              clear hz
              go_wp2_with fail
              go_roundg (n - j)
              case measure => omega
              case rel => exact ⟨j, er2, e2, b2, by omega, by rw [if_neg hz'.out]; omega, rfl, rfl, ND1.out, (K8.out _ _ _ _ rfl rfl rfl rfl).1, (K8.out _ _ _ _ rfl rfl rfl rfl).2⟩
        · have hend : (d, er0, e1, b1) = (j, er, e', b') ∧ ((j = n ∧ er = 0) ∨ ¬ er = 0) := by
            by_cases hz : er = 0
            · have hjn : j = n := by omega
              refine ⟨?_, Or.inl ⟨hjn, hz⟩⟩
              have h1 := D.out.1 hz
              rw [hjn, ← XN.out, batch_end] at h1
              rw [h1, hz, hjn, XN.out]
            · exact ⟨D.out.2 hz, Or.inr hz⟩
          obtain ⟨heq, hor⟩ := hend
          simp only [Prod.mk.injEq] at heq
          obtain ⟨rfl, rfl, rfl, rfl⟩ := heq
          clear hgo D hg'
          have hcase : (n ≤ d ∧ er0 = 0) ∨ (n ≤ d ∧ ¬ er0 = 0) ∨ (d < n ∧ ¬ er0 = 0) := by omega
          clear hor
          have r := J.out.2.1
          have r0 := Blk.cell r 0
          have r1 := Blk.cell r 1
          simp [refCells] at r0 r1
          clear r
          rcases hcase with ⟨h1, rfl⟩ | ⟨h1, h2⟩ | ⟨h1, h2⟩
          case' inr.inl =>
            have t1 : (er0 == 0) = false := by simp [h2]
            replace h2 := Lib.hid h2
          case' inr.inr =>
            have t1 : (er0 == 0) = false := by simp [h2]
            replace h2 := Lib.hid h2
          all_goals
            go_wp2_with fail
            go_quiet (first
              | (go_at_call 13; exact Calls.quiet_of_same (entries_calls _ M mE mB e1 b1 (Blk.drawn J.out.1 ⟨_, rfl⟩)))
              | (go_at_call 14; exact Calls.quiet_of_same (written_calls _ M mE mB e1 b1 (Blk.drawn J.out.1 ⟨_, rfl⟩))))
            have I9 := Lib.hid (show ∀ q, QInv w (wr.drewN q) M R mE mB e1 b1 e1 b1 ∧ OwnM (wr.drewN q) S 33 2 encC _ xs from fun q =>
              have hd : Drawn wr (wr.drewN q) := ⟨q, rfl⟩
              ⟨⟨Blk.drawn J.out.1 hd, Blk.drawn J.out.2.1 hd, J.out.2.2.1.trans (hd.below _), J.out.2.2.2⟩, OW.out.heap hd.heap⟩)
            go_wp2_with fail
            clear r0 r1 g0 OW J
            go_loopg [15] n (fun g' s15 wx => ∃ j : Nat, j ≤ n ∧ n - j ≤ g' ∧ s15 = .int .i64 j ∧ QInv w wx M R mE mB e1 b1 e1 b1 ∧ OwnM wx S 33 2 encC (.slice (some ⟨g, 0, none⟩) n cap) xs)
            case atStart => exact ⟨0, Nat.zero_le _, by omega, rfl, (I9.out _).1, (I9.out _).2⟩
            case round =>
              obtain ⟨j, hj2, hg2, rfl, hJ, hW⟩ := hrel
              clear I9
              by_cases hjn : j < n
              · obtain ⟨cb, co, rfl, hcb, hcc⟩ := QX.out.at (by have := XN.out; omega)
                obtain ⟨q0, q1, i0, i1⟩ := hcc j (by have := XN.out; omega)
                have hjx : j < xs.length := by have := XN.out; omega
                have x0 := hW.cell encC_len j hjx 0 (by omega)
                have x1 := hW.cell encC_len j hjx 1 (by omega)
                have hxs : xs[j] = xs.getD j (0, 0) := by simp [List.getD, List.getElem?_eq_getElem hjx]
                rw [hxs] at x0 x1
                simp only [encC, List.getElem?_cons_zero, List.getElem?_cons_succ, Nat.add_zero] at x0 x1
                generalize (xs.getD j (0, 0)).1 = kd at *
                generalize (xs.getD j (0, 0)).2 = nn at *
                have g0 : wr.cell? ⟨bb, oo + k, none⟩ = some (.slice (some ⟨cb, co, none⟩) n ci) := by rw [hJ.2.2.1.cell HBL.out, Q0.out]
                have g1 : wr.cell? ⟨cb, co + j * 2, none⟩ = some (.int .i64 kd) := by rw [hJ.2.2.1.cell hcb, q0]
                have g2 : wr.cell? ⟨cb, co + j * 2 + 1, none⟩ = some (.int .i64 nn) := by rw [hJ.2.2.1.cell hcb, q1]
                have I9 := Lib.hid (show ∀ q, QInv w (wr.drewN q) M R mE mB e1 b1 e1 b1 ∧ OwnM (wr.drewN q) S 33 2 encC _ xs from fun q =>
                  have hd : Drawn wr (wr.drewN q) := ⟨q, rfl⟩
                  ⟨⟨Blk.drawn hJ.1 hd, Blk.drawn hJ.2.1 hd, hJ.2.2.1.trans (hd.below _), hJ.2.2.2⟩, hW.heap hd.heap⟩)
                clear hJ hW hcc hjx hxs q0 q1 i0 i1 hcb
                have ne := charge_neq_same kd nn
                have gd := charge_guard
                have hk0 : (0 : Int) ≤ ↑k := by omega
                have hk1 : (↑k : Int) < ↑N := by omega
                have hj0 : (0 : Int) ≤ ↑j := by omega
                have hj1 : (↑j : Int) < ↑n := by omega
                go_wp2_with fail
                go_quiet (fail)
                go_wp2_with fail
                go_roundg (n - (j + 1))
                case measure => omega
                case rel => exact ⟨j + 1, by omega, by omega, by go_num, (I9.out _).1, (I9.out _).2⟩
              · have I9 := Lib.hid hJ
                clear hJ hW
                go_wp2_with fail
                go_roundg (N - (k + 1))
                case measure => omega
                case rel => exact ⟨k + 1, by omega, by omega, by go_num, e1, b1, I9.out⟩
    · obtain rfl : k = N := by omega
      have HX := Lib.hid I.out.2.2.1
      go_wp2
      go_ret
      exact ⟨rfl, HX.out⟩
theorem quotaBatches_core {H : Type} (enc : TypeId × Value → H) (W : World) (base : Nat) (args : Array Value) (ds : List (DataW H)) (before : List MemPlace)
    (hval : ∀ (j : Nat) t v, Try.f4.params[j]? = some t → args[j]? = some v → Value.okWide Try.prog W .any base t v)
    (hW : DataW.Whole enc Try.prog Try.f4.params.toList [] false W args.toList ds [] before)
    (hsz : (DataW.weightsEach Try.prog (Try.f4.params.toList ++ []) (ds ++ [])).all (· ≤ reachBytes) = true) (hsh : W.ShapedOpen Try.prog) :
    Calls Try.prog 4 args W (Holds W) := by
  obtain ⟨p, q, hA0, hV, rfl, _, _⟩ := hW
  have hA : DataW.TrodAll enc Try.prog W 0 (fun _ => true) true Try.f4.params.toList args.toList ds p := hA0
  rw [Try.params4] at hA hval hsz
  obtain ⟨v0, vs0, d0, ds0, p0, q0, hargs, rfl, rfl, h0, r0⟩ := trodAll_cons hA
  obtain ⟨v1, vs1, d1, ds1, p1, q1, rfl, rfl, rfl, h1, r1⟩ := trodAll_cons r0
  obtain ⟨rfl, rfl, rfl⟩ := trodAll_nil r1
  obtain rfl : args = #[v0, v1] := by cases args; simp_all
  obtain ⟨a0, b0, rd0⟩ := open_cfg (hval 0 _ v0 rfl rfl) h0
  obtain ⟨a1, rd1, td1⟩ := open_batches (hval 1 _ v1 rfl rfl) h1
  have z1 := batches_bound hsz (j := 1) rfl rfl td1
  exact quotaBatches_calls v0 a0 b0 v1 a1 W rd0 rd1 z1

set_option maxRecDepth 100000 in
theorem quotaBatches_reads (os : Os) {H : Type} (enc : TypeId × Value → H) : ∃ places, DataW.whole enc Try.prog ((World.holding Try.prog os ⟨#[], #[], []⟩).forCall (fun _ _ => 0) ⟨#[], #[.agg #[.int .i64 0, .int .i64 0, .int .i64 0, .int .i64 0, .int .i64 0, .int .i64 0, .int .i64 0, .int .i64 0, .int .i64 0, .bool false, .bool false, .slice none 0 0, .slice none 0 0], .slice none 0 0], []⟩).memory Try.f4.params.toList Rows.quotaBatchesSpec.vars false (#[.agg #[.int .i64 0, .int .i64 0, .int .i64 0, .int .i64 0, .int .i64 0, .int .i64 0, .int .i64 0, .int .i64 0, .int .i64 0, .bool false, .bool false, .slice none 0 0, .slice none 0 0], .slice none 0 0] : Array Value).toList 8 = some ([.agg [.lit (.int .i64 0), .lit (.int .i64 0), .lit (.int .i64 0), .lit (.int .i64 0), .lit (.int .i64 0), .lit (.int .i64 0), .lit (.int .i64 0), .lit (.int .i64 0), .lit (.int .i64 0), .lit (.bool false), .lit (.bool false), .nil, .nil], .nil], [], places) :=
  ⟨[], by kernel_rfl⟩
set_option maxRecDepth 100000 in
theorem quotaBatches_lifted (os : Os) (started : os.Started) (H : Type) (enc : TypeId × Value → H) (F : Stop.Interp) :
    ReturnsInHanded {} Try.checked os 4 .any ((OpenSpec.ofChange Rows.quotaBatchesSpec).preRow enc Try.prog Try.f4 Rows.quotaBatchesRow.domain false Rows.quotaBatchesRow.laid) (((OpenSpec.ofChange Rows.quotaBatchesSpec).at F).post enc Try.prog Try.f4 false true false false) := by
  obtain ⟨places, hx⟩ := quotaBatches_reads os enc
  refine returnsInHanded_of_row (C := Try.checked) (s := OpenSpec.ofChange Rows.quotaBatchesSpec) own started (by kernel_rfl) Try.func4
    (witness_row_at (enc := enc) (C := Try.checked) false (World.holding Try.prog os ⟨#[], #[], []⟩) #[.agg #[.int .i64 0, .int .i64 0, .int .i64 0, .int .i64 0, .int .i64 0, .int .i64 0, .int .i64 0, .int .i64 0, .int .i64 0, .bool false, .bool false, .slice none 0 0, .slice none 0 0], .slice none 0 0] rfl (by kernel_rfl) (by kernel_rfl) (by kernel_rfl)
      (OpenSpec.preRow_of_cond 8 hx (by kernel_rfl) (fun k hk => by cases hk) (by kernel_rfl) (laidMetH_nil _ _))) ?_
  intro W base args ds gs before hval hW _ hcond hsz hL hsh _
  obtain rfl : gs = [] := by
    obtain ⟨p, q, hA0, hV, _⟩ := hW
    exact (trodVars_none hV).1
  obtain ⟨d0, d1, rfl⟩ : ∃ d0 d1, ds = [d0, d1] := by
    obtain ⟨p, q, hA0, _⟩ := hW
    have hA : DataW.TrodAll enc Try.prog W 0 (fun _ => true) true Try.f4.params.toList args.toList ds p := hA0
    rw [Try.params4] at hA
    obtain ⟨v0, vs0, d0, ds0, p0, q0, _, rfl, _, _, r0⟩ := trodAll_cons hA
    obtain ⟨v1, vs1, d1, ds1, p1, q1, _, rfl, _, _, r1⟩ := trodAll_cons r0
    obtain ⟨_, rfl, _⟩ := trodAll_nil r1
    exact ⟨_, _, rfl⟩
  refine (quotaBatches_core enc W base args _ before hval hW hsz hsh).mono fun e W' ⟨he, hb⟩ => ?_
  subst he
  exact ⟨_, rfl, law_post hW rfl (fun t ht => by rw [Try.params4] at ht; simp only [List.mem_cons, List.not_mem_nil, or_false] at ht; rcases ht with rfl | rfl <;> exact ⟨by kernel_rfl, of_decide_eq_true (by kernel_rfl)⟩) rfl rfl rfl rfl hb⟩
theorem quotaBatches_said : Rows.QuotaBatchesSaid :=
  OpenClaim.holds_of_cond 4 Try.f4 rfl rfl rfl rfl rfl rfl rfl ⟨rfl, rfl, rfl, rfl, rfl⟩ rfl rfl rfl rfl rfl (by kernel_rfl) Try.func4 (by kernel_rfl)
    (of_decide_eq_true (by kernel_rfl)) (by unfold Func.isWrapper; first | (rw [if_pos (by decide +kernel)]; kernel_rfl) | (rw [if_neg (by decide +kernel)]; exact ⟨rfl, rfl⟩))
    (fun os started H enc _ F => by rw [OpenClaim.pre_eq_preRow]; exact quotaBatches_lifted os started H enc F)
end Go.Proofs.Ytejeepmcoafdcaa
