/-
  QuotaCounts: for every configuration and every list of charges, QuotaCounts returns true. No condition.
-/
import Derived.Test.YtejeepmcoafdcaaCharges
import Derived.Test.YtejeepmcoafdcaaMalive
import Derived.Deep.RegionWith
import Derived.Deep.LoopGhost
import Derived.Deep.CutBlock
import Derived.Deep.DeepCutAuto
namespace Go.Proofs.Ytejeepmcoafdcaa
open Go.ChangeShapes Go.WideShapes Go.ChangeAt Go.RowKit
set_option linter.unusedVariables false

def refCells (mE mB e b : Int) : Array Value := #[.int .i64 e, .int .i64 b, .int .i64 mE, .int .i64 mB]
/-- what a round keeps -/
def CInv (w wr : World) (M O R : Nat) (mE mB e b e' b' : Int) : Prop :=
  Mt wr M mE mB e' b' ∧ Mt wr O mE mB 0 0 ∧ Blk wr R (refCells mE mB e b) 30 ∧ Below w.heap.size w wr ∧ Fine e ∧ Fine b

theorem wrap_small {n : Int} (h0 : 0 ≤ n) (h1 : n < 9223372036854775808) : wrap64 n = n := by unfold wrap64; omega
theorem cells13 {w : World} {N : Nat} {T : TypeId} {a0 a1 a2 a3 a4 a5 a6 a7 a8 a9 a10 a11 a12 : Value} (h : Blk w N #[a0, a1, a2, a3, a4, a5, a6, a7, a8, a9, a10, a11, a12] T) :
    w.cell? ⟨N, 0, none⟩ = some a0 ∧ w.cell? ⟨N, 1, none⟩ = some a1 ∧ w.cell? ⟨N, 2, none⟩ = some a2 ∧ w.cell? ⟨N, 3, none⟩ = some a3 ∧ w.cell? ⟨N, 4, none⟩ = some a4 ∧ w.cell? ⟨N, 5, none⟩ = some a5 ∧ w.cell? ⟨N, 6, none⟩ = some a6 ∧ w.cell? ⟨N, 7, none⟩ = some a7 ∧ w.cell? ⟨N, 8, none⟩ = some a8 ∧ w.cell? ⟨N, 9, none⟩ = some a9 ∧ w.cell? ⟨N, 10, none⟩ = some a10 ∧ w.cell? ⟨N, 11, none⟩ = some a11 ∧ w.cell? ⟨N, 12, none⟩ = some a12 := by
  have := fun i => Blk.cell h i
  exact ⟨this 0, this 1, this 2, this 3, this 4, this 5, this 6, this 7, this 8, this 9, this 10, this 11, this 12⟩
set_option maxHeartbeats 2000000 in
theorem quotaCounts_calls (v1 : Value) (mE mB : Int) (v2 : Value) (xs : List (Int × Int)) (w : World) (hc : Cfg v1 mE mB) (h : RdP w v2 xs) :
    Calls Try.prog 3 #[v1, v2] w (Holds w) := by
  obtain ⟨hE, hB, c2, c3, c4, c5, c6, c7, c8, c9, c10, c11, c12, rfl⟩ := hc
  obtain ⟨ao, cc, rfl⟩ := h.any
  have HR := Lib.hid h
  have HL := Lib.hid h.len
  have HE := Lib.hid hE
  have HB := Lib.hid hB
  clear h hE hB
  go_enter Try.func3, Try.ntmps3
  go_wp2_with fail
  refine (alive_calls _).mono ?_
  rintro e w1 ⟨rfl, hb1⟩
  have b0 := Blk.new w #[.int .i64 mE, .int .i64 mB, c2, c3, c4, c5, c6, c7, c8, c9, c10, c11, c12] 24
  have s0 := b0.lt
  have b1 := b0.below hb1 s0
  have hb1' := ((Below.refl w.heap.size w).alloc (Nat.le_refl _) (Obj.cells #[.int .i64 mE, .int .i64 mB, c2, c3, c4, c5, c6, c7, c8, c9, c10, c11, c12] 24)).trans (hb1.mono (by simp))
  clear hb1 b0 s0
  obtain ⟨k0, k1, k2, k3, k4, k5, k6, k7, k8, k9, k10, k11, k12⟩ := cells13 b1
  have B1 := Lib.hid b1
  have X1 := Lib.hid hb1'
  clear b1 hb1'
  go_wp2_with fail
  refine (new_calls mE mB _ _ _ _ _ _ _ _ _ _ _ w1).mono ?_
  clear k0 k1 k2 k3 k4 k5 k6 k7 k8 k9 k10 k11 k12
  rintro e w2 ⟨M, rfl, hM, hm, hb2⟩
  have hMO : M < w2.heap.size := Blk.lt hm
  have b2 := B1.out.below hb2 B1.out.lt
  obtain ⟨k0, k1, k2, k3, k4, k5, k6, k7, k8, k9, k10, k11, k12⟩ := cells13 b2
  have B2 := Lib.hid b2
  have X2 := Lib.hid (X1.out.trans (hb2.mono X1.out.size))
  have M2 := Lib.hid hm
  have HM := Lib.hid (show w.heap.size < M from Nat.lt_of_lt_of_le B1.out.lt hM)
  clear b2 hb2 hm hM
  go_wp2_with fail
  refine (new_calls mE mB _ _ _ _ _ _ _ _ _ _ _ w2).mono ?_
  clear k0 k1 k2 k3 k4 k5 k6 k7 k8 k9 k10 k11 k12
  rintro e w3 ⟨O, rfl, hO, ho, hb3⟩
  have hOR : O < w3.heap.size := Blk.lt ho
  have b3 := B2.out.below hb3 B2.out.lt
  obtain ⟨k0, k1, k2, k3, k4, k5, k6, k7, k8, k9, k10, k11, k12⟩ := cells13 b3
  have X3 := Lib.hid (X2.out.trans (hb3.mono X2.out.size))
  have M3 := Lib.hid (show Mt w3 M mE mB 0 0 from Blk.below M2.out hb3 hMO)
  have O3 := Lib.hid ho
  have HO := Lib.hid (show M < O ∧ O < w3.heap.size from ⟨Nat.lt_of_lt_of_le hMO hO, hOR⟩)
  clear k2 k3 k4 k5 k6 k7 k8 k9 k10 k11 k12 b3 hb3 ho hO hOR hMO
  go_wp2_with fail
  have hbR := (X3.out.alloc X3.out.size (Obj.cells (refCells mE mB 0 0) 30))
  have hR := Blk.new w3 (refCells mE mB 0 0) 30
  have mR : Mt (w3.alloc (Obj.cells (refCells mE mB 0 0) 30)) M mE mB 0 0 := Blk.alloc M3.out _
  have oR : Mt (w3.alloc (Obj.cells (refCells mE mB 0 0) 30)) O mE mB 0 0 := Blk.alloc O3.out _
  have I0 := Lib.hid (show CInv w _ M O w3.heap.size mE mB 0 0 0 0 from ⟨mR, oR, hR, hbR, by unfold Fine; omega, by unfold Fine; omega⟩)
  clear hbR hR mR oR k0 k1
  unfold refCells at I0
  generalize hw4 : w3.alloc _ = w4 at *
  have HO' := Lib.hid (show M < O ∧ O < w3.heap.size ∧ w.heap.size < M from ⟨HO.out.1, HO.out.2, HM.out⟩)
  clear HM HO X1 X2 X3 M2 M3 O3 B1 B2 hw4
  generalize w3.heap.size = R at *
  clear w1 w2 w3
  go_loopg [8] xs.length (fun g s wr => ∃ k : Nat, k ≤ xs.length ∧ xs.length - k ≤ g ∧ s = .int .i64 k ∧ ∃ e b, CInv w wr M O R mE mB e b e b)
  case atStart => exact ⟨0, Nat.zero_le _, by omega, rfl, 0, 0, I0.out⟩
  case round =>
    obtain ⟨k, hk, hg, rfl, e, b, hI⟩ := hrel
    have I := Lib.hid hI
    clear hI I0
    by_cases hlt : k < xs.length
    · obtain ⟨bb, oo, rfl, hbl, hcs⟩ := HR.out.at (by omega)
      obtain ⟨q0, q1, i0, i1⟩ := hcs k hlt
      generalize (xs.getD k (0, 0)).1 = kd at *
      generalize (xs.getD k (0, 0)).2 = nn at *
      have Q := Lib.hid (show bb < w.heap.size ∧ w.cell? ⟨bb, oo + k * 2 + 1, none⟩ = some (.int .i64 nn) ∧ IsInt nn from ⟨hbl, q1, i1⟩)
      have g0 : wr.cell? ⟨bb, oo + k * 2, none⟩ = some (.int .i64 kd) := by rw [I.out.2.2.2.1.cell hbl, q0]
      have g1 : wr.cell? ⟨bb, oo + k * 2 + 1, none⟩ = some (.int .i64 nn) := by rw [I.out.2.2.2.1.cell hbl, q1]
      clear hcs q0 q1 i0 i1 hbl
      go_upto_if 41 with fail
      go_cut [9, 10] (fun s9 s10 wx => ∃ kk e' b' er, s9 = .int .i64 kk ∧ s10 = .int .i64 er ∧ CInv w wx M O R mE mB e b e' b' ∧ e' = chargeE mE e kk ∧ b' = chargeB mB b kk nn ∧ er = chargeErr mE mB e b kk nn)
      case first =>
        by_cases hk1 : kd = 1
        · subst hk1
          go_wp2_with fail
          refine (entry_calls wr M mE mB e b I.out.1 HE.out I.out.2.2.2.2.1).mono ?_
          rintro e2 w5 ⟨rfl, hm, ho⟩
          have J := Lib.hid (show CInv w w5 M O R mE mB e b (chargeE mE e 1) (chargeB mB b 1 nn) from
            ⟨hm, I.out.2.1.keep ho (by have := HO'.out; omega), I.out.2.2.1.only ho (by have := HO'.out; omega), I.out.2.2.2.1.trans (ho.below (by have := HO'.out; omega) I.out.2.2.2.1.size), I.out.2.2.2.2⟩)
          clear hm ho
          go_wp2_with fail
          go_meet
          exact ⟨1, _, _, _, rfl, rfl, J.out, rfl, rfl, rfl⟩
        · have t1 : (kd == 1) = false := by simp [hk1]
          go_wp2_with fail
          refine (bytes_calls wr M mE mB e b nn I.out.1 HB.out I.out.2.2.2.2.2 Q.out.2.2).mono ?_
          rintro e2 w5 ⟨rfl, hm, ho⟩
          have J := Lib.hid (show CInv w w5 M O R mE mB e b (chargeE mE e 2) (chargeB mB b 2 nn) from
            ⟨hm, I.out.2.1.keep ho (by have := HO'.out; omega), I.out.2.2.1.only ho (by have := HO'.out; omega), I.out.2.2.2.1.trans (ho.below (by have := HO'.out; omega) I.out.2.2.2.1.size), I.out.2.2.2.2⟩)
          clear hm ho
          go_wp2_with fail
          go_meet
          exact ⟨2, _, _, _, rfl, rfl, J.out, rfl, rfl, rfl⟩
      case rest =>
        rename World => w6
        obtain ⟨kk, e', b', er, rfl, rfl, hJ, he', hb', her⟩ := hcut
        have J := Lib.hid hJ
        have EQ := Lib.hid (show e' = chargeE mE e kk ∧ b' = chargeB mB b kk nn ∧ er = chargeErr mE mB e b kk nn from ⟨he', hb', her⟩)
        clear hJ he' hb' her g0 g1 I
        have g1 : w6.cell? ⟨bb, oo + k * 2 + 1, none⟩ = some (.int .i64 nn) := by rw [J.out.2.2.2.1.cell Q.out.1, Q.out.2.1]
        have r := J.out.2.2.1
        have r0 := Blk.cell r 0
        have r1 := Blk.cell r 1
        have r2 := Blk.cell r 2
        have r3 := Blk.cell r 3
        simp [refCells] at r0 r1 r2 r3
        clear r
        have hRs : R < w6.heap.size := Blk.lt J.out.2.2.1
        have hbs : bb < w6.heap.size := Nat.lt_of_lt_of_le Q.out.1 J.out.2.2.2.1.size
        go_upto_region 17 with fail
        go_cut [11, 12] (fun s11 s12 wx => s12 = .int .i64 er ∧ ∃ N, s11 = .pointer (some ⟨N, 0, none⟩) ∧ w6.heap.size ≤ N ∧ Blk wx N (refCells mE mB e' b') 30 ∧ Below w6.heap.size w6 wx)
        case first =>
          go_region_with (go_at_call 12; refine (step_calls _ mE mB e b kk nn HE.out HB.out J.out.2.2.2.2.1 J.out.2.2.2.2.2 Q.out.2.2).mono ?_; rintro e3 wx ⟨rfl, hbx⟩; unfold refM; first | (have nb := Blk.below (w := World.drew (World.alloc _ _)) (Blk.drew (Blk.new _ _ _)) hbx (by simp); have n0 := Blk.cell nb 0; have n1 := Blk.cell nb 1; have n2 := Blk.cell nb 2; have n3 := Blk.cell nb 3; have f0 := Blk.free nb 0; have f1 := Blk.free nb 1; have f2 := Blk.free nb 2; have f3 := Blk.free nb 3; simp at n0 n1 n2 n3 f0 f1 f2 f3; replace nb := Lib.hid nb; replace hbx := Lib.hid hbx) | replace hbx := Lib.hid hbx)
          all_goals go_wp2_with fail
          all_goals go_meet
          all_goals first
            | exact ⟨by rw [EQ.out.2.2], _, rfl, hbx.out.size, (by rw [EQ.out.1, EQ.out.2.1]; exact Blk.new _ _ _), (((Below.refl _ _).drew.trans hbx.out).alloc hbx.out.size _)⟩
            | exact ⟨by rw [EQ.out.2.2], _, rfl, Nat.le_refl _, (by rw [EQ.out.1, EQ.out.2.1]; exact (((nb.out.set 0 _).set 1 _).set 2 _).set 3 _),
                (((((Below.refl _ _).alloc (Nat.le_refl _) _).drew.trans (hbx.out.mono (by simp))).setCell (Nat.le_refl _) _).setCell (Nat.le_refl _) _ |>.setCell (Nat.le_refl _) _).setCell (Nat.le_refl _) _⟩
            | (trace_state; sorry)
        case rest =>
          rename World => w7
          obtain ⟨rfl, N, rfl, hN, hbk, hbw⟩ := hcut
          have n0 := Blk.cell hbk 0
          have n1 := Blk.cell hbk 1
          have n2 := Blk.cell hbk 2
          have n3 := Blk.cell hbk 3
          have r := J.out.2.2.1.below hbw hRs
          have fr : ∀ i, w7.frozen? ⟨R, i, none⟩ = false := fun i => Blk.free r i
          have r0 := Blk.cell r 0
          have r1 := Blk.cell r 1
          have r2 := Blk.cell r 2
          have r3 := Blk.cell r 3
          simp [refCells] at n0 n1 n2 n3 r0 r1 r2 r3
          have hJm := Blk.lt J.out.1
          have hJo := Blk.lt J.out.2.1
          have K0 := Lib.hid (show CInv w w7 M O R mE mB e b e' b' from ⟨J.out.1.below hbw hJm, J.out.2.1.below hbw hJo, r, J.out.2.2.2.1.trans (hbw.mono J.out.2.2.2.1.size), J.out.2.2.2.2⟩)
          have FN := Lib.hid (show Fine e' ∧ Fine b' from by
            rw [EQ.out.1, EQ.out.2.1]
            unfold chargeE chargeB
            refine ⟨?_, ?_⟩
            · split
              · exact entryNext_fine HE.out J.out.2.2.2.2.1
              · exact J.out.2.2.2.2.1
            · split
              · exact J.out.2.2.2.2.2
              · split
                · exact bytesNext_fine HB.out J.out.2.2.2.2.2
                · exact J.out.2.2.2.2.2)
          have RN := Lib.hid (show R < N from Nat.lt_of_lt_of_le hRs hN)
          clear hN hbk hbw r hJm hJo hRs hbs J
          go_upto_region 18 with fail
          go_cut [] (fun wx => CInv w wx M O R mE mB e' b' e' b')
          case first =>
            go_wp2_with fail
            go_meet
            have hRM : R ≠ M := by have := HO'.out; omega
            have hRO : R ≠ O := by have := HO'.out; omega
            exact ⟨(((Blk.other K0.out.1 _ hRM _).other _ hRM _).other _ hRM _).other _ hRM _, (((Blk.other K0.out.2.1 _ hRO _).other _ hRO _).other _ hRO _).other _ hRO _, (((K0.out.2.2.1.set 0 _).set 1 _).set 2 _).set 3 _,
              (((K0.out.2.2.2.1.setCell (by have := HO'.out; show _ ≤ R; omega) _).setCell (by have := HO'.out; show _ ≤ R; omega) _).setCell (by have := HO'.out; show _ ≤ R; omega) _).setCell (by have := HO'.out; show _ ≤ R; omega) _, FN.out⟩
          case rest =>
            rename World => w8
            have K := Lib.hid hcut
            have r := hcut.2.2.1
            have m0 := Blk.cell r 0
            have m1 := Blk.cell r 1
            simp [refCells] at m0 m1
            clear hcut r n0 n1 n2 n3 r0 r1 r2 r3 fr K0
            go_wp2_with fail
            go_quiet (first
              | (go_at_call 13; exact Calls.quiet_of_same (entries_calls _ M mE mB e' b' (Blk.drawn K.out.1 ⟨_, rfl⟩)))
              | (go_at_call 14; exact Calls.quiet_of_same (written_calls _ M mE mB e' b' (Blk.drawn K.out.1 ⟨_, rfl⟩))))
            go_wp2_with fail
            go_roundg (xs.length - (k + 1))
            case measure => omega
            case rel =>
              have hl : xs.length ≤ 9223372036854775807 := HL.out
              have hd : ∀ q, Drawn w8 (w8.drewN q) := fun q => ⟨q, rfl⟩
              have hw : wrap64 ((k : Int) + 1) = ((k + 1 : Nat) : Int) := by rw [wrap_small (by omega) (by omega)]; omega
              exact ⟨k + 1, by omega, by omega, congrArg _ hw, e', b', Blk.drawn K.out.1 (hd _), Blk.drawn K.out.2.1 (hd _), Blk.drawn K.out.2.2.1 (hd _), K.out.2.2.2.1.trans ((hd _).below _), K.out.2.2.2.2⟩
    · obtain rfl : k = xs.length := by omega
      go_wp2_with fail
      refine (entries_calls _ O mE mB 0 0 I.out.2.1).mono ?_
      rintro e2 w5 ⟨rfl, rfl⟩
      go_wp2_with fail
      refine (written_calls _ O mE mB 0 0 I.out.2.1).mono ?_
      rintro e2 w5 ⟨rfl, rfl⟩
      go_wp2
      go_ret
      exact ⟨rfl, I.out.2.2.2.1⟩
theorem quotaCounts_core {H : Type} (enc : TypeId × Value → H) (W : World) (base : Nat) (args : Array Value) (ds : List (DataW H)) (before : List MemPlace)
    (hval : ∀ (j : Nat) t v, Try.f3.params[j]? = some t → args[j]? = some v → Value.okWide Try.prog W .any base t v)
    (hW : DataW.Whole enc Try.prog Try.f3.params.toList [] false W args.toList ds [] before)
    (hsz : (DataW.weightsEach Try.prog (Try.f3.params.toList ++ []) (ds ++ [])).all (· ≤ reachBytes) = true) (hsh : W.ShapedOpen Try.prog) :
    Calls Try.prog 3 args W (Holds W) := by
  obtain ⟨p, q, hA0, hV, rfl, _, _⟩ := hW
  have hA : DataW.TrodAll enc Try.prog W 0 (fun _ => true) true Try.f3.params.toList args.toList ds p := hA0
  rw [Try.params3] at hA hval hsz
  obtain ⟨v0, vs0, d0, ds0, p0, q0, hargs, rfl, rfl, h0, r0⟩ := trodAll_cons hA
  obtain ⟨v1, vs1, d1, ds1, p1, q1, rfl, rfl, rfl, h1, r1⟩ := trodAll_cons r0
  obtain ⟨rfl, rfl, rfl⟩ := trodAll_nil r1
  obtain rfl : args = #[v0, v1] := by cases args; simp_all
  obtain ⟨a0, b0, rd0⟩ := open_cfg (hval 0 _ v0 rfl rfl) h0
  obtain ⟨a1, rd1⟩ := open_charges (hval 1 _ v1 rfl rfl) h1
  exact quotaCounts_calls v0 a0 b0 v1 a1 W rd0 rd1

set_option maxRecDepth 100000 in
theorem quotaCounts_reads (os : Os) {H : Type} (enc : TypeId × Value → H) : ∃ places, DataW.whole enc Try.prog ((World.holding Try.prog os ⟨#[], #[], []⟩).forCall (fun _ _ => 0) ⟨#[], #[.agg #[.int .i64 0, .int .i64 0, .int .i64 0, .int .i64 0, .int .i64 0, .int .i64 0, .int .i64 0, .int .i64 0, .int .i64 0, .bool false, .bool false, .slice none 0 0, .slice none 0 0], .slice none 0 0], []⟩).memory Try.f3.params.toList Rows.quotaCountsSpec.vars false (#[.agg #[.int .i64 0, .int .i64 0, .int .i64 0, .int .i64 0, .int .i64 0, .int .i64 0, .int .i64 0, .int .i64 0, .int .i64 0, .bool false, .bool false, .slice none 0 0, .slice none 0 0], .slice none 0 0] : Array Value).toList 8 = some ([.agg [.lit (.int .i64 0), .lit (.int .i64 0), .lit (.int .i64 0), .lit (.int .i64 0), .lit (.int .i64 0), .lit (.int .i64 0), .lit (.int .i64 0), .lit (.int .i64 0), .lit (.int .i64 0), .lit (.bool false), .lit (.bool false), .nil, .nil], .nil], [], places) :=
  ⟨[], by kernel_rfl⟩
set_option maxRecDepth 100000 in
theorem quotaCounts_lifted (os : Os) (started : os.Started) (H : Type) (enc : TypeId × Value → H) (F : Stop.Interp) :
    ReturnsInHanded {} Try.checked os 3 .any ((OpenSpec.ofChange Rows.quotaCountsSpec).preRow enc Try.prog Try.f3 Rows.quotaCountsRow.domain false Rows.quotaCountsRow.laid) (((OpenSpec.ofChange Rows.quotaCountsSpec).at F).post enc Try.prog Try.f3 false true false false) := by
  obtain ⟨places, hx⟩ := quotaCounts_reads os enc
  refine returnsInHanded_of_row (C := Try.checked) (s := OpenSpec.ofChange Rows.quotaCountsSpec) own started (by kernel_rfl) Try.func3
    (witness_row_at (enc := enc) (C := Try.checked) false (World.holding Try.prog os ⟨#[], #[], []⟩) #[.agg #[.int .i64 0, .int .i64 0, .int .i64 0, .int .i64 0, .int .i64 0, .int .i64 0, .int .i64 0, .int .i64 0, .int .i64 0, .bool false, .bool false, .slice none 0 0, .slice none 0 0], .slice none 0 0] rfl (by kernel_rfl) (by kernel_rfl) (by kernel_rfl)
      (OpenSpec.preRow_of_cond 8 hx (by kernel_rfl) (fun k hk => by cases hk) (by kernel_rfl) (laidMetH_nil _ _))) ?_
  intro W base args ds gs before hval hW _ hcond hsz hL hsh _
  obtain rfl : gs = [] := by
    obtain ⟨p, q, hA0, hV, _⟩ := hW
    exact (trodVars_none hV).1
  obtain ⟨d0, d1, rfl⟩ : ∃ d0 d1, ds = [d0, d1] := by
    obtain ⟨p, q, hA0, _⟩ := hW
    have hA : DataW.TrodAll enc Try.prog W 0 (fun _ => true) true Try.f3.params.toList args.toList ds p := hA0
    rw [Try.params3] at hA
    obtain ⟨v0, vs0, d0, ds0, p0, q0, _, rfl, _, _, r0⟩ := trodAll_cons hA
    obtain ⟨v1, vs1, d1, ds1, p1, q1, _, rfl, _, _, r1⟩ := trodAll_cons r0
    obtain ⟨_, rfl, _⟩ := trodAll_nil r1
    exact ⟨_, _, rfl⟩
  refine (quotaCounts_core enc W base args _ before hval hW hsz hsh).mono fun e W' ⟨he, hb⟩ => ?_
  subst he
  exact ⟨_, rfl, law_post hW rfl (fun t ht => by rw [Try.params3] at ht; simp only [List.mem_cons, List.not_mem_nil, or_false] at ht; rcases ht with rfl | rfl <;> exact ⟨by kernel_rfl, of_decide_eq_true (by kernel_rfl)⟩) rfl rfl rfl rfl hb⟩
theorem quotaCounts_said : Rows.QuotaCountsSaid :=
  OpenClaim.holds_of_cond 3 Try.f3 rfl rfl rfl rfl rfl rfl rfl ⟨rfl, rfl, rfl, rfl, rfl⟩ rfl rfl rfl rfl rfl (by kernel_rfl) Try.func3 (by kernel_rfl)
    (of_decide_eq_true (by kernel_rfl)) (by unfold Func.isWrapper; first | (rw [if_pos (by decide +kernel)]; kernel_rfl) | (rw [if_neg (by decide +kernel)]; exact ⟨rfl, rfl⟩))
    (fun os started H enc _ F => by rw [OpenClaim.pre_eq_preRow]; exact quotaCounts_lifted os started H enc F)
end Go.Proofs.Ytejeepmcoafdcaa
