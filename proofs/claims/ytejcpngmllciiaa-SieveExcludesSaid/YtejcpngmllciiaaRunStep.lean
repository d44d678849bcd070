/-
  The walks of begin and step.
-/
import Derived.Test.YtejcpngmllciiaaRun
import Derived.OwnWalk
namespace Go.Proofs.Ytejcpngmllciiaa
open Go.RowKit
set_option linter.unusedVariables false

theorem madeB (m : Nat) : madeCells #[Value.bool false] m = boolsA m (fun _ => false) := by
  apply Array.ext_getElem?
  intro i
  by_cases h : i < m
  · rw [boolsA_get _ _ _ h]; simp [madeCells, h, Nat.mod_one]
  · rw [Array.getElem?_eq_none (xs := boolsA m _) (by rw [boolsA_size]; omega), Array.getElem?_eq_none (by rw [size_madeCells]; omega)]
theorem Try.info4 : (Try.prog.info? 4).map (fun i => (i.zero, i.size, i.bytes)) = some (some (.bool false), 1, 1) := by kernel_rfl
theorem wpList_makeB {ops : Array Oper} {rest : List Oper} {o : Oper} {a : Act} {w : World} {Q : Exit → Act → World → Prop} (hg : o.guard = none) (l c : Operand) (ho : o.op = .makeSlice 63 l c) (m : Nat) (L : Int) (hl : a.eval l = .int .i64 L) (hc : a.eval c = .int .i64 L) (hL : L = (m : Nat)) (hm : m ≤ 1000000)
    (h : wpList Try.prog ops Q rest (a.put o.dst (.slice (some ⟨w.heap.size, 0, none⟩) m m)) (w.alloc (.cells (boolsA m (fun _ => false)) 4))) : wpList Try.prog ops Q (o :: rest) a w := by
  obtain ⟨i0, hi1, hz0, hz1, hz2⟩ := info_parts Try.info4
  subst hL
  refine wpList_plain hg fun K hK' => ?_
  have hr := run_make (P := Try.prog) w 63 4 i0 (.bool false) Try.underlying63 hi1 hz0 .i64 .i64 (m : Int) (m : Int) (by omega) (Int.le_refl _) (by rw [hz2]; omega) (by omega)
  rw [hz1] at hr
  simp only [Int.toNat_natCast, Nat.mul_one] at hr
  have hcs : (Value.bool false).cells = #[Value.bool false] := rfl
  rw [hcs, madeB] at hr
  unfold Oper.wp
  simp [execOp, ho, hl, hc, hr, Result.andThen]
  exact hK' _ _ h

set_option maxHeartbeats 1000000 in
theorem begin_calls (w : World) (B : Nat) (v : Value) (us : List ITok) (h : OwnM w B 54 5 encI v us) (hn : us.length ≤ 5000) :
    Calls Try.prog 22 #[v] w fun e w' => ∃ X o, e = .returned (.pointer (some ⟨X, 0, none⟩)) ∧ Run w' B X v us o us.length (skipC (starI us) (fun i => decide (i = 0))) ∧ Below w.heap.size w w' ∧ w.heap.size ≤ o := by
  have hv : ∃ ao cap, v = .slice ao us.length cap := by
    rcases h.form with ⟨rfl, rfl⟩ | ⟨g, cap, rfl⟩
    · exact ⟨_, _, rfl⟩
    · exact ⟨_, _, rfl⟩
  obtain ⟨ao, cap, rfl⟩ := hv
  have H := Lib.hid h
  clear h
  generalize hN : us.length = n at *
  have HN := Lib.hid hN
  clear hN
  have R0 := Lib.hid (show Run ((w.alloc (.cells (boolsA (n + 1) (fun _ => false)) 4)).alloc (.cells #[.slice ao n cap, .slice (some ⟨w.heap.size, 0, none⟩) (n + 1) (n + 1)] 65)) B (w.heap.size + 1) (.slice ao n cap) us w.heap.size n (fun _ => false) from by
    refine ⟨?_, (H.out.alloc _).alloc _, HN.out, (Blk.new w _ _).alloc _, hn⟩
    have := Blk.new (w.alloc (.cells (boolsA (n + 1) (fun _ => false)) 4)) #[.slice ao n cap, .slice (some ⟨w.heap.size, 0, none⟩) (n + 1) (n + 1)] 65
    rwa [World.size_alloc] at this)
  go_enter Try.func22, Try.ntmps22
  go_upto_region 2 with (first | (refine wpList_makeB rfl _ _ rfl (n + 1) _ rfl rfl (by omega) (by omega) ?_))
  try go_frame
  try simp only [World.size_alloc]
  have X0 := Lib.hid (show Below w.heap.size w ((w.alloc (.cells (boolsA (n + 1) (fun _ => false)) 4)).alloc (.cells #[.slice ao n cap, .slice (some ⟨w.heap.size, 0, none⟩) (n + 1) (n + 1)] 65)) from ((Below.refl _ _).alloc (Nat.le_refl _) _).alloc (by simp) _)
  generalize World.alloc _ _ = w1 at R0 X0 ⊢
  have hX : (w.heap.size : Nat) ≤ w.heap.size := Nat.le_refl _
  generalize hoe : w.heap.size = o at R0 ⊢
  have OE := Lib.hid hoe
  clear hoe hX
  generalize o + 1 = X at R0 ⊢
  obtain ⟨x0, x1⟩ := R0.out.cells
  have z0 := R0.out.on 0 (by omega)
  have fro : ∀ i, w1.frozen? ⟨o, i, none⟩ = false := fun i => R0.out.2.2.2.1.free i
  have R1 := Lib.hid (show Run (w1.setCell ⟨o, 0, none⟩ (.bool true)) B X (.slice ao n cap) us o n (fun i => decide (i = 0)) from
    (R0.out.put (d := fun y => if y = 0 then true else false) (by rw [← boolsA_set]; exact R0.out.2.2.2.1.set _ _) ((Only.refl _ _).set _ _)).congr fun i _ => by by_cases h : i = 0 <;> simp [h])
  have X1 := Lib.hid (show Below w.heap.size w (w1.setCell ⟨o, 0, none⟩ (.bool true)) from X0.out.setCell (by rw [OE.out]; exact Nat.le_refl _) _)
  clear X0
  go_wp2_with fail
  refine (skip_calls _ B X _ us o n _ R1.out).mono ?_
  rintro e w2 ⟨rfl, hr, ho⟩
  have FIN := Lib.hid (And.intro hr (X1.out.trans (ho.below (by rw [OE.out]; exact Nat.le_refl _) X1.out.size)))
  clear hr ho
  go_wp2_with fail
  go_ret
  exact ⟨X, o, rfl, FIN.out.1, FIN.out.2, Nat.le_of_eq OE.out⟩

def okI (k : Int) (b : Nat) : Bool := decide (k = 2) || (decide (k = 1) && decide (b ≠ 47))
def stepI (us : List ITok) (n b : Nat) (q : Nat → Bool) (i : Nat) : Bool :=
  (decide (i < n) && (q i && okI (tk us i).1 b)) || (decide (0 < i) && (q (i - 1) && (decide ((tk us (i - 1)).1 = 0) && (tk us (i - 1)).2 b)))
def downTo (us : List ITok) (n b : Nat) (q : Nat → Bool) (k : Nat) : Nat → Bool := fun x => if k ≤ x then stepI us n b q x else q x

set_option maxRecDepth 100000 in
set_option maxHeartbeats 4000000 in
theorem step_calls' (w : World) (B X : Nat) (v : Value) (us : List ITok) (o n : Nat) (q : Nat → Bool) (x : Int) (b : Nat) (hx : x = b) (hb : b < 256) (h : Run w B X v us o n q) :
    Calls Try.prog 23 #[.pointer (some ⟨X, 0, none⟩), .int .u8 x] w fun e w' => e = .returned (.tuple #[]) ∧ Run w' B X v us o n (skipC (starI us) (stepI us n b q)) ∧ Only o w w' := by
  subst hx
  obtain ⟨x0, x1⟩ := h.cells
  obtain ⟨ao, cap, rfl⟩ := h.len
  have hn := h.2.2.2.2
  have H := Lib.hid h
  clear h
  go_enter Try.func23, Try.ntmps23
  go_wp2_with fail
  go_loopg [4, 5, 6] (n + 1) (fun g s4 s5 s6 wr => ∃ (k : Nat) (z : Int), k ≤ n + 1 ∧ k ≤ g ∧ s4 = .int .i64 z ∧ z = (k : Int) - 1 ∧ Run wr B X (.slice ao n cap) us o n (downTo us n b q k) ∧ Only o w wr)
  case atStart => exact ⟨n + 1, n, by omega, by omega, rfl, by omega, H.out.congr fun i hi => by unfold downTo; rw [if_neg (by omega)], Only.refl _ _⟩
  case round =>
    obtain ⟨k, z, hk, hg, rfl, hz, hR, hO⟩ := hrel
    have R := Lib.hid hR
    have O := Lib.hid hO
    clear hR hO H x0 x1
    obtain ⟨x0, x1⟩ := R.out.cells
    cases k with
    | zero =>
      have hz0 : z < 0 := by omega
      have RE := Lib.hid (show Run wr B X (.slice ao n cap) us o n (stepI us n b q) from R.out.congr fun i hi => by unfold downTo; rw [if_pos (Nat.zero_le _)])
      clear hz
      go_wp2_with fail
      refine (skip_calls wr B X _ us o n _ RE.out).mono ?_
      rintro e w2 ⟨rfl, hr, ho⟩
      have FIN := Lib.hid (And.intro hr (O.out.trans ho))
      clear hr ho
      go_wp2_with fail
      go_end0
      exact ⟨rfl, FIN.out.1, FIN.out.2⟩
    | succ j =>
      have hzj : z = (j : Int) := by omega
      subst hzj
      clear hz
      have hj0 : (0 : Int) ≤ (j : Int) := by omega
      have z0 := R.out.on j (by omega)
      have e0 : downTo us n b q (j + 1) j = q j := by unfold downTo; rw [if_neg (by omega)]
      rw [e0] at z0
      clear e0
      obtain ⟨stay, hstay⟩ : ∃ stay : Bool, stay = (decide (j < n) && (q j && okI (tk us j).1 b)) := ⟨_, rfl⟩
      have HS := Lib.hid hstay
      clear hstay
      go_upto_region 3 with fail
      go_cut [5] (fun s5 wx => s5 = .bool stay ∧ wx = wr)
      case first =>
        by_cases hjn : j < n
        · obtain ⟨g, cap', hv, hc1, hc2, hgl, hcs⟩ := R.out.tok j hjn
          cases hv
          obtain ⟨d0, d1, d2, d3, d4⟩ := hcs j hjn
          clear hcs d1 d2 d3 d4
          have hlt : (j : Int) < (n : Int) := by omega
          unfold okI at HS
          generalize (tk us j).1 = kk at *
          generalize q j = qj at *
          cases qj with
          | false =>
            have SV := Lib.hid (show stay = false from by rw [HS.out]; simp)
            go_wp2_with fail
            go_meet
            exact ⟨by rw [SV.out], rfl⟩
          | true =>
            by_cases k2 : kk = 2
            · subst k2
              have SV := Lib.hid (show stay = true from by rw [HS.out]; simp [hjn])
              go_wp2_with fail
              go_meet
              exact ⟨by rw [SV.out], rfl⟩
            · have t2 : (kk == 2) = false := by simp [k2]
              by_cases k1 : kk = 1
              · subst k1
                by_cases hb47 : b = 47
                · subst hb47
                  have SV := Lib.hid (show stay = false from by rw [HS.out]; simp)
                  go_wp2_with fail
                  go_meet
                  exact ⟨by rw [SV.out], rfl⟩
                · have SV := Lib.hid (show stay = true from by rw [HS.out]; simp [hjn, hb47])
                  have t3 : ((b : Int) != 47) = true := by simp [bne]; omega
                  replace hb47 := Lib.hid hb47
                  go_wp2_with fail
                  go_meet
                  exact ⟨by rw [SV.out], rfl⟩
              · have t1 : (kk == 1) = false := by simp [k1]
                have SV := Lib.hid (show stay = false from by rw [HS.out]; simp [k1, k2])
                replace k1 := Lib.hid k1
                replace k2 := Lib.hid k2
                go_wp2_with fail
                go_meet
                exact ⟨by rw [SV.out], rfl⟩
        · have hlt : ¬ (j : Int) < (n : Int) := by omega
          have SV := Lib.hid (show stay = false from by rw [HS.out]; simp [hjn])
          go_wp2_with fail
          go_meet
          exact ⟨by rw [SV.out], rfl⟩
      case rest =>
        obtain ⟨rfl, rfl⟩ := hcut
        rename World => wr
        obtain ⟨come, hcome⟩ : ∃ come : Bool, come = (decide (0 < j) && (q (j - 1) && (decide ((tk us (j - 1)).1 = 0) && (tk us (j - 1)).2 b))) := ⟨_, rfl⟩
        have HC := Lib.hid hcome
        clear hcome
        go_upto_region 4 with fail
        go_cut [6] (fun s6 wx => s6 = .bool come ∧ wx = wr)
        case first =>
          by_cases hj : 0 < j
          · have hjp : (0 : Int) < (j : Int) := by omega
            have hpn : j - 1 < n := by omega
            have z1 := R.out.on (j - 1) (by omega)
            have e1 : downTo us n b q (j + 1) (j - 1) = q (j - 1) := by unfold downTo; rw [if_neg (by omega)]
            rw [e1] at z1
            clear e1
            obtain ⟨g, cap', hv, hc1, hc2, hgl, hcs⟩ := R.out.tok (j - 1) hpn
            cases hv
            obtain ⟨d0, d1, d2, d3, d4⟩ := hcs (j - 1) hpn
            have hq1 : (0 : Int) ≤ (j : Int) - 1 := by omega
            have hq2 : (j : Int) - 1 < (n : Int) := by omega
            have hq3 : (j : Int) - 1 < (n : Int) + 1 := by omega
            have hq4 : ((j : Int) - 1).toNat = j - 1 := by omega
            clear hcs
            generalize j - 1 = p at *
            have CS := Lib.hid (And.intro d1 (And.intro d2 (And.intro d3 d4)))
            have HA := Lib.hid (has_calls wr g (p * 5) (tk us p).2 (b : Int) b rfl hb (fun i hi => by
              obtain ⟨e1, e2, e3, e4⟩ := CS.out
              match i, hi with
              | 0, _ => exact e1
              | 1, _ => exact e2
              | 2, _ => exact e3
              | 3, _ => exact e4))
            clear d1 d2 d3 d4 CS
            generalize (tk us p).1 = kk at *
            generalize hfb : (tk us p).2 b = fb at *
            clear hfb
            generalize q p = qp at *
            cases qp with
            | false =>
              have SV := Lib.hid (show come = false from by rw [HC.out]; simp)
              go_wp2_with fail
              go_meet
              exact ⟨by rw [SV.out], rfl⟩
            | true =>
              by_cases k0 : kk = 0
              · subst k0
                have SV := Lib.hid (show come = fb from by rw [HC.out]; simp [hj])
                go_wp2_with fail
                refine HA.out.mono ?_
                rintro e w5 ⟨rfl, rfl⟩
                go_wp2_with fail
                go_meet
                exact ⟨by rw [SV.out], rfl⟩
              · have t0 : (kk == 0) = false := by simp [k0]
                have SV := Lib.hid (show come = false from by rw [HC.out]; simp [k0])
                replace k0 := Lib.hid k0
                go_wp2_with fail
                go_meet
                exact ⟨by rw [SV.out], rfl⟩
          · have hjp : ¬ (0 : Int) < (j : Int) := by omega
            have SV := Lib.hid (show come = false from by rw [HC.out]; simp [hj])
            go_wp2_with fail
            go_meet
            exact ⟨by rw [SV.out], rfl⟩
        case rest =>
          obtain ⟨rfl, rfl⟩ := hcut
          rename World => wr
          have ST := Lib.hid (show stepI us n b q j = (stay || come) from by unfold stepI; rw [HS.out, HC.out])
          have RN := Lib.hid (show Run (wr.setCell ⟨o, j, none⟩ (.bool (stay || come))) B X (.slice ao n cap) us o n (downTo us n b q j) from
            R.out.put (by
              have e : downTo us n b q j = fun y => if y = j then (stay || come) else downTo us n b q (j + 1) y := by
                funext y
                by_cases hy : y = j
                · subst hy; rw [if_pos rfl, ← ST.out]; unfold downTo; rw [if_pos (Nat.le_refl _)]
                · rw [if_neg hy]
                  unfold downTo
                  by_cases h2 : j ≤ y
                  · rw [if_pos h2, if_pos (by omega)]
                  · rw [if_neg h2, if_neg (by omega)]
              rw [e, ← boolsA_set]; exact R.out.2.2.2.1.set _ _) ((Only.refl _ _).set _ _))
          have fro : ∀ i, wr.frozen? ⟨o, i, none⟩ = false := fun i => R.out.2.2.2.1.free i
          have hjn1 : (j : Int) < (n : Int) + 1 := by omega
          generalize q j = qj at *
          cases stay with
          | false =>
            go_wp2_with fail
            go_roundg j
            case measure => omega
            case rel => exact ⟨j, (j : Int) - 1, by omega, by omega, rfl, rfl, by simpa using RN.out, O.out.set _ _⟩
          | true =>
            go_wp2_with fail
            go_roundg j
            case measure => omega
            case rel => exact ⟨j, (j : Int) - 1, by omega, by omega, rfl, rfl, by simpa using RN.out, O.out.set _ _⟩
end Go.Proofs.Ytejcpngmllciiaa
