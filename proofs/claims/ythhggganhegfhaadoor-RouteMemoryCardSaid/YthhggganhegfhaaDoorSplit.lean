/-
  The walk of route.Split: every name that is not too long, every two numbers.
-/
import Derived.Test.YthhggganhegfhaaDoorGoods
import Derived.Test.YthhggganhegfhaaDoorSym
import Derived.Test.YthhggganhegfhaaDoorRefSym
import Derived.Test.YthhggganhegfhaaDoorContains
namespace Go.Proofs.YthhggganhegfhaaDoor
open Go.RowKit
set_option linter.unusedVariables false

def dots2 : ByteArray := ⟨#[46, 46]⟩
def wide (p : ByteArray) : Bool := decide (255 < p.size)
/-- the parts that stay, looked at -/
def splitIn (ys : List ByteArray) (md : Int) : List ByteArray × Int :=
  if hasB dots2 ys = true then ([], 94) else if ys.any wide = true then ([], 95) else if md < (ys.length : Int) then ([], 96) else (ys, 0)
/-- what Split answers -/
def splitP (name : ByteArray) (mx md : Int) : List ByteArray × Int :=
  if name.size = 0 then ([], 90) else if mx < (name.size : Int) then ([], 93) else if hasNul name = true then ([], 91) else
    if name.data.toList.getD 0 0 = 47 then ([], 92) else splitIn ((pieces name).filter keepB) md

theorem keepB_data' (p : ByteArray) : keepB p = !(p.data.toList.isEmpty || (p.data.toList == [46])) := by
  unfold keepB; rw [Lib.toList_data]
theorem noNul_of {s : ByteArray} (h : hasNul s = false) : ∀ x ∈ s.data.toList, x ≠ 0 := by
  have h' := of_decide_eq_false h
  generalize s.data.toList = l at h'
  clear h
  induction l with
  | nil => intro x hx; cases hx
  | cons c l ih =>
    rw [Lib.indexByte] at h'
    by_cases hc : c = 0
    · subst hc; simp at h'
    · rw [if_neg (by simpa using hc)] at h'
      have h2 : ¬ 0 ≤ Lib.indexByte l 0 := by
        intro h3
        rw [if_neg (by simp; omega)] at h'
        omega
      intro x hx
      rcases List.mem_cons.1 hx with rfl | hx
      · exact hc
      · exact ih h2 x hx
/-- a part that stays is good if it is no step upwards and not too long -/
theorem good_part {name p : ByteArray} (hn : hasNul name = false) (hp : p ∈ (pieces name).filter keepB) (hu : p ≠ dots2) : goodB p = decide (p.size ≤ 255) := by
  rw [List.mem_filter] at hp
  obtain ⟨hm, hk⟩ := hp
  unfold pieces at hm
  obtain ⟨l, hl, rfl⟩ := List.mem_map.1 hm
  obtain ⟨h1, h2⟩ := pcs_parts _ l hl
  rw [keepB_data', data_txt] at hk
  have h3 : (l.any sepB) = false := by
    refine List.any_eq_false.2 fun x hx => ?_
    have a := h1 x hx
    have b := noNul_of hn x (h2 x hx)
    unfold sepB; simp [a, b]
  have h4 : (l == [46, 46]) = false := by
    refine beq_eq_false_iff_ne.2 fun e => hu ?_
    rw [e]; rfl
  unfold goodB
  rw [data_txt, h3, h4]
  simp at hk
  simp [hk]
theorem hasB_mem {p : ByteArray} {ys : List ByteArray} (h : hasB p ys = false) : ∀ x ∈ ys, x ≠ p := fun x hx e => by
  unfold hasB at h
  have := List.any_eq_false.1 h x hx
  simp [e] at this

theorem SymAns.wrap {w w1 w' : World} {r : List ByteArray × Int} {e : Ending} (hb : Below w.heap.size w w1) (h : SymAns w1 r e w') : SymAns w r e w' := by
  obtain ⟨ao, cap, he, ho, hb2⟩ := h
  exact ⟨ao, cap, he, ho.mono hb.size, Below.next hb hb2⟩

set_option maxHeartbeats 8000000 in
theorem split_inside (name : ByteArray) (mx md : Int) (w : World) (hz : name.size ≤ 16777216)
    (he : name.toList.isEmpty = false) (hm : ¬ (mx < (name.size : Int))) (hn : hasNul name = false) (hp : 0 < name.size) (hs : (((name[0]'hp).toNat : Int) == 47) = false) :
    Calls Tryd.prog 20 #[.string name, .int .i64 mx, .int .i64 md] w (SymAns w (splitIn ((pieces name).filter keepB) md)) := by
  have hlen : (pieces name).length ≤ name.size + 1 := by
    unfold pieces
    rw [List.length_map]
    have := pcs_len name.data.toList
    rw [Array.length_toList] at this
    exact this
  have hn' : ¬ (0 ≤ Lib.indexByte name.data.toList 0) := of_decide_eq_false hn
  have HI := Lib.hid (indexByte_calls name 0 w)
  have HS := Lib.hid (split_calls name w (by omega))
  have GP := Lib.hid (show ∀ p, p ∈ (pieces name).filter keepB → p ≠ dots2 → goodB p = decide (p.size ≤ 255) from fun p hp hu => good_part hn hp hu)
  have HD := Lib.hid (fun W1 h => deleteFunc_calls w.heap.size (pieces name).length (pieces name) rfl (by omega) W1 h)
  generalize pieces name = ps at *
  obtain ⟨pn, hpn⟩ : ∃ pn, pn = ps.length := ⟨_, rfl⟩
  rw [← hpn] at hlen
  have HPN := Lib.hid hpn
  rw [← hpn] at HS HD
  obtain ⟨ys, hys⟩ : ∃ ys, ys = ps.filter keepB := ⟨_, rfl⟩
  rw [← hys] at GP HD ⊢
  obtain ⟨R, hR⟩ : ∃ R, R = splitIn ys md := ⟨_, rfl⟩
  rw [← hR]
  have HRR := Lib.hid hR
  unfold slB at HS
  clear hn hR hys hpn
  go_enter Tryd.func20, Tryd.ntmps20
  go_wp2_with fail
  refine HI.out.mono ?_
  rintro e W1 ⟨rfl, rfl⟩
  go_wp2_with fail
  refine HS.out.mono ?_
  rintro e w2 ⟨rfl, hw⟩
  have B2 := Lib.hid (show Blk w2 w.heap.size (ps.map strE).toArray 9 by rw [hw]; exact Blk.new _ _ _)
  have L2 := Lib.hid (show Below w.heap.size w w2 by rw [hw]; exact (Below.refl _ _).alloc (Nat.le_refl _) _)
  clear hw
  go_wp2_with fail
  refine (HD.out w2 B2.out).mono ?_
  rintro e w3 ⟨m, hm3, rfl, hleft, hmn, honly⟩
  have O3 := Lib.hid (show Own w3 w.heap.size 9 strE (.slice (some ⟨w.heap.size, 0, none⟩) ys.length pn) ys by
    obtain ⟨cs, c1, c2, c3⟩ := hleft
    refine Own.of_blk c1 (Nat.le_refl _) (by rw [HPN.out]; exact hmn) (by rw [c2, HPN.out]) (by unfold maxLen; omega) c3)
  have L3 := Lib.hid (show Below w.heap.size w w3 from L2.out.trans (honly.below (Nat.le_refl _) L2.out.size))
  have hmpn : m ≤ pn := by rw [hm3, HPN.out]; exact hmn
  rw [← hm3] at O3
  have HM := Lib.hid hm3
  clear hleft honly hmn hm3
  go_wp2_with fail
  refine (containsS_calls _ ys dots2 w3 ?_).mono ?_
  · rw [HM.out]; have := O3.out; rw [HM.out] at this; exact this.rd
  rintro e w4 ⟨rfl, rfl⟩
  cases hh : hasB dots2 ys
  · have HH := Lib.hid hh
    clear hh
    go_wp2_with fail
    go_loopg [34] m (fun g s34 wr => ∃ k : Nat, s34 = .int .i64 k ∧ k ≤ m ∧ m - k ≤ g ∧ Hid (Below w.heap.size w wr) ∧ Hid (Below w4.heap.size w4 wr) ∧ Hid (∀ j, j < k → wide (ys.getD j ByteArray.empty) = false))
    case atStart => exact ⟨0, rfl, Nat.zero_le _, by omega, L3, Lib.hid (Below.refl _ _), Lib.hid fun j hj => absurd hj (Nat.not_lt_zero _)⟩
    case round =>
      obtain ⟨k, rfl, hk, hg, BL, B4, HN⟩ := hrel
      rename World => wr
      have O4 := Lib.hid (O3.out.below' B4.out)
      by_cases hlt : k < m
      · have hky : k < ys.length := by have := HM.out; omega
        have g1 : wr.cell? ⟨w.heap.size, k, none⟩ = some (strE (ys.getD k ByteArray.empty)) := by
          rw [Own.cell (g := w.heap.size) (n := m) (cap := pn) O4.out k hky]
          simp [List.getD, List.getElem?_eq_getElem hky]
        have hmem : ys.getD k ByteArray.empty ∈ ys := by
          simp [List.getD, List.getElem?_eq_getElem hky]
        have hgp := GP.out _ hmem (hasB_mem HH.out _ hmem)
        have MEM := Lib.hid hmem
        generalize hx : ys.getD k ByteArray.empty = x at g1 hgp
        have HX := Lib.hid hx
        have hgc := good_calls x wr
        rw [hgp] at hgc
        have GC := Lib.hid hgc
        clear hx hgp hgc hmem
        by_cases hw : x.size ≤ 255
        · have hd : decide (x.size ≤ 255) = true := decide_eq_true hw
          have HW := Lib.hid (show wide x = false from decide_eq_false (by omega))
          clear hw
          rw [hd] at GC
          clear hd
          go_wp2_with fail
          refine GC.out.mono ?_
          rintro e w5 ⟨rfl, hb5⟩
          have B5 := Lib.hid hb5
          clear hb5
          go_wp2
          go_roundg (m - (k + 1))
          case measure => omega
          case rel =>
            refine ⟨k + 1, by go_num, by omega, Nat.le_refl _, Lib.hid (Below.next BL.out B5.out), Lib.hid (Below.next B4.out B5.out), Lib.hid fun j hj => ?_⟩
            by_cases e : j = k
            · subst e; rw [HX.out]; exact HW.out
            · exact HN.out j (by omega)
        · have hd : decide (x.size ≤ 255) = false := decide_eq_false hw
          have e : R = ([], 95) := by
            rw [HRR.out]; unfold splitIn
            have h1 : ys.any wide = true := List.any_eq_true.2 ⟨x, by have := MEM.out; rw [HX.out] at this; exact this, decide_eq_true (by omega)⟩
            rw [HH.out, h1]; rfl
          have E := Lib.hid e
          clear hw e
          rw [hd] at GC
          clear hd
          go_wp2_with fail
          refine GC.out.mono ?_
          rintro e w5 ⟨rfl, hb5⟩
          have B5 := Lib.hid hb5
          clear hb5
          go_wp2
          go_ret2
          exact SymAns.err 95 E.out (Below.next BL.out B5.out)
      · obtain rfl : k = m := by omega
        have hany : ys.any wide = false := by
          refine List.any_eq_false.2 fun x hx => ?_
          obtain ⟨j, hj, rfl⟩ := List.getElem_of_mem hx
          have := HN.out j (by have := HM.out; omega)
          simp [List.getD, List.getElem?_eq_getElem hj] at this
          simp [this]
        have HANY := Lib.hid hany
        clear hany
        by_cases hdp : md < (k : Int)
        · have e : R = ([], 96) := by
            rw [HRR.out]; unfold splitIn
            rw [HH.out, HANY.out, ← HM.out, if_neg (by simp), if_neg (by simp), if_pos hdp]
          have E := Lib.hid e
          clear e
          go_wp2
          go_ret2
          exact SymAns.err 96 E.out BL.out
        · have e : R = (ys, 0) := by
            rw [HRR.out]; unfold splitIn
            rw [HH.out, HANY.out, ← HM.out, if_neg (by simp), if_neg (by simp), if_neg hdp]
          have E := Lib.hid e
          clear e
          go_wp2
          go_ret2
          rw [E.out]
          refine ⟨some ⟨w.heap.size, 0, none⟩, pn, ?_, ?_, BL.out⟩
          · simp only
            rw [← HM.out]
            rfl
          · simp only
            rw [← HM.out]
            exact O4.out
  · have e : R = ([], 94) := by rw [HRR.out]; unfold splitIn; rw [hh]; rfl
    have E := Lib.hid e
    clear e hh
    go_wp2
    go_ret2
    exact SymAns.err 94 E.out L3.out

set_option maxHeartbeats 8000000 in
theorem splitP_calls (name : ByteArray) (mx md : Int) (w : World) (hz : name.size ≤ 16777216) :
    Calls Tryd.prog 20 #[.string name, .int .i64 mx, .int .i64 md] w (SymAns w (splitP name mx md)) := by
  obtain ⟨R, hR⟩ : ∃ R, R = splitP name mx md := ⟨_, rfl⟩
  rw [← hR]
  have HRR := Lib.hid hR
  clear hR
  by_cases h0 : name.size = 0
  · have he := empty_of h0
    have e : R = ([], 90) := by rw [HRR.out]; unfold splitP; rw [if_pos h0]
    have E := Lib.hid e
    clear e h0
    go_enter Tryd.func20, Tryd.ntmps20
    go_wp2
    go_ret2
    exact SymAns.err 90 E.out (Below.refl _ _)
  · have he := full_of h0
    by_cases hm : mx < (name.size : Int)
    · have e : R = ([], 93) := by rw [HRR.out]; unfold splitP; rw [if_neg h0, if_pos hm]
      have E := Lib.hid e
      clear e h0
      go_enter Tryd.func20, Tryd.ntmps20
      go_wp2
      go_ret2
      exact SymAns.err 93 E.out (Below.refl _ _)
    · cases hn : hasNul name
      · have h00 : 0 < name.size := by omega
        have hgb : name.data.toList.getD 0 0 = name[0] := by
          have h' : 0 < name.data.toList.length := by rw [Array.length_toList]; exact h00
          simp [List.getD, List.getElem?_eq_getElem h']
          rfl
        by_cases hs : name[0]'h00 = 47
        · have e : R = ([], 92) := by rw [HRR.out]; unfold splitP; rw [if_neg h0, if_neg hm, hn, if_neg (by simp), if_pos (by rw [hgb]; exact hs)]
          have E := Lib.hid e
          have hn' : ¬ (0 ≤ Lib.indexByte name.data.toList 0) := of_decide_eq_false hn
          have HI := Lib.hid (indexByte_calls name 0 w)
          have hs' : (((name[0]'h00).toNat : Int) == 47) = true := by rw [hs]; rfl
          clear e h0 hn hs hgb
          go_enter Tryd.func20, Tryd.ntmps20
          go_wp2_with fail
          refine HI.out.mono ?_
          rintro e w1 ⟨rfl, rfl⟩
          go_wp2
          go_ret2
          exact SymAns.err 92 E.out (Below.refl _ _)
        · have e : R = splitIn ((pieces name).filter keepB) md := by rw [HRR.out]; unfold splitP; rw [if_neg h0, if_neg hm, hn, if_neg (by simp), if_neg (by rw [hgb]; exact hs)]
          rw [e]
          refine split_inside name mx md w hz he hm hn h00 ?_
          refine beq_eq_false_iff_ne.2 fun e => hs ?_
          have : (name[0]'h00).toNat = 47 := by omega
          exact UInt8.toNat_inj.1 this
      · have e : R = ([], 91) := by rw [HRR.out]; unfold splitP; rw [if_neg h0, if_neg hm, if_pos hn]
        have E := Lib.hid e
        have hn' : 0 ≤ Lib.indexByte name.data.toList 0 := of_decide_eq_true hn
        have HI := Lib.hid (indexByte_calls name 0 w)
        clear e h0 hn
        go_enter Tryd.func20, Tryd.ntmps20
        go_wp2_with fail
        refine HI.out.mono ?_
        rintro e w1 ⟨rfl, rfl⟩
        go_wp2
        go_ret2
        exact SymAns.err 91 E.out (Below.refl _ _)
end Go.Proofs.YthhggganhegfhaaDoor
