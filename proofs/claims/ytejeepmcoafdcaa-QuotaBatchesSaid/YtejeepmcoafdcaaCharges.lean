/-
  Lists of charges that are read, and the law's arguments opened.
-/
import Derived.Test.YtejeepmcoafdcaaStep
import Derived.Deep.SlicePairs
import Derived.SizedLaws
namespace Go.Proofs.Ytejeepmcoafdcaa
open Go.ChangeShapes Go.WideShapes Go.ChangeAt Go.RowKit
set_option linter.unusedVariables false

/-- the slice v holds these charges -/
def RdP (w : World) (v : Value) (xs : List (Int × Int)) : Prop :=
  ∃ (ao : Option Addr) (c : Nat), v = .slice ao xs.length c ∧ xs.length ≤ c ∧ c ≤ maxLen ∧ (∀ p ∈ xs, IsInt p.1 ∧ IsInt p.2) ∧
    (xs ≠ [] → ∃ b o, ao = some ⟨b, o, none⟩ ∧ ∀ i (h : i < xs.length), w.cell? ⟨b, o + i * 2, none⟩ = some (.int .i64 (xs[i]).1) ∧ w.cell? ⟨b, o + i * 2 + 1, none⟩ = some (.int .i64 (xs[i]).2))

section
variable {w w' : World} {v : Value} {xs : List (Int × Int)}
theorem RdP.keep (h : RdP w v xs) (hc : ∀ a : Addr, a.block < w.heap.size → w'.cell? a = w.cell? a) : RdP w' v xs := by
  obtain ⟨ao, c, hv, h1, h2, h3, h4⟩ := h
  refine ⟨ao, c, hv, h1, h2, h3, fun hne => ?_⟩
  obtain ⟨b, o, ha, hcs⟩ := h4 hne
  refine ⟨b, o, ha, fun i hi => ?_⟩
  obtain ⟨e1, e2⟩ := hcs i hi
  exact ⟨by rw [hc _ (lt_of_cell e1), e1], by rw [hc _ (lt_of_cell e2), e2]⟩
theorem RdP.below (h : RdP w v xs) (hb : Below w.heap.size w w') : RdP w' v xs := h.keep fun _ ha => hb.cell ha
theorem RdP.shape (h : RdP w v xs) : (xs = [] ∧ ∃ ao c, v = .slice ao 0 c) ∨
    (0 < xs.length ∧ ∃ b o c, v = .slice (some ⟨b, o, none⟩) xs.length c ∧ xs.length ≤ c ∧ c ≤ maxLen ∧ b < w.heap.size ∧
      ∀ i, i < xs.length → w.cell? ⟨b, o + i * 2, none⟩ = some (.int .i64 (xs.getD i (0, 0)).1) ∧ w.cell? ⟨b, o + i * 2 + 1, none⟩ = some (.int .i64 (xs.getD i (0, 0)).2) ∧ IsInt (xs.getD i (0, 0)).1 ∧ IsInt (xs.getD i (0, 0)).2) := by
  obtain ⟨ao, c, hv, h1, h2, h3, h4⟩ := h
  cases xs with
  | nil => exact Or.inl ⟨rfl, ao, c, hv⟩
  | cons x xs =>
    obtain ⟨b, o, rfl, hc⟩ := h4 (by simp)
    refine Or.inr ⟨by simp, b, o, c, hv, h1, h2, lt_of_cell (hc 0 (by simp)).1, fun i hi => ?_⟩
    have hg : (x :: xs).getD i (0, 0) = (x :: xs)[i] := by simp [List.getD, List.getElem?_eq_getElem hi]
    rw [hg]
    exact ⟨(hc i hi).1, (hc i hi).2, h3 _ (List.getElem_mem hi)⟩
theorem RdP.at {ao : Option Addr} {n c : Nat} (h : RdP w (.slice ao n c) xs) (hp : 0 < xs.length) : ∃ b o, ao = some ⟨b, o, none⟩ ∧ b < w.heap.size ∧
      ∀ i, i < xs.length → w.cell? ⟨b, o + i * 2, none⟩ = some (.int .i64 (xs.getD i (0, 0)).1) ∧ w.cell? ⟨b, o + i * 2 + 1, none⟩ = some (.int .i64 (xs.getD i (0, 0)).2) ∧ IsInt (xs.getD i (0, 0)).1 ∧ IsInt (xs.getD i (0, 0)).2 := by
  rcases h.shape with ⟨rfl, _⟩ | ⟨_, b, o, c', he, _, _, hb, hx⟩
  · cases hp
  · cases he
    exact ⟨b, o, rfl, hb, hx⟩
theorem RdP.any (h : RdP w v xs) : ∃ ao c, v = .slice ao xs.length c := by
  obtain ⟨ao, c, hv, _⟩ := h
  exact ⟨ao, c, hv⟩
theorem RdP.len (h : RdP w v xs) : xs.length ≤ maxLen := by
  obtain ⟨_, c, _, h1, h2, _⟩ := h
  omega
end

/-- a configuration's two bounds -/
def Cfg (v : Value) (mE mB : Int) : Prop := IsInt mE ∧ IsInt mB ∧ ∃ c2 c3 c4 c5 c6 c7 c8 c9 c10 c11 c12 : Value, v = .agg #[.int .i64 mE, .int .i64 mB, c2, c3, c4, c5, c6, c7, c8, c9, c10, c11, c12]

theorem isInt_of_wf {n : Int} (h : (Lit.int IntKind.i64 n).wf = true) : IsInt n := by
  unfold IsInt
  simpa [Lit.wf, IntKind.min, IntKind.max, IntKind.signed, IntKind.bits] using h

/-- how a list of charges reads as a datum -/
def ChargesD {H : Type} (d : DataW H) (xs : List (Int × Int)) : Prop := (d = .nil ∧ xs = []) ∨ ∃ el sp, d = .slice el sp ∧ el.length = xs.length

theorem open_charges_cells {H : Type} {enc : TypeId × Value → H} {W : World} {base : Nat} {spare : Nat → Bool} {held : Bool} {fuel : Nat} {cs : List Value} {x : DataW H × List MemPlace}
    (h : DataW.trod enc Try.prog W base spare held fuel 25 cs = some x) : ∃ v xs, cs = [v] ∧ RdP W v xs ∧ ChargesD x.1 xs ∧ ∀ n c, v = .slice none n c → c = 0 := by
  rcases Go.Deep.open_slice_pairs Try.underlying25 Try.underlying33 (by kernel_rfl) rfl rfl (by kernel_rfl) (by kernel_rfl) h with ⟨rfl, hx0⟩ | ⟨a, len, cap, m, n, V0, V1, D0, D1, P0, P1, rfl, _, hl, hm, hmm, hx0, hx⟩
  · exact ⟨_, [], rfl, ⟨none, 0, rfl, Nat.le_refl _, by unfold maxLen; omega, by simp, fun h => absurd rfl h⟩, Or.inl ⟨by rw [hx0], rfl⟩, fun n c h => by cases h; rfl⟩
  · have hlm : len ≤ m := by rw [hmm]; split <;> omega
    have each : ∀ i, ∃ p : Int × Int, i < m → W.cell? (a.add (i * 2)) = some (.int .i64 p.1) ∧ W.cell? (a.add (i * 2 + 1)) = some (.int .i64 p.2) ∧ IsInt p.1 ∧ IsInt p.2 := by
      intro i
      by_cases hi : i < m
      · obtain ⟨c0, c1, t0, t1⟩ := hx i hi
        obtain ⟨n0, e0, _, w0⟩ := DataW.trod_int Try.underlying3 t0
        obtain ⟨n1, e1, _, w1⟩ := DataW.trod_int Try.underlying3 t1
        simp at e0 e1
        rw [e0] at c0
        rw [e1] at c1
        exact ⟨(n0, n1), fun _ => ⟨c0, c1, isInt_of_wf w0, isInt_of_wf w1⟩⟩
      · exact ⟨(0, 0), fun h => absurd h hi⟩
    obtain ⟨f, hf⟩ := Classical.axiomOfChoice each
    refine ⟨_, (List.range len).map f, rfl, ⟨some a, cap, by simp, by simpa using hl, hm, ?_, fun hne => ?_⟩, Or.inr ⟨_, _, by rw [hx0], by simp⟩, fun n c h => by cases h⟩
    · intro p hp
      obtain ⟨i, hi, rfl⟩ := List.mem_map.1 hp
      have := hf i (by have := List.mem_range.1 hi; omega)
      exact ⟨this.2.2.1, this.2.2.2⟩
    · have h0 : 0 < len := by
        cases len with
        | zero => simp at hne
        | succ n => omega
      obtain ⟨b, off, spot⟩ := a
      have hspot : spot = none := by simpa [Addr.add] using World.cell?_spot (hf 0 (by omega)).1
      subst hspot
      refine ⟨b, off, rfl, fun i hi => ?_⟩
      simp only [List.length_map, List.length_range] at hi
      have := hf i (by omega)
      rw [add_plain, add_plain] at this
      simp only [List.getElem_map, List.getElem_range]
      exact ⟨this.1, by rw [Nat.add_assoc]; exact this.2.1⟩

theorem open_charges {H : Type} {enc : TypeId × Value → H} {W : World} {base : Nat} {v : Value} {d : DataW H} {p : List MemPlace}
    (hv : Value.okWide Try.prog W .any base 25 v) (h : DataW.Trod enc Try.prog W 0 (fun _ => true) true 25 v d p) : ∃ xs, RdP W v xs := by
  obtain ⟨a0, len, cap, rfl⟩ := okWide_slice Try.underlying25 hv
  obtain ⟨fuel, hf⟩ := h
  obtain ⟨v', xs, hc, hr, _, _⟩ := open_charges_cells hf
  simp [Value.cells] at hc
  subst hc
  exact ⟨xs, hr⟩

/-- the slice v holds these batches -/
def RdB (w : World) (v : Value) (bs : List (List (Int × Int))) : Prop :=
  ∃ (ao : Option Addr) (c : Nat), v = .slice ao bs.length c ∧ bs.length ≤ c ∧ c ≤ maxLen ∧
    (bs ≠ [] → ∃ b o, ao = some ⟨b, o, none⟩ ∧ b < w.heap.size ∧ ∀ i (h : i < bs.length), ∃ ai ci, w.cell? ⟨b, o + i, none⟩ = some (.slice ai (bs[i]).length ci) ∧ RdP w (.slice ai (bs[i]).length ci) (bs[i]) ∧ (ai = none → ci = 0))
def BatchesD {H : Type} (d : DataW H) (bs : List (List (Int × Int))) : Prop :=
  (d = .nil ∧ bs = []) ∨ ∃ el sp, d = .slice el sp ∧ ∀ i (h : i < bs.length), ∃ di, el[i]? = some di ∧ ChargesD di (bs[i])
theorem RdB.any {w : World} {v : Value} {bs : List (List (Int × Int))} (h : RdB w v bs) : ∃ ao c, v = .slice ao bs.length c := by
  obtain ⟨ao, c, hv, _⟩ := h
  exact ⟨ao, c, hv⟩
theorem RdB.len {w : World} {v : Value} {bs : List (List (Int × Int))} (h : RdB w v bs) : bs.length ≤ maxLen := by
  obtain ⟨_, c, _, h1, h2, _⟩ := h
  omega
theorem RdB.at {w : World} {ao : Option Addr} {n c : Nat} {bs : List (List (Int × Int))} (h : RdB w (.slice ao n c) bs) (hp : 0 < bs.length) : ∃ b o, ao = some ⟨b, o, none⟩ ∧ b < w.heap.size ∧
    ∀ i, i < bs.length → ∃ ai ci, w.cell? ⟨b, o + i, none⟩ = some (.slice ai (bs.getD i []).length ci) ∧ RdP w (.slice ai (bs.getD i []).length ci) (bs.getD i []) ∧ bs.getD i [] ∈ bs ∧ (ai = none → ci = 0) := by
  obtain ⟨ao', c', hv, h1, h2, h4⟩ := h
  cases hv
  obtain ⟨b, o, rfl, hb, hc⟩ := h4 (by intro e; subst e; simp at hp)
  refine ⟨b, o, rfl, hb, fun i hi => ?_⟩
  have hg : bs.getD i [] = bs[i] := by simp [List.getD, List.getElem?_eq_getElem hi]
  rw [hg]
  obtain ⟨ai, ci, e1, e2, e3⟩ := hc i hi
  exact ⟨ai, ci, e1, e2, List.getElem_mem hi, e3⟩

theorem open_batches {H : Type} {enc : TypeId × Value → H} {W : World} {base : Nat} {v : Value} {d : DataW H} {p : List MemPlace}
    (hv : Value.okWide Try.prog W .any base 40 v) (h : DataW.Trod enc Try.prog W 0 (fun _ => true) true 40 v d p) : ∃ bs, RdB W v bs ∧ BatchesD d bs := by
  obtain ⟨a0, len, cap, rfl⟩ := okWide_slice Try.underlying40 hv
  obtain ⟨fuel, hf⟩ := h
  rcases Go.Deep.open_slice1 Try.underlying40 (by kernel_rfl) hf with ⟨hcs, hx⟩ | ⟨a, len', cap', m, n, V, D, Pl, hcs, _, hl, hm, hmm, hx, hcell⟩
  · simp [Value.cells] at hcs
    obtain ⟨rfl, rfl, rfl⟩ := hcs
    simp only [Prod.mk.injEq] at hx
    exact ⟨[], ⟨none, 0, rfl, Nat.le_refl _, by unfold maxLen; omega, fun h => absurd rfl h⟩, Or.inl ⟨hx.1, rfl⟩⟩
  · simp [Value.cells] at hcs
    obtain ⟨rfl, rfl, rfl⟩ := hcs
    simp only [if_true] at hmm
    subst hmm
    simp only [Prod.mk.injEq] at hx
    have each : ∀ i, ∃ xs : List (Int × Int), i < m → ∃ ai ci, V i = .slice ai xs.length ci ∧ RdP W (.slice ai xs.length ci) xs ∧ ChargesD (D i) xs ∧ (ai = none → ci = 0) := by
      intro i
      by_cases hi : i < m
      · obtain ⟨v', xs, e1, e2, e3, e5⟩ := open_charges_cells (hcell i hi).2
        simp at e1
        obtain ⟨ai, ci, e4⟩ := e2.any
        rw [e4] at e2
        exact ⟨xs, fun _ => ⟨ai, ci, e1.trans e4, e2, e3, fun h => e5 _ _ (by rw [e4, h])⟩⟩
      · exact ⟨[], fun h => absurd h hi⟩
    obtain ⟨f, hf'⟩ := Classical.axiomOfChoice each
    refine ⟨(List.range len).map f, ⟨some a, m, by simp, by simpa using hl, hm, fun hne => ?_⟩, Or.inr ⟨_, _, hx.1, fun i hi => ?_⟩⟩
    · have h0 : 0 < len := by
        cases len with
        | zero => simp at hne
        | succ n => omega
      obtain ⟨b, off, spot⟩ := a
      have hspot : spot = none := by simpa [Addr.add] using World.cell?_spot (hcell 0 (by omega)).1
      subst hspot
      refine ⟨b, off, rfl, lt_of_cell (hcell 0 (by omega)).1, fun i hi => ?_⟩
      simp only [List.length_map, List.length_range] at hi
      obtain ⟨ai, ci, e1, e2, _, e6⟩ := hf' i (by omega)
      have := (hcell i (by omega)).1
      rw [add_plain, e1] at this
      simp only [List.getElem_map, List.getElem_range]
      exact ⟨ai, ci, this, e2, e6⟩
    · simp only [List.length_map, List.length_range] at hi
      obtain ⟨ai, ci, e1, e2, e3, _⟩ := hf' i (by omega)
      refine ⟨D i, by simp [hi], ?_⟩
      simpa using e3

theorem weights_mem_all {H : Type} {P : Program} {e : TypeId} : ∀ {el : List (DataW H)} {i : Nat} {d : DataW H}, el[i]? = some d → ∀ n ∈ d.weights P e, n ∈ DataW.weightsAll P e el
  | d0 :: el, 0, d, h, n, hn => by
    simp only [List.getElem?_cons_zero, Option.some.injEq] at h
    subst h
    simp only [DataW.weightsAll, List.mem_append]
    exact Or.inl hn
  | d0 :: el, i + 1, d, h, n, hn => by
    simp only [List.getElem?_cons_succ] at h
    simp only [DataW.weightsAll, List.mem_append]
    exact Or.inr (weights_mem_all h n hn)
  | [], _, _, h, _, _ => by simp at h
theorem batches_bound {H : Type} {ts : List TypeId} {ds : List (DataW H)} (hsz : (DataW.weightsEach Try.prog ts ds).all (· ≤ reachBytes) = true) {j : Nat} {d : DataW H} {bs : List (List (Int × Int))}
    (ht : ts[j]? = some 40) (hd : ds[j]? = some d) (h : BatchesD d bs) : ∀ xs ∈ bs, xs.length * 16 ≤ 140737488351232 := by
  intro xs hx
  rcases h with ⟨_, rfl⟩ | ⟨el, sp, rfl, h⟩
  · simp at hx
  obtain ⟨i, hi, rfl⟩ := List.getElem_of_mem hx
  obtain ⟨di, e1, e2⟩ := h i hi
  rcases e2 with ⟨_, h0⟩ | ⟨el', sp', rfl, h0⟩
  · rw [h0]; simp
  · have hb : Try.prog.bytesOf 33 = 16 := by kernel_rfl
    have m1 : (el'.length + sp'.length) * 16 ∈ (DataW.slice el' sp' : DataW H).weights Try.prog 25 := by
      simp [DataW.weights, Try.underlying25, hb]
    have m2 := weights_mem_all (P := Try.prog) (e := 25) e1 _ m1
    have m3 : (el'.length + sp'.length) * 16 ∈ (DataW.slice el sp : DataW H).weights Try.prog 40 := by
      simp [DataW.weights, Try.underlying40]
      exact Or.inr (Or.inl m2)
    have := List.all_eq_true.1 hsz _ (DataW.weights_mem_each ht hd _ m3)
    have h5 : (el'.length + sp'.length) * 16 ≤ reachBytes := by simpa using this
    simp only [reachBytes] at h5
    omega

theorem open_cfg {H : Type} {enc : TypeId × Value → H} {W : World} {base : Nat} {v : Value} {d : DataW H} {p : List MemPlace}
    (hv : Value.okWide Try.prog W .any base 24 v) (h : DataW.Trod enc Try.prog W 0 (fun _ => true) true 24 v d p) : ∃ mE mB, Cfg v mE mB := by
  obtain ⟨cs, rfl, hsz⟩ := okWide_struct Try.underlying24 hv
  have hC : Try.prog.cellsOf 24 = 13 := by kernel_rfl
  have hI : Try.prog.cellsOf 3 = 1 := by kernel_rfl
  rw [hC] at hsz
  obtain ⟨fuel, hf⟩ := h
  obtain ⟨xs, n, _, hx, _, hlen, hg⟩ := DataW.trod_struct Try.underlying24 hf
  obtain ⟨l⟩ := cs
  match l, hsz with
  | [c0, c1, c2, c3, c4, c5, c6, c7, c8, c9, c10, c11, c12], _ =>
    have g0 := hg 0 _ rfl
    have g1 := hg 1 _ rfl
    replace hlen : xs.length = 13 := hlen
    have l0 : 0 < xs.length := by rw [hlen]; decide
    have l1 : 1 < xs.length := by rw [hlen]; decide
    rw [List.getElem?_eq_getElem l0] at g0
    rw [List.getElem?_eq_getElem l1] at g1
    obtain ⟨n0, e0, _, w0⟩ := DataW.trod_int Try.underlying3 g0
    obtain ⟨n1, e1, _, w1⟩ := DataW.trod_int Try.underlying3 g1
    simp [hI, Value.cells] at e0 e1
    subst e0 e1
    exact ⟨n0, n1, isInt_of_wf w0, isInt_of_wf w1, _, _, _, _, _, _, _, _, _, _, _, rfl⟩
end Go.Proofs.Ytejeepmcoafdcaa
