/-
  Slices whose elements take several cells: what a value holds, a row of the call's own, appending to it. For any program.
-/
import Derived.Test.YtejeepmcoafdcaaRd
namespace Go.Proofs.Ytejeepmcoafdcaa
open Go.RowKit
set_option linter.unusedVariables false

theorem flat_len {α : Type} {size : Nat} {enc : α → List Value} (he : ∀ x, (enc x).length = size) (xs : List α) : (xs.flatMap enc).length = xs.length * size := by
  induction xs with
  | nil => simp
  | cons x xs ih => simp only [List.flatMap_cons, List.length_append, List.length_cons, he, ih]; rw [Nat.add_mul]; omega
theorem flat_get {α : Type} {size : Nat} {enc : α → List Value} (he : ∀ x, (enc x).length = size) (xs : List α) (i j : Nat) (hi : i < xs.length) (hj : j < size) : (xs.flatMap enc)[i * size + j]? = (enc (xs[i]))[j]? := by
  induction xs generalizing i with
  | nil => simp at hi
  | cons x xs ih =>
    cases i with
    | zero =>
      simp only [List.flatMap_cons, Nat.zero_mul, Nat.zero_add, List.getElem_cons_zero]
      rw [List.getElem?_append_left (by rw [he]; exact hj)]
    | succ i =>
      simp only [List.length_cons] at hi
      simp only [List.flatMap_cons, List.getElem_cons_succ]
      rw [List.getElem?_append_right (by rw [he, Nat.add_mul]; omega), he, ← ih i (by omega)]
      congr 1
      rw [Nat.add_mul]; omega

/-- the slice v holds these elements, each of 'size' cells -/
def RdM {α : Type} (w : World) (size : Nat) (enc : α → List Value) (v : Value) (xs : List α) : Prop :=
  ∃ (ao : Option Addr) (c : Nat), v = .slice ao xs.length c ∧ xs.length ≤ c ∧ c ≤ maxLen ∧ (ao = none → c = 0) ∧
    (xs ≠ [] → ∃ b o, ao = some ⟨b, o, none⟩ ∧ b < w.heap.size ∧ ∀ i (h : i < xs.length) j, j < size → w.cell? ⟨b, o + i * size + j, none⟩ = (enc (xs[i]))[j]?)

section
variable {α : Type} {w w' : World} {size : Nat} {enc : α → List Value} {v : Value} {xs : List α}
theorem RdM.keepOff (h : RdM w size enc v xs) (hz : w.heap.size ≤ w'.heap.size) (hc : ∀ b o n c, v = .slice (some ⟨b, o, none⟩) n c → b < w.heap.size → ∀ i, w'.cell? ⟨b, i, none⟩ = w.cell? ⟨b, i, none⟩) : RdM w' size enc v xs := by
  obtain ⟨ao, c, hv, h1, h2, h3, h4⟩ := h
  refine ⟨ao, c, hv, h1, h2, h3, fun hne => ?_⟩
  obtain ⟨b, o, ha, hb, hcs⟩ := h4 hne
  subst ha
  refine ⟨b, o, rfl, Nat.lt_of_lt_of_le hb hz, fun i hi j hj => ?_⟩
  rw [hc b o _ _ hv hb, hcs i hi j hj]
theorem RdM.below (h : RdM w size enc v xs) (hb : Below w.heap.size w w') : RdM w' size enc v xs := h.keepOff hb.size fun _ _ _ _ _ ha _ => hb.cell ha
theorem RdM.drawn (h : RdM w size enc v xs) (hd : Drawn w w') : RdM w' size enc v xs := h.keepOff (by rw [hd.heap]; exact Nat.le_refl _) fun _ _ _ _ _ _ _ => hd.cell _
theorem RdM.alloc (h : RdM w size enc v xs) (o : Obj) : RdM (w.alloc o) size enc v xs := h.below ((Below.refl _ _).alloc (Nat.le_refl _) o)
theorem RdM.nil (w : World) (size : Nat) (enc : α → List Value) : RdM w size enc (.slice none 0 0) [] := ⟨none, 0, rfl, Nat.le_refl _, by unfold maxLen; omega, fun _ => rfl, fun h => absurd rfl h⟩
theorem RdM.any (h : RdM w size enc v xs) : ∃ ao c, v = .slice ao xs.length c := by
  obtain ⟨ao, c, hv, _⟩ := h
  exact ⟨ao, c, hv⟩
theorem RdM.len (h : RdM w size enc v xs) : xs.length ≤ maxLen := by
  obtain ⟨_, c, _, h1, h2, _⟩ := h
  omega
theorem RdM.at {ao : Option Addr} {n c : Nat} (h : RdM w size enc (.slice ao n c) xs) (hp : 0 < xs.length) : ∃ b o, ao = some ⟨b, o, none⟩ ∧ b < w.heap.size ∧ n ≤ c ∧ c ≤ maxLen ∧ n = xs.length ∧ ∀ i (h : i < xs.length) j, j < size → w.cell? ⟨b, o + i * size + j, none⟩ = (enc (xs[i]))[j]? := by
  obtain ⟨ao', c', hv, h1, h2, h3, h4⟩ := h
  cases hv
  obtain ⟨b, o, rfl, hb, hc⟩ := h4 (by intro e; subst e; simp at hp)
  exact ⟨b, o, rfl, hb, h1, h2, rfl, hc⟩
end

/-- the slice v owns a row of these elements, each of 'size' cells, in a block from B on -/
def OwnM {α : Type} (w : World) (B : Nat) (e : TypeId) (size : Nat) (enc : α → List Value) (v : Value) (xs : List α) : Prop := w.ownsRow B e size v xs.length (xs.flatMap enc)

section
variable {α : Type} {w w' : World} {B : Nat} {e : TypeId} {size : Nat} {enc : α → List Value} {v : Value} {xs : List α} {g n cap : Nat}
theorem OwnM.alloc (h : OwnM w B e size enc v xs) (o : Obj) : OwnM (w.alloc o) B e size enc v xs := World.ownsRow.alloc h o
theorem OwnM.drew (h : OwnM w B e size enc v xs) : OwnM w.drew B e size enc v xs := World.ownsRow.drew h
theorem OwnM.empty (w : World) (B : Nat) (e : TypeId) (size : Nat) (enc : α → List Value) (hB : B ≤ w.heap.size) : OwnM (w.alloc (.cells #[] e)) B e size enc (.slice (some ⟨w.heap.size, 0, none⟩) 0 0) [] := by
  have := World.ownsRow_lit (base := B) (e := e) (size := size) w #[] 0 hB (by unfold maxLen; omega) (by simp)
  exact this
theorem OwnM.nil (w : World) (B : Nat) (e : TypeId) (size : Nat) (enc : α → List Value) : OwnM w B e size enc (.slice none 0 0) [] := World.ownsRow_nil _ _ _ _
theorem OwnM.heap (h : OwnM w B e size enc v xs) (hh : w'.heap = w.heap) : OwnM w' B e size enc v xs := by
  unfold OwnM World.ownsRow at *
  rw [hh]; exact h
theorem OwnM.len (h : OwnM w B e size enc (.slice (some ⟨g, 0, none⟩) n cap) xs) : n = xs.length ∧ xs.length ≤ cap ∧ cap ≤ maxLen ∧ B ≤ g ∧ g < w.heap.size := by
  rcases h.2 with ⟨h2, _⟩ | ⟨g', cap', cur, he, hg, hh, hn, hc, _⟩
  · cases h2
  · cases he
    exact ⟨rfl, hn, hc, hg, (Array.getElem?_eq_some_iff.1 hh).1⟩
/-- its value: nil and of no element, or at the head of a block -/
theorem OwnM.form (h : OwnM w B e size enc v xs) : (v = .slice none 0 0 ∧ xs = []) ∨ ∃ g cap, v = .slice (some ⟨g, 0, none⟩) xs.length cap := by
  rcases h.2 with ⟨h2, h3⟩ | ⟨g', cap', cur, he, _⟩
  · exact Or.inl ⟨h2, List.length_eq_zero_iff.1 h3⟩
  · exact Or.inr ⟨g', cap', he⟩
theorem OwnM.block (h : OwnM w B e size enc (.slice (some ⟨g, 0, none⟩) n cap) xs) (hk : w'.heap[g]? = w.heap[g]?) : OwnM w' B e size enc (.slice (some ⟨g, 0, none⟩) n cap) xs := by
  refine ⟨h.1, ?_⟩
  rcases h.2 with ⟨h2, _⟩ | ⟨g', cap', cur, he, hg, hh, rest⟩
  · cases h2
  · cases he
    exact .inr ⟨g, cap, cur, rfl, hg, by rw [hk]; exact hh, rest⟩
theorem OwnM.below {B' : Nat} (h : OwnM w B e size enc (.slice (some ⟨g, 0, none⟩) n cap) xs) (hb : Below B' w w') (hg : g < B') : OwnM w' B e size enc (.slice (some ⟨g, 0, none⟩) n cap) xs := h.block (hb.block g hg)
theorem OwnM.other (h : OwnM w B e size enc (.slice (some ⟨g, 0, none⟩) n cap) xs) (a : Addr) (ha : a.block ≠ g) (u : Value) : OwnM (w.setCell a u) B e size enc (.slice (some ⟨g, 0, none⟩) n cap) xs := h.block (Below.heap_setCell _ _ _ _ (by omega))
theorem OwnM.cell (he : ∀ x, (enc x).length = size) (h : OwnM w B e size enc (.slice (some ⟨g, 0, none⟩) n cap) xs) (i : Nat) (hi : i < xs.length) (j : Nat) (hj : j < size) : w.cell? ⟨g, i * size + j, none⟩ = (enc (xs[i]))[j]? := by
  have hl : i * size + j < xs.length * size := by
    have : (i + 1) * size ≤ xs.length * size := Nat.mul_le_mul_right _ hi
    rw [Nat.add_mul] at this; omega
  have hx : (xs.flatMap enc)[i * size + j]? = some ((xs.flatMap enc)[i * size + j]'(by rw [flat_len he]; exact hl)) := List.getElem?_eq_getElem _
  have := World.ownsRow.cells h (g := g) rfl _ _ hx
  rw [WideShapes.add_plain, Nat.zero_add] at this
  rw [this, ← hx, flat_get he xs i j hi hj]
theorem OwnM.free (h : OwnM w B e size enc (.slice (some ⟨g, 0, none⟩) n cap) xs) (j : Nat) : w.frozen? ⟨g, j, none⟩ = false := by
  obtain ⟨rfl, _⟩ := h.len
  exact World.ownsRow.frozenAt h j
theorem OwnM.rd (he : ∀ x, (enc x).length = size) (h : OwnM w B e size enc v xs) : RdM w size enc v xs := by
  rcases h.form with ⟨rfl, rfl⟩ | ⟨g, cap, rfl⟩
  · exact RdM.nil _ _ _
  · obtain ⟨_, h1, h2, h3, h4⟩ := h.len
    refine ⟨_, cap, rfl, h1, h2, (fun h => by cases h), fun _ => ⟨g, 0, rfl, h4, fun i hi j hj => ?_⟩⟩
    rw [Nat.zero_add]; exact h.cell he i hi j hj
end

section
variable {α : Type} {w w' : World} {B : Nat} {e : TypeId} {size : Nat} {enc : α → List Value} {v : Value} {xs : List α} {g n cap : Nat}
/-- a block of another type is another block -/
theorem OwnM.ne {M : Nat} {cs : Array Value} {T : TypeId} (h : OwnM w B e size enc (.slice (some ⟨g, 0, none⟩) n cap) xs) (hM : w.heap[M]? = some (.cells cs T)) (hT : e ≠ T) : g ≠ M := by
  intro hg
  subst hg
  rcases h.2 with ⟨h2, _⟩ | ⟨g', cap', cur, he, _, hh, _⟩
  · cases h2
  · cases he
    rw [hM] at hh
    cases hh
    exact hT rfl
theorem OwnM.ownNe {M : Nat} {cs : Array Value} {T : TypeId} (h : OwnM w B e size enc v xs) (hM : w.heap[M]? = some (.cells cs T)) (hT : e ≠ T) : some M ≠ v.ownBlock := by
  rcases h.form with ⟨rfl, _⟩ | ⟨g, cap, rfl⟩
  · intro hh; cases hh
  · intro hh
    simp [Value.ownBlock] at hh
    exact h.ne hM hT hh.symm
theorem OwnM.keep (h : OwnM w B e size enc v xs) (hk : ∀ g n c, v = .slice (some ⟨g, 0, none⟩) n c → w'.heap[g]? = w.heap[g]?) : OwnM w' B e size enc v xs := by
  rcases h.form with ⟨rfl, rfl⟩ | ⟨g, cap, rfl⟩
  · exact OwnM.nil _ _ _ _ _
  · exact h.block (hk g _ _ rfl)
theorem OwnM.drewN (h : OwnM w B e size enc v xs) (hd : Drawn w w') : OwnM w' B e size enc v xs := h.heap hd.heap
end

/-- 'out = append(out, x)': one element onto a row of the call's own -/
theorem wpList_pushM {α : Type} {P : Program} {ops : Array Oper} {rest : List Oper} {o : Oper} {a : Act} {Q : Exit → Act → World → Prop} (w : World) (hgd : o.guard = none) (s x : Operand) (t : TypeId)
    (ho : o.op = .call { callee := .builtin .append, args := #[s, x], argTypes := #[t, t] })
    (B : Nat) (e : TypeId) (z : Value) (size bytes : Nat) (enc : α → List Value) (ht : P.underlying t = some (.slice e)) (hi : (P.info? e).map (fun i => (i.zero, i.size, i.bytes)) = some (some z, size, bytes)) (hzs : z.cells.size = size) (hsz : 0 < size)
    (he : ∀ x, (enc x).length = size)
    (v : Value) (xs : List α) (y : α) (n : Nat) (hs : a.eval s = v) (hown : OwnM w B e size enc v xs) (hn : xs.length = n) (N : Nat) (hx : a.eval x = .slice (some ⟨N, 0, none⟩) 1 1) (hN : N = w.heap.size) (cs : Array Value) (hcs : cs.toList = enc y) (h1 : ∀ u ∈ enc y, u.oneCell' = true)
    (hbytes : (n + 1) * bytes ≤ 140737488355328) (h63 : n + 1 ≤ maxLen) (hB : B ≤ w.heap.size)
    (h : ∀ g cap w', OwnM w' B e size enc (.slice (some ⟨g, 0, none⟩) (n + 1) cap) (xs ++ [y]) → (w.alloc (.cells cs e)).grownBy w' v.ownBlock → Below B w w' → wpList P ops Q rest (a.put o.dst (.slice (some ⟨g, 0, none⟩) (n + 1) cap)) w') :
    wpList P ops Q (o :: rest) a (w.alloc (.cells cs e)) := by
  subst hN
  subst hn
  obtain ⟨i0, hi1, hz0, hz1, hz2⟩ := info_parts hi
  refine wpList_append_own (w.alloc (.cells cs e)) hgd s x t ho B e i0 z size bytes ht hi1 hz0 hz1 hz2 hzs hsz v xs.length (xs.flatMap enc) hs (World.ownsRow.alloc hown _) ⟨w.heap.size, 0, none⟩ 1 1 (enc y) hx (by rw [he]; omega) ?_ h1 h63 hbytes (by simp; omega) ?_
  · intro j u hj
    rw [WideShapes.add_plain, Nat.zero_add, World.cell?_alloc_at _ _ _ _ rfl]
    rw [← hcs] at hj
    simpa using hj
  · intro v' w' hown' hgrow hnil
    have hb : Below B w w' := ((Below.refl B w).alloc hB _).grown hgrow (by simp; omega) (fun k hk => (World.ownsRow.lt hown k hk).1)
    have hl : (xs ++ [y]).length = xs.length + 1 := by simp
    rcases hown'.2 with ⟨h2, h3⟩ | ⟨g, cap, cur, rfl, _⟩
    · exact absurd h3 (by omega)
    · refine h g cap w' ?_ hgrow hb
      unfold OwnM
      rw [hl, List.flatMap_append]
      simpa using hown'

/-- 'out = append(out, s...)': whatever s -/
theorem wpList_push_allM {α : Type} {P : Program} {ops : Array Oper} {rest : List Oper} {o : Oper} {a : Act} {Q : Exit → Act → World → Prop} (w : World) (hgd : o.guard = none) (s x : Operand) (t : TypeId)
    (ho : o.op = .call { callee := .builtin .append, args := #[s, x], argTypes := #[t, t] })
    (B : Nat) (e : TypeId) (z : Value) (size bytes : Nat) (enc : α → List Value) (ht : P.underlying t = some (.slice e)) (hi : (P.info? e).map (fun i => (i.zero, i.size, i.bytes)) = some (some z, size, bytes)) (hzs : z.cells.size = size) (hsz : 0 < size)
    (he : ∀ x, (enc x).length = size)
    (g0 n c0 : Nat) (xs ys : List α) (sv : Value) (hs : a.eval s = .slice (some ⟨g0, 0, none⟩) n c0) (hown : OwnM w B e size enc (.slice (some ⟨g0, 0, none⟩) n c0) xs)
    (hx : a.eval x = sv) (hrd : RdM w size enc sv ys) (h1 : ∀ y, ∀ u ∈ enc y, u.oneCell' = true)
    (hbytes : (n + ys.length) * bytes ≤ 140737488355328) (h63 : n + ys.length ≤ maxLen) (hB : B ≤ w.heap.size)
    (h : ∀ g cap w', OwnM w' B e size enc (.slice (some ⟨g, 0, none⟩) (n + ys.length) cap) (xs ++ ys) → Below B w w' → wpList P ops Q rest (a.put o.dst (.slice (some ⟨g, 0, none⟩) (n + ys.length) cap)) w') :
    wpList P ops Q (o :: rest) a w := by
  obtain ⟨i0, hi1, hz0, hz1, hz2⟩ := info_parts hi
  obtain ⟨hn, _⟩ := hown.len
  subst hn
  obtain ⟨ao, c, rfl, hc1, hc2, hc3, hc4⟩ := hrd
  cases ao with
  | none =>
    have hy : ys = [] := by
      cases ys with
      | nil => rfl
      | cons y ys => have := hc3 rfl; simp at hc1; omega
    subst hy
    have := hc3 rfl
    subst this
    refine wpList_append_own_none hgd s x t ho B e i0 size ht hi1 _ xs.length (xs.flatMap enc) hs hown hx ?_
    have := h g0 c0 w (by simpa using hown) (Below.refl _ _)
    simpa using this
  | some ad =>
    refine wpList_append_own w hgd s x t ho B e i0 z size bytes ht hi1 hz0 hz1 hz2 hzs hsz _ xs.length (xs.flatMap enc) hs hown ad ys.length c (ys.flatMap enc) hx (flat_len he ys) ?_ ?_ h63 hbytes hB ?_
    · intro j u hj
      have hjl : j < ys.length * size := by
        have := (List.getElem?_eq_some_iff.1 hj).1
        rwa [flat_len he] at this
      have hne : ys ≠ [] := by intro e; subst e; simp at hjl
      obtain ⟨b, o, ha, hb, hcs⟩ := hc4 hne
      cases ha
      have hdm : j / size * size + j % size = j := by rw [Nat.mul_comm]; exact Nat.div_add_mod j size
      have hdl : j / size < ys.length := Nat.div_lt_of_lt_mul (by rw [Nat.mul_comm]; exact hjl)
      have hml : j % size < size := Nat.mod_lt _ hsz
      have := hcs (j / size) hdl (j % size) hml
      rw [WideShapes.add_plain]
      rw [Nat.add_assoc, hdm] at this
      rw [this, ← flat_get he ys _ _ hdl hml, hdm]
      exact hj
    · intro u hu
      obtain ⟨y, _, hy⟩ := List.mem_flatMap.1 hu
      exact h1 y u hy
    · intro v' w' hown' hgrow hnil
      have hb : Below B w w' := (Below.refl B w).grown hgrow hB (fun k hk => (World.ownsRow.lt hown k hk).1)
      rcases hown'.2 with ⟨h2, _⟩ | ⟨g, cap, cur, rfl, _⟩
      · exact absurd (hnil.1 h2).1 (by intro e; cases e)
      · refine h g cap w' ?_ hb
        unfold OwnM
        rw [List.flatMap_append, List.length_append]
        exact hown'
end Go.Proofs.Ytejeepmcoafdcaa
