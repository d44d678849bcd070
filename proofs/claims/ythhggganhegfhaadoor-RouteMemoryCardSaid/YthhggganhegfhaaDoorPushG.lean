/-
  'out = append(out, x)' onto a row of the call's own: the other blocks stay, and the row is the old one or a new one; and 'out[:n]'. For any program.
-/
import Derived.Test.YthhggganhegfhaaDoorRd
namespace Go.Proofs.YthhggganhegfhaaDoor
open Go.RowKit

/-- what an append turns: the row's own block alone; the row behind it is the old block or a new one -/
def Apart (w w' : World) (v v' : Value) : Prop := ∀ k, k < w.heap.size → v.ownBlock ≠ some k → v'.ownBlock ≠ some k ∧ w'.heap[k]? = w.heap[k]?

theorem run_push_apart {α : Type} {P : Program} {B : Nat} {t ty e : TypeId} {z : Value} {bytes : Nat} {enc : α → Value} (w : World) (ht : P.underlying t = some (.slice e)) (hi : (P.info? e).map (fun i => (i.zero, i.size, i.bytes)) = some (some z, 1, bytes)) (hzs : z.cells.size = 1)
    (v : Value) (xs : List α) (y : α) (hown : Own w B e enc v xs) (h1 : (enc y).oneCell' = true) (hbytes : (xs.length + 1) * bytes ≤ 140737488355328) (h63 : xs.length + 1 ≤ maxLen) (hB : B ≤ w.heap.size) :
    ∃ v' w', (Builtin.append_ #[t, t] ty #[v, .slice (some ⟨w.heap.size, 0, none⟩) 1 1]).run P (w.alloc (.cells #[enc y] e)) = .ok v' w' ∧ Own w' B e enc v' (xs ++ [y]) ∧ (w.alloc (.cells #[enc y] e)).grownBy w' v.ownBlock ∧ Apart w w' v v' := by
  obtain ⟨i0, hi1, hz0, hz1, hz2⟩ := info_parts hi
  have hnews : ∀ j u, [enc y][j]? = some u → (w.alloc (.cells #[enc y] e)).cell? ((⟨w.heap.size, 0, none⟩ : Addr).add j) = some u := by
    intro j u hj
    match j, hj with
    | 0, hj =>
      simp only [List.getElem?_cons_zero, Option.some.injEq] at hj
      subst hj
      rw [WideShapes.add_plain, World.cell?_alloc_at _ _ _ _ rfl]; rfl
  have hone : ∀ u ∈ [enc y], u.oneCell' = true := by
    intro u hu
    simp only [List.mem_singleton] at hu
    subst hu
    exact h1
  have hsz : w.heap.size + 1 = (w.alloc (.cells #[enc y] e)).heap.size := by simp
  obtain ⟨v', w', hr, h2, h3, h4⟩ := run_append_own (P := P) (w.alloc (.cells #[enc y] e)) B t ty e i0 z 1 bytes ht hi1 hz0 hz1 hz2 hzs (by omega) v xs.length (xs.map enc) (hown.alloc _) ⟨w.heap.size, 0, none⟩ 1 1 [enc y] rfl hnews hone h63 hbytes (by omega)
  refine ⟨v', w', hr, ?_, h3, fun k hk hne => ⟨?_, ?_⟩⟩
  · unfold Own
    rw [List.map_append, List.length_append]
    exact h2
  · rcases hown.2 with ⟨rfl, hl⟩ | ⟨g, cap, cur, rfl, hg, hh, hnc, hcm, hcs, htk⟩
    · have hx : xs = [] := List.eq_nil_of_length_eq_zero hl
      subst hx
      obtain ⟨v2, w2, hr2, k2, _, _⟩ := run_append_own (P := P) (w.alloc (.cells #[enc y] e)) (w.alloc (.cells #[enc y] e)).heap.size t ty e i0 z 1 bytes ht hi1 hz0 hz1 hz2 hzs (by omega) (.slice none 0 0) 0 [] (World.ownsRow_nil _ _ _ _) ⟨w.heap.size, 0, none⟩ 1 1 [enc y] rfl hnews hone (by simpa using h63) (by simpa using hbytes) (Nat.le_refl _)
      rw [hr] at hr2
      obtain ⟨rfl, rfl⟩ : v' = v2 ∧ w' = w2 := by cases hr2; exact ⟨rfl, rfl⟩
      intro e
      have := (World.ownsRow.lt k2 k e).1
      omega
    · have hgk : g ≠ k := fun e => hne (by simp [Value.ownBlock, e])
      by_cases hroom : xs.length + 1 ≤ cap
      · have hh' : (w.alloc (.cells #[enc y] e)).heap[g]? = some (.cells cur e (0, 0)) := by
          rw [Below.heap_alloc _ _ _ (Array.getElem?_eq_some_iff.1 hh).1]; exact hh
        have hr2 := run_append_room (P := P) (w.alloc (.cells #[enc y] e)) t ty e i0 ht hi1 g xs.length cap cur hh' ⟨w.heap.size, 0, none⟩ 1 1 [enc y] (by rw [hz1]; rfl) hnews hone hroom (by rw [hz1, hcs]; simp; omega)
        rw [hr] at hr2
        cases hr2
        simp [Value.ownBlock, hgk]
      · have hr2 := run_append_grow (P := P) (w.alloc (.cells #[enc y] e)) t ty e i0 z ht hi1 hz0 ⟨g, 0, none⟩ xs.length cap (xs.map enc) (by rw [hz1]; simp) ((hown.alloc _).cells (g := g) rfl) ⟨w.heap.size, 0, none⟩ 1 1 [enc y] (by rw [hz1]; rfl) hnews (by omega) (by simp only [maxLen] at h63; omega) (growslice_fits (by omega) (by rw [hz2]; exact hbytes))
        rw [hr] at hr2
        cases hr2
        simp [Value.ownBlock]
        omega
  · rw [h3.block k (by omega) (fun e => hne e.symm), Below.heap_alloc _ _ _ hk]

/-- one element onto a row of the call's own; what lies apart from it stays -/
theorem wpList_pushG {α : Type} {P : Program} {ops : Array Oper} {rest : List Oper} {o : Oper} {a : Act} {Q : Exit → Act → World → Prop} (w : World) (hgd : o.guard = none) (s x : Operand) (t : TypeId)
    (ho : o.op = .call { callee := .builtin .append, args := #[s, x], argTypes := #[t, t] })
    (B : Nat) (e : TypeId) (z : Value) (bytes : Nat) (enc : α → Value) (ht : P.underlying t = some (.slice e)) (hi : (P.info? e).map (fun i => (i.zero, i.size, i.bytes)) = some (some z, 1, bytes)) (hzs : z.cells.size = 1)
    (v : Value) (xs : List α) (y : α) (n : Nat) (hs : a.eval s = v) (hown : Own w B e enc v xs) (hn : xs.length = n) (N : Nat) (hx : a.eval x = .slice (some ⟨N, 0, none⟩) 1 1) (hN : N = w.heap.size) (h1 : (enc y).oneCell' = true)
    (hbytes : (n + 1) * bytes ≤ 140737488355328) (h63 : n + 1 ≤ maxLen) (hB : B ≤ w.heap.size)
    (h : ∀ g cap w', Own w' B e enc (.slice (some ⟨g, 0, none⟩) (n + 1) cap) (xs ++ [y]) → Below B w w' → Apart w w' v (.slice (some ⟨g, 0, none⟩) (n + 1) cap) → wpList P ops Q rest (a.put o.dst (.slice (some ⟨g, 0, none⟩) (n + 1) cap)) w') :
    wpList P ops Q (o :: rest) a (w.alloc (.cells #[enc y] e)) := by
  subst hN
  subst hn
  refine wpList_plain hgd fun _ hK => ?_
  obtain ⟨v', w', hr, h2, h3, h4⟩ := run_push_apart (P := P) (ty := o.type) w ht hi hzs v xs y hown h1 hbytes h63 hB
  have hb : Below B w w' := ((Below.refl B w).alloc hB _).grown h3 (by simp; omega) (fun k hk => (World.ownsRow.lt hown k hk).1)
  have hl : (xs ++ [y]).length = xs.length + 1 := by simp
  have hv : ∃ g cap, v' = .slice (some ⟨g, 0, none⟩) (xs.length + 1) cap := by
    rcases h2.2 with ⟨_, h5⟩ | ⟨g, cap, cur, e, _⟩
    · omega
    · rw [hl] at e; exact ⟨g, cap, e⟩
  obtain ⟨g, cap, rfl⟩ := hv
  unfold Oper.wp execOp
  simp only [ho, resolve, invoke, builtin, Sem.run_bind, Sem.run_pure, Result.andThen_ok, List.map_toArray, List.map_cons, List.map_nil, hs, hx, hr]
  exact hK _ _ (h g cap w' h2 hb h4)

theorem Own.form {α : Type} {w : World} {B : Nat} {e : TypeId} {enc : α → Value} {v : Value} {xs : List α} (h : Own w B e enc v xs) : ∃ ao cap, v = .slice ao xs.length cap := by
  rcases h.2 with ⟨rfl, h2⟩ | ⟨g, cap, cur, rfl, _⟩
  · exact ⟨none, 0, by rw [h2]⟩
  · exact ⟨_, _, rfl⟩
/-- a row of some element has an address -/
theorem Own.addr {α : Type} {w : World} {B : Nat} {e : TypeId} {enc : α → Value} {v : Value} {xs : List α} (h : Own w B e enc v xs) (hne : xs ≠ []) : ∃ g cap, v = .slice (some ⟨g, 0, none⟩) xs.length cap := by
  rcases h.2 with ⟨rfl, h2⟩ | ⟨g, cap, cur, rfl, _⟩
  · exact absurd (List.eq_nil_of_length_eq_zero h2) hne
  · exact ⟨_, _, rfl⟩
/-- 'out[:n]' -/
theorem Own.cut {α : Type} {w : World} {B : Nat} {e : TypeId} {enc : α → Value} {g n cap : Nat} {xs : List α} (h : Own w B e enc (.slice (some ⟨g, 0, none⟩) n cap) xs) (m : Nat) (hm : m ≤ xs.length) : Own w B e enc (.slice (some ⟨g, 0, none⟩) m cap) (xs.take m) := by
  have hl : (xs.take m).length = m := by rw [List.length_take]; omega
  obtain ⟨h1, h2⟩ := h
  rcases h2 with ⟨h2, _⟩ | ⟨g', cap', cur, hv, hg, hh, hn, hc, hs, hd⟩
  · cases h2
  · cases hv
    unfold Own
    rw [hl]
    refine ⟨by simp; omega, Or.inr ⟨g, cap, cur, rfl, hg, hh, by omega, hc, hs, ?_⟩⟩
    rw [List.map_take, ← hd, List.take_take]
    congr 1
    omega
/-- a row as something that is read -/
theorem Own.rd' {α : Type} {w : World} {B : Nat} {e : TypeId} {enc : α → Value} {v : Value} {xs : List α} (h : Own w B e enc v xs) : Rd w enc v xs := by
  rcases h.2 with ⟨rfl, h2⟩ | ⟨g, cap, cur, rfl, _⟩
  · have : xs = [] := List.eq_nil_of_length_eq_zero h2
    subst this
    exact Rd.nil _ _
  · exact Own.rd h
/-- what another piece of work that keeps the row's block leaves -/
theorem Own.stay {α : Type} {w w' : World} {B : Nat} {e : TypeId} {enc : α → Value} {v : Value} {xs : List α} (h : Own w B e enc v xs) (hk : ∀ k, v.ownBlock = some k → w'.heap[k]? = w.heap[k]?) : Own w' B e enc v xs := by
  refine ⟨h.1, ?_⟩
  rcases h.2 with h2 | ⟨g, cap, cur, rfl, hg, hh, rest⟩
  · exact Or.inl h2
  · exact Or.inr ⟨g, cap, cur, rfl, hg, by rw [hk g rfl]; exact hh, rest⟩
theorem Own.lt {α : Type} {w : World} {B : Nat} {e : TypeId} {enc : α → Value} {v : Value} {xs : List α} (h : Own w B e enc v xs) {k : Nat} (hk : v.ownBlock = some k) : B ≤ k ∧ k < w.heap.size := World.ownsRow.lt h k hk
theorem Own.below' {α : Type} {w w' : World} {B : Nat} {e : TypeId} {enc : α → Value} {v : Value} {xs : List α} (h : Own w B e enc v xs) (hb : Below w.heap.size w w') : Own w' B e enc v xs :=
  h.stay fun k hk => hb.block k (h.lt hk).2
/-- a lower claim on where the row lies -/
theorem Own.mono {α : Type} {w : World} {B B' : Nat} {e : TypeId} {enc : α → Value} {v : Value} {xs : List α} (h : Own w B e enc v xs) (hB : B' ≤ B) : Own w B' e enc v xs := by
  refine ⟨h.1, ?_⟩
  rcases h.2 with h2 | ⟨g, cap, cur, rfl, hg, rest⟩
  · exact Or.inl h2
  · exact Or.inr ⟨g, cap, cur, rfl, Nat.le_trans hB hg, rest⟩
end Go.Proofs.YthhggganhegfhaaDoor
