/-
  What stands between the commas: plain, no program in sight.
-/
import Derived.Lib.SplitLaws
import Derived.Lib.Bytealg
namespace Go.Proofs.YtbkclmpopofebaaDoor

/-- what stands between the commas -/
def pcs : List UInt8 → List (List UInt8)
  | [] => [[]]
  | c :: l => if c = 44 then [] :: pcs l else match pcs l with
    | [] => [[c]]
    | p :: ps => (c :: p) :: ps
def noComma (a : List UInt8) : Prop := ∀ x ∈ a, x ≠ 44
theorem pcs_hit : ∀ (a b : List UInt8), noComma a → pcs (a ++ 44 :: b) = a :: pcs b
  | [], b, _ => by simp [pcs]
  | c :: a, b, h => by
    have h1 : c ≠ 44 := h c (by simp)
    have h2 : noComma a := fun x hx => h x (by simp [hx])
    rw [List.cons_append, pcs, if_neg h1, pcs_hit a b h2]
theorem pcs_last : ∀ (a : List UInt8), noComma a → pcs a = [a]
  | [], _ => rfl
  | c :: a, h => by
    have h1 : c ≠ 44 := h c (by simp)
    have h2 : noComma a := fun x hx => h x (by simp [hx])
    rw [pcs, if_neg h1, pcs_last a h2]
/-- either no comma, or the first one -/
theorem comma_cases : ∀ (l : List UInt8), noComma l ∨ ∃ a b, l = a ++ 44 :: b ∧ noComma a
  | [] => .inl (fun x hx => by cases hx)
  | c :: l => by
    by_cases h : c = 44
    · subst h; exact .inr ⟨[], l, rfl, fun x hx => by cases hx⟩
    · rcases comma_cases l with h1 | ⟨a, b, rfl, h1⟩
      · exact .inl fun x hx => by
          rcases List.mem_cons.1 hx with rfl | hx
          · exact h
          · exact h1 x hx
      · exact .inr ⟨c :: a, b, rfl, fun x hx => by
          rcases List.mem_cons.1 hx with rfl | hx
          · exact h
          · exact h1 x hx⟩
theorem pcs_parts : ∀ (l : List UInt8), ∀ p ∈ pcs l, noComma p ∧ ∀ x ∈ p, x ∈ l
  | [], p, hp => by
    simp [pcs] at hp
    subst hp
    exact ⟨fun x hx => (by cases hx), fun x hx => (by cases hx)⟩
  | c :: l, p, hp => by
    rw [pcs] at hp
    have ih := pcs_parts l
    split at hp
    · rcases List.mem_cons.1 hp with rfl | hp
      · exact ⟨fun x hx => (by cases hx), fun x hx => (by cases hx)⟩
      · exact ⟨(ih p hp).1, fun x hx => List.mem_cons_of_mem _ ((ih p hp).2 x hx)⟩
    · rename_i hc
      split at hp
      · simp at hp
        subst hp
        exact ⟨fun x hx => by simp at hx; subst hx; exact hc, fun x hx => by simp at hx; simp [hx]⟩
      · rename_i q qs he
        rw [he] at ih
        rcases List.mem_cons.1 hp with rfl | hp
        · have h1 := ih q (by simp)
          refine ⟨fun x hx => ?_, fun x hx => ?_⟩
          · rcases List.mem_cons.1 hx with rfl | hx
            · exact hc
            · exact h1.1 x hx
          · rcases List.mem_cons.1 hx with rfl | hx
            · simp
            · exact List.mem_cons_of_mem _ (h1.2 x hx)
        · have h1 := ih p (by simp [hp])
          exact ⟨h1.1, fun x hx => List.mem_cons_of_mem _ (h1.2 x hx)⟩
theorem pcs_len : ∀ (l : List UInt8), (pcs l).length ≤ l.length + 1
  | [] => by simp [pcs]
  | c :: l => by
    have ih := pcs_len l
    rw [pcs]
    split
    · simp; omega
    · split
      · simp
      · rename_i p ps he
        rw [he] at ih
        simp at ih ⊢; omega
theorem pcs_pos (l : List UInt8) : pcs l ≠ [] := by
  rcases comma_cases l with h | ⟨a, b, rfl, h⟩
  · rw [pcs_last l h]; simp
  · rw [pcs_hit a b h]; simp
/-- two texts with a comma between -/
theorem pcs_append : ∀ (a b : List UInt8), pcs (a ++ 44 :: b) = pcs a ++ pcs b
  | a, b => by
    rcases comma_cases a with h | ⟨x, y, rfl, h⟩
    · rw [pcs_hit a b h, pcs_last a h]; rfl
    · rw [List.append_assoc, List.cons_append, pcs_hit x _ h, pcs_hit x y h, pcs_append y b]; rfl
  termination_by a _ => a.length

theorem index_no {l : List UInt8} (h : noComma l) : Lib.index l [44] = -1 := by
  induction l with
  | nil => rfl
  | cons c l ih =>
    have h1 : c ≠ 44 := h c (by simp)
    rw [Lib.index, if_neg (by simpa [List.isPrefixOf] using Ne.symm h1), ih fun x hx => h x (by simp [hx])]
    rfl
theorem index_at {a b : List UInt8} (h : noComma a) : Lib.index (a ++ 44 :: b) [44] = (a.length : Int) := by
  induction a with
  | nil => simp [Lib.index, List.isPrefixOf]
  | cons c a ih =>
    have h1 : c ≠ 44 := h c (by simp)
    have := ih fun x hx => h x (by simp [hx])
    rw [List.cons_append, Lib.index, if_neg (by simpa [List.isPrefixOf] using Ne.symm h1), this]
    have : ¬ (((a.length : Int)) == -1) = true := by simp
    rw [if_neg this]; simp
theorem count_no {l : List UInt8} (h : noComma l) : l.count 44 = 0 := List.count_eq_zero.2 fun hm => h 44 hm rfl
theorem count_at {a b : List UInt8} (h : noComma a) : (a ++ 44 :: b).count 44 = b.count 44 + 1 := by
  rw [List.count_append, count_no h, List.count_cons_self]; omega
theorem splitK_pcs : ∀ (l : List UInt8), Lib.splitK [44] 0 (l.count 44) l = pcs l
  | l => by
    rcases comma_cases l with h | ⟨a, b, rfl, h⟩
    · rw [count_no h, pcs_last l h]; rfl
    · rw [count_at h, pcs_hit a b h, Lib.splitK, index_at h]
      have : ¬ (((a.length : Int)) == -1) = true := by simp
      rw [if_neg this]
      simp only [Int.toNat_natCast, Nat.add_zero, List.length_singleton]
      rw [show (a ++ 44 :: b).take a.length = a by simp, show (a ++ 44 :: b).drop (a.length + 1) = b by
        rw [List.drop_append]; simp]
      rw [splitK_pcs b]
  termination_by l => l.length

/-- the same as texts -/
def txt (p : List UInt8) : ByteArray := ⟨p.toArray⟩
theorem txt_data (s : ByteArray) : txt s.data.toList = s := by cases s; simp [txt]
theorem data_txt (p : List UInt8) : (txt p).data.toList = p := by simp [txt]
theorem txt_inj {p q : List UInt8} (h : txt p = txt q) : p = q := by rw [← data_txt p, h, data_txt]
def pieces (s : ByteArray) : List ByteArray := (pcs s.data.toList).map txt
theorem texts_of_data {xs : List ByteArray} {ls : List (List UInt8)} (h : xs.map (·.data.toList) = ls) : xs = ls.map txt := by
  rw [← h, List.map_map]
  conv => lhs; rw [← List.map_id xs]
  exact List.map_congr_left fun x _ => (txt_data x).symm
def coB : ByteArray := ⟨#[44]⟩
theorem countB_co (s : ByteArray) : Lib.countB s coB = s.data.toList.count 44 := by
  show Lib.count s.data.toList [44] = _
  exact Lib.count_one 44 _
theorem splitB_pieces (s : ByteArray) : Lib.splitB coB 0 (Lib.countB s coB) s = pieces s := by
  refine texts_of_data ?_
  rw [Lib.splitB_data, countB_co]
  exact splitK_pcs _
end Go.Proofs.YtbkclmpopofebaaDoor
