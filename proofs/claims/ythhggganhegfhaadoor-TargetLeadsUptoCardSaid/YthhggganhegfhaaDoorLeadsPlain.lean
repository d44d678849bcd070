/-
  Where the text leads that Relative answers, said of the plain functions.
-/
import Derived.Test.YthhggganhegfhaaDoorClimbsPlain
import Derived.Test.YthhggganhegfhaaDoorRelativeD
import Derived.Test.YthhggganhegfhaaDoorGoods
namespace Go.Proofs.YthhggganhegfhaaDoor

theorem joinL_cons2 (x y : ByteArray) (r : List ByteArray) : joinL (x :: y :: r) = x.data.toList ++ 47 :: joinL (y :: r) := by
  unfold joinL
  rw [List.map_cons, Lib.join_cons, List.map_cons, Lib.join_cons]
  simp [Lib.joinTail]
theorem joinL_pcs : ∀ xs : List ByteArray, xs ≠ [] → (∀ x ∈ xs, noStroke x.data.toList) → pcs (joinL xs) = xs.map (·.data.toList)
  | [], h, _ => absurd rfl h
  | [x], _, h => by rw [joinL_one, pcs_last _ (h x (by simp))]; rfl
  | x :: y :: r, _, h => by
    rw [joinL_cons2, pcs_hit _ _ (h x (by simp)), joinL_pcs (y :: r) (by simp) (fun z hz => h z (by simp [hz]))]
    rfl
theorem pieces_join {xs : List ByteArray} (h0 : xs ≠ []) (h : ∀ x ∈ xs, noStroke x.data.toList) : pieces (joinB xs) = xs := by
  unfold pieces joinB
  rw [data_txt, joinL_pcs xs h0 h, List.map_map]
  conv => rhs; rw [← List.map_id xs]
  exact List.map_congr_left fun x _ => txt_data x
theorem joinL_mem : ∀ (xs : List ByteArray) (c : UInt8), c ∈ joinL xs → c = 47 ∨ ∃ x ∈ xs, c ∈ x.data.toList
  | [], c, h => by simp [joinL, Lib.join_nil] at h
  | [x], c, h => by rw [joinL_one] at h; exact Or.inr ⟨x, by simp, h⟩
  | x :: y :: r, c, h => by
    rw [joinL_cons2, List.mem_append, List.mem_cons] at h
    rcases h with h | h | h
    · exact Or.inr ⟨x, by simp, h⟩
    · exact Or.inl h
    · rcases joinL_mem (y :: r) c h with h | ⟨z, hz, hc⟩
      · exact Or.inl h
      · exact Or.inr ⟨z, by simp [hz], hc⟩
theorem good_say {p : ByteArray} (h : goodB p = true) : p.data.toList ≠ [] ∧ p.data.toList ≠ [46] ∧ p.data.toList ≠ [46, 46] ∧ noStroke p.data.toList ∧ (∀ x ∈ p.data.toList, x ≠ 0) := by
  unfold goodB at h
  simp only [Bool.and_eq_true, Bool.not_eq_true', Bool.or_eq_false_iff] at h
  obtain ⟨⟨⟨⟨h1, h2⟩, h3⟩, _⟩, h4⟩ := h
  have h5 : ∀ x ∈ p.data.toList, sepB x = false := fun x hx => by
    have := List.any_eq_false.1 h4 x hx
    simpa using this
  refine ⟨fun e => by rw [e] at h1; simp at h1, fun e => by rw [e] at h2; simp at h2, fun e => by rw [e] at h3; simp at h3, fun x hx e => ?_, fun x hx e => ?_⟩
  · have := h5 x hx; rw [e] at this; exact absurd this (by decide)
  · have := h5 x hx; rw [e] at this; exact absurd this (by decide)
theorem climb_good {p : ByteArray} (h : goodB p = true) (a ps : List ByteArray) : climb a (p :: ps) = climb (a ++ [p]) ps := by
  obtain ⟨h1, h2, h3, _, _⟩ := good_say h
  have k : keepB p = true := by
    rw [keepB_data]
    have e1 : p.data.toList.isEmpty = false := by cases e : p.data.toList with
      | nil => exact absurd e h1
      | cons c l => rfl
    have e2 : (p.data.toList == [46]) = false := beq_eq_false_iff_ne.2 h2
    rw [e1, e2]; rfl
  have u : isUp p = false := by rw [isUp_data]; simpa using h3
  rw [climb, k, u]; simp
theorem climb_goods : ∀ (ps a : List ByteArray), (∀ p ∈ ps, goodB p = true) → climb a ps = some (a ++ ps)
  | [], a, _ => by rw [List.append_nil]; rfl
  | p :: ps, a, h => by
    rw [climb_good (h p (by simp)), climb_goods ps (a ++ [p]) (fun q hq => h q (by simp [hq]))]
    simp
theorem climb_back : ∀ (n : Nat) (a b ps : List ByteArray), b.length = n → climb (a ++ b) (List.replicate n dotsB ++ ps) = climb a ps
  | 0, a, b, ps, h => by
    have : b = [] := List.eq_nil_of_length_eq_zero h
    subst this; simp
  | n + 1, a, b, ps, h => by
    have hb : b ≠ [] := fun e => by rw [e] at h; simp at h
    have e1 : dotsB = txt [46, 46] := rfl
    rw [List.replicate_succ, List.cons_append, e1, climb_up, if_neg (by simp [hb]), List.dropLast_append_of_ne_nil hb, ← e1, climb_back n a b.dropLast ps (by rw [List.length_dropLast, h]; rfl)]
theorem dropC_say : ∀ f t : List ByteArray, ∃ c, f = c ++ (dropC f t).1 ∧ t = c ++ (dropC f t).2
  | [], t => ⟨[], by rw [dropC_nil]; exact ⟨rfl, rfl⟩⟩
  | a :: f, [] => ⟨[], by rw [dropC_nil2]; exact ⟨rfl, rfl⟩⟩
  | a :: f, b :: t => by
    by_cases h : a = b
    · subst h
      obtain ⟨c, h1, h2⟩ := dropC_say f t
      refine ⟨a :: c, ?_, ?_⟩
      · rw [dropC_eq, List.cons_append, ← h1]
      · rw [dropC_eq, List.cons_append, ← h2]
    · exact ⟨[], by rw [dropC_ne h]; exact ⟨rfl, rfl⟩⟩
theorem relL_parts {f t : List ByteArray} (ht : ∀ p ∈ t, goodB p = true) : ∀ p ∈ relL f t, p.data.toList ≠ [] ∧ noStroke p.data.toList ∧ (∀ x ∈ p.data.toList, x ≠ 0) := fun p hp => by
  unfold relL at hp
  rcases List.mem_append.1 hp with hp | hp
  · obtain ⟨_, rfl⟩ := List.mem_replicate.1 hp
    refine ⟨by decide, ?_, ?_⟩
    · intro x hx
      have : x ∈ [46, 46] := hx
      simp at this
      subst this; decide
    · intro x hx
      have : x ∈ [46, 46] := hx
      simp at this
      subst this; decide
  · obtain ⟨c, _, h2⟩ := dropC_say f t
    have hm : p ∈ t := by rw [h2]; simp [hp]
    obtain ⟨h1, _, _, h4, h5⟩ := good_say (ht p hm)
    exact ⟨h1, h4, h5⟩
theorem climb_rel {f t : List ByteArray} (ht : ∀ p ∈ t, goodB p = true) : climb f (relL f t) = some t := by
  obtain ⟨c, h1, h2⟩ := dropC_say f t
  unfold relL
  conv => lhs; arg 1; rw [h1]
  rw [climb_back _ _ _ _ rfl, climb_goods _ _ (fun p hp => ht p (by rw [h2]; simp [hp])), ← h2]
/-- where the text leads -/
theorem sym_rel {f t : List ByteArray} (ht : ∀ p ∈ t, goodB p = true) : symP f (relB f t) 1 ((relB f t).size : Int) = (t, 0) := by
  rw [symP_norm]
  by_cases hr : relL f t = []
  · have hB : relB f t = txt [46] := by unfold relB; rw [if_pos hr]; rfl
    have hc := climb_rel (f := f) ht
    rw [hr] at hc
    rw [hB, if_neg (by decide), if_neg (by omega), if_neg (by decide), if_neg (by rw [data_txt]; decide)]
    have hp : pieces (txt [46]) = [txt [46]] := by unfold pieces; rw [data_txt]; rfl
    rw [hp, climb_dot, hc]
  · have hB : relB f t = joinB (relL f t) := by unfold relB; rw [if_neg hr]
    have hP := relL_parts (f := f) ht
    have hc := climb_rel (f := f) ht
    rw [hB]
    generalize relL f t = L at *
    clear hB
    have hpj := pieces_join hr (fun x hx => (hP x hx).2.1)
    obtain ⟨y, r, rfl⟩ : ∃ y r, L = y :: r := by
      cases L with
      | nil => exact absurd rfl hr
      | cons y r => exact ⟨y, r, rfl⟩
    have hy := hP y (by simp)
    have hjd : (joinB (y :: r)).data.toList = joinL (y :: r) := by unfold joinB; rw [data_txt]
    have hfirst : ∃ c l, joinL (y :: r) = c :: l ∧ c ∈ y.data.toList := by
      cases e : y.data.toList with
      | nil => exact absurd e hy.1
      | cons c l =>
        cases r with
        | nil => exact ⟨c, l, by rw [joinL_one, e], by simp⟩
        | cons z r => exact ⟨c, l ++ 47 :: joinL (z :: r), by rw [joinL_cons2, e]; rfl, by simp⟩
    obtain ⟨c, l, hj, hcm⟩ := hfirst
    have hnj : hasNul (joinB (y :: r)) = false := by
      unfold hasNul
      rw [hjd, noNul_index _ (fun c hc => by
        rcases joinL_mem _ c hc with rfl | ⟨x, hx, hcx⟩
        · decide
        · exact (hP x hx).2.2 c hcx)]
      rfl
    have hsz : (joinB (y :: r)).size = (joinL (y :: r)).length := by show (joinL (y :: r)).toArray.size = _; simp
    rw [if_neg (by rw [hsz, hj]; simp), if_neg (by omega), if_neg (by rw [hnj]; simp), if_neg (by rw [hjd, hj]; exact hy.2.1 c hcm), hpj, hc]
theorem relB_size (f t : List ByteArray) : (relB f t).size ≤ 3 * f.length + tbulk t + 1 := by
  unfold relB
  split
  · show 1 ≤ _; omega
  · have := relL_tb f t
    have h2 := joinL_len (relL f t)
    have hsz : (joinB (relL f t)).size = (joinL (relL f t)).length := by show (joinL (relL f t)).toArray.size = _; simp
    omega
end Go.Proofs.YthhggganhegfhaaDoor
