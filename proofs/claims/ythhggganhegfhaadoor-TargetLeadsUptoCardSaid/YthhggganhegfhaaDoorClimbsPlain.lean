/-
  What steps upwards do, said of the plain functions.
-/
import Derived.Test.YthhggganhegfhaaDoorTargetAlive
namespace Go.Proofs.YthhggganhegfhaaDoor

theorem txt_size (l : List UInt8) : (txt l).size = l.length := by
  show l.toArray.size = _
  simp
theorem symP_norm (dir : List ByteArray) (text : ByteArray) (mx : Int) : symP dir text 1 mx =
    (if text.size = 0 then ([], 90) else if mx < (text.size : Int) then ([], 93) else if hasNul text = true then ([], 91) else
    if text.data.toList.getD 0 0 = 47 then ([], 92) else match climb dir (pieces text) with
      | some a => (a, 0)
      | none => ([], 101) : List ByteArray × Int) := by
  unfold symP; rw [if_neg (fun h => h (Or.inr rfl))]
  simp only [show ¬ ((1 : Int) = 0) by decide, if_false]
  rfl
/-- a dot and k steps upwards -/
def ups : Nat → List UInt8
  | 0 => [46]
  | k + 1 => ups k ++ [47, 46, 46]
def upB (k : Nat) : ByteArray := txt (ups k)
theorem ups_len (k : Nat) : (ups k).length = 1 + 3 * k := by
  induction k with
  | zero => rfl
  | succ k ih => simp [ups, ih]; omega
theorem upB_size (k : Nat) : (upB k).size = 1 + 3 * k := by
  unfold upB; rw [txt_size, ups_len]
theorem ups_pcs : ∀ k, pcs (ups k) = [46] :: List.replicate k [46, 46]
  | 0 => by decide
  | k + 1 => by
    have e : ups (k + 1) = ups k ++ 47 :: [46, 46] := rfl
    rw [e, pcs_append, ups_pcs k, show pcs [46, 46] = [[46, 46]] by decide, List.replicate_succ']
    rfl
theorem keep_dot : keepB (txt [46]) = false := by rw [keepB_data, data_txt]; rfl
theorem keep_up : keepB (txt [46, 46]) = true := by rw [keepB_data, data_txt]; rfl
theorem up_up : isUp (txt [46, 46]) = true := by rw [isUp_data, data_txt]; rfl
theorem climb_up (a : List ByteArray) (ps : List ByteArray) : climb a (txt [46, 46] :: ps) = if a = [] then none else climb a.dropLast ps := by
  rw [climb, keep_up, up_up]; simp
theorem climb_ups : ∀ (k : Nat) (a : List ByteArray) (ps : List ByteArray), a.length = k → climb a (List.replicate k (txt [46, 46]) ++ ps) = climb [] ps
  | 0, a, ps, h => by
    have : a = [] := List.eq_nil_of_length_eq_zero h
    subst this; rfl
  | k + 1, a, ps, h => by
    have ha : a ≠ [] := fun e => by rw [e] at h; simp at h
    rw [List.replicate_succ, List.cons_append, climb_up, if_neg ha, climb_ups k _ ps (by rw [List.length_dropLast, h]; rfl)]
theorem climb_dot (a ps : List ByteArray) : climb a (txt [46] :: ps) = climb a ps := by rw [climb, keep_dot]; simp
theorem climb_all (a ps : List ByteArray) : climb a ((([46] :: List.replicate a.length [46, 46]).map txt) ++ ps) = climb [] ps := by
  rw [List.map_cons, List.cons_append, climb_dot, List.map_replicate]
  exact climb_ups _ _ _ rfl

theorem noNul_ups (k : Nat) : ∀ x ∈ ups k, x ≠ 0 := by
  induction k with
  | zero => intro x hx; simp [ups] at hx; subst hx; decide
  | succ k ih =>
    intro x hx
    rw [ups, List.mem_append] at hx
    rcases hx with hx | hx
    · exact ih x hx
    · simp at hx; rcases hx with rfl | rfl <;> decide
theorem ups_first : ∀ (k : Nat) (l : List UInt8), (ups k ++ l).getD 0 0 = 46
  | 0, l => rfl
  | k + 1, l => by rw [ups, List.append_assoc]; exact ups_first k _

theorem indexByte_app {l m : List UInt8} (h : ∀ x ∈ l, x ≠ 0) : (0 ≤ Lib.indexByte (l ++ m) 0) ↔ (0 ≤ Lib.indexByte m 0) := by
  induction l with
  | nil => rfl
  | cons c l ih =>
    have h1 : c ≠ 0 := h c (by simp)
    have ih' := ih fun x hx => h x (by simp [hx])
    rw [List.cons_append, Lib.indexByte, if_neg (by simpa using h1)]
    by_cases e : Lib.indexByte (l ++ m) 0 = -1
    · rw [if_pos (by simpa using e)]
      rw [← ih', e]
    · rw [if_neg (by simpa using e), ← ih']
      have := Lib.indexByte_ge (l ++ m) 0
      omega

/-- what Sym answers on a text that is the steps upwards and more -/
theorem sym_ups (dir : List ByteArray) (rest : List UInt8) (mx : Int) (hm : ((txt (ups dir.length ++ rest)).size : Int) ≤ mx) (hn : ∀ x ∈ rest, x ≠ 0) :
    symP dir (txt (ups dir.length ++ rest)) 1 mx = match climb dir ((pcs (ups dir.length ++ rest)).map txt) with
      | some a => (a, 0)
      | none => ([], 101) := by
  have h0 : (txt (ups dir.length ++ rest)).size = (ups dir.length ++ rest).length := txt_size _
  have h1 : ¬ (txt (ups dir.length ++ rest)).size = 0 := by rw [h0, List.length_append, ups_len]; omega
  have h3 : ¬ hasNul (txt (ups dir.length ++ rest)) = true := by
    unfold hasNul
    rw [data_txt]
    intro e
    have e := of_decide_eq_true e
    rw [indexByte_app (noNul_ups _), noNul_index rest hn] at e
    omega
  rw [symP_norm, if_neg h1, if_neg (by omega), if_neg h3, data_txt, if_neg (by rw [ups_first]; decide)]
  unfold pieces
  rw [data_txt]
theorem sym_ups_ok (dir : List ByteArray) (mx : Int) (hm : ((upB dir.length).size : Int) ≤ mx) : symP dir (upB dir.length) 1 mx = ([], 0) := by
  have := sym_ups dir [] mx (by simpa [upB] using hm) (by simp)
  rw [List.append_nil] at this
  unfold upB
  rw [this, ups_pcs]
  have e := climb_all dir []
  rw [List.append_nil] at e
  rw [e]; rfl
theorem sym_ups_out (dir : List ByteArray) (mx : Int) (hm : ((upB (dir.length + 1)).size : Int) ≤ mx) : symP dir (upB (dir.length + 1)) 1 mx = ([], 101) := by
  have := sym_ups dir [47, 46, 46] mx (by exact hm) (by decide)
  have e1 : upB (dir.length + 1) = txt (ups dir.length ++ [47, 46, 46]) := rfl
  rw [e1, this]
  have e : pcs (ups dir.length ++ [47, 46, 46]) = ([46] :: List.replicate dir.length [46, 46]) ++ [[46, 46]] := by
    rw [show ups dir.length ++ [47, 46, 46] = ups dir.length ++ 47 :: [46, 46] from rfl, pcs_append, ups_pcs, show pcs [46, 46] = [[46, 46]] by decide]
  rw [e, List.map_append, climb_all dir]
  rw [show List.map txt [[46, 46]] = txt [46, 46] :: [] from rfl, climb_up, if_pos rfl]
/-- with a stroke and a text behind: as the text from nowhere -/
theorem sym_ups_text (dir : List ByteArray) (text : ByteArray) (mx : Int) (ht : text.size ≠ 0) (hf : (symP [] text 1 mx).2 ≠ 92) (hm : ((txt (ups dir.length ++ 47 :: text.data.toList)).size : Int) ≤ mx) (hm2 : (text.size : Int) ≤ mx) :
    symP dir (txt (ups dir.length ++ 47 :: text.data.toList)) 1 mx = symP [] text 1 mx := by
  have h0 : (txt (ups dir.length ++ 47 :: text.data.toList)).size = (ups dir.length ++ 47 :: text.data.toList).length := txt_size _
  have h1 : ¬ (txt (ups dir.length ++ 47 :: text.data.toList)).size = 0 := by rw [h0, List.length_append, ups_len]; omega
  have hN : hasNul (txt (ups dir.length ++ 47 :: text.data.toList)) = hasNul text := by
    unfold hasNul
    rw [data_txt, show ups dir.length ++ 47 :: text.data.toList = (ups dir.length ++ [47]) ++ text.data.toList by simp]
    exact decide_eq_decide.2 (indexByte_app (fun x hx => by
      rw [List.mem_append] at hx
      rcases hx with hx | hx
      · exact noNul_ups _ x hx
      · simp at hx; subst hx; decide))
  rw [symP_norm] at hf
  rw [if_neg ht, if_neg (show ¬ mx < (text.size : Int) by omega)] at hf
  rw [symP_norm, symP_norm, if_neg h1, if_neg ht, if_neg (show ¬ mx < ((txt (ups dir.length ++ 47 :: text.data.toList)).size : Int) by omega), if_neg (show ¬ mx < (text.size : Int) by omega), hN, data_txt]
  by_cases hq : hasNul text = true
  · rw [if_pos hq, if_pos hq]
  rw [if_neg hq] at hf ⊢
  rw [if_neg hq]
  by_cases h47 : text.data.toList.getD 0 0 = 47
  · rw [if_pos h47] at hf; exact absurd rfl hf
  rw [if_neg (show ¬ (ups dir.length ++ 47 :: text.data.toList).getD 0 0 = 47 by rw [ups_first]; decide), if_neg h47]
  unfold pieces
  rw [data_txt, pcs_append, ups_pcs, List.map_append, climb_all]
theorem bytes_ext {a b : ByteArray} (h : a.data.toList = b.data.toList) : a = b := by
  rw [← txt_data a, h, txt_data]
theorem upB_next (k : Nat) : upB k ++ ⟨#[47, 46, 46]⟩ = upB (k + 1) := bytes_ext (by
  unfold upB
  rw [ByteArray.data_append, Array.toList_append, data_txt, data_txt]
  rfl)
theorem upB_text (k : Nat) (t : ByteArray) : (upB k ++ ⟨#[47]⟩) ++ t = txt (ups k ++ 47 :: t.data.toList) := bytes_ext (by
  unfold upB
  rw [ByteArray.data_append, Array.toList_append, ByteArray.data_append, Array.toList_append, data_txt, data_txt]
  simp)
end Go.Proofs.YthhggganhegfhaaDoor
