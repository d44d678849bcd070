/-
  The walk of the document's Pieces: every text that is not too long.
-/
import Derived.Test.YthhggganhegfhaaDoorSplitLib
namespace Go.Proofs.YthhggganhegfhaaDoor
open Go.RowKit

/-- the pieces that lie before place a, where a piece begins at a -/
theorem pieces_at {l : List UInt8} {out : List ByteArray} {from_ i : Nat} (h : out ++ (pcs (l.drop from_)).map txt = (pcs l).map txt) (hf : from_ ≤ i) (hi : i < l.length) (hn : ∀ j, from_ ≤ j → j < i → l.getD j 0 ≠ 47) (hs : l.getD i 0 = 47) :
    (out ++ [txt ((l.drop from_).take (i - from_))]) ++ (pcs (l.drop (i + 1))).map txt = (pcs l).map txt := by
  have e : l.drop from_ = (l.drop from_).take (i - from_) ++ 47 :: l.drop (i + 1) := by
    have h1 := (List.take_append_drop (i - from_) (l.drop from_)).symm
    rw [List.drop_drop, show from_ + (i - from_) = i by omega, List.drop_eq_getElem_cons hi] at h1
    have : l[i] = 47 := by simpa [List.getD, List.getElem?_eq_getElem hi] using hs
    rw [this] at h1
    exact h1
  have hno : noStroke ((l.drop from_).take (i - from_)) := by
    intro x hx
    obtain ⟨k, hk, rfl⟩ := List.getElem_of_mem hx
    simp at hk
    have := hn (from_ + k) (by omega) (by omega)
    simpa [List.getD, List.getElem?_eq_getElem (show from_ + k < l.length by omega)] using this
  rw [← h]
  conv => rhs; rw [e, pcs_hit _ _ hno]
  simp
theorem pieces_end {l : List UInt8} {out : List ByteArray} {from_ : Nat} (h : out ++ (pcs (l.drop from_)).map txt = (pcs l).map txt) (hn : ∀ j, from_ ≤ j → j < l.length → l.getD j 0 ≠ 47) :
    out ++ [txt (l.drop from_)] = (pcs l).map txt := by
  have hno : noStroke (l.drop from_) := by
    intro x hx
    obtain ⟨k, hk, rfl⟩ := List.getElem_of_mem hx
    simp at hk
    have := hn (from_ + k) (by omega) (by omega)
    simpa [List.getD, List.getElem?_eq_getElem (show from_ + k < l.length by omega)] using this
  rw [← h, pcs_last _ hno]
  rfl
theorem txt_extract (s : ByteArray) (a b : Nat) : s.extract a b = txt ((s.data.toList.drop a).take (b - a)) := by
  rw [← txt_data (s.extract a b), Lib.extract_data]

theorem getD_byte (s : ByteArray) (i : Nat) (h : i < s.size) : s.data.toList.getD i 0 = s[i] := by
  have h' : i < s.data.toList.length := by rw [Array.length_toList]; exact h
  simp [List.getD, List.getElem?_eq_getElem h']
  rfl

/-- what the loop of Pieces keeps -/
def PI (s : ByteArray) (out : List ByteArray) (fr i : Nat) : Prop :=
  (i ≤ s.size ∧ fr ≤ i ∧ out.length ≤ i ∧ out ++ (pcs (s.data.toList.drop fr)).map txt = pieces s ∧ ∀ j, fr ≤ j → j < i → s.data.toList.getD j 0 ≠ 47) ∨
  (i = s.size + 1 ∧ fr = s.size + 1 ∧ out.length ≤ i ∧ out = pieces s)
theorem PI.start (s : ByteArray) : PI s [] 0 0 := Or.inl ⟨Nat.zero_le _, Nat.le_refl _, Nat.le_refl _, by simp [pieces], fun j _ h => absurd h (Nat.not_lt_zero _)⟩
theorem PI.skip {s : ByteArray} {out : List ByteArray} {fr i : Nat} (h : PI s out fr i) (hi : i < s.size) (hb : s.data.toList.getD i 0 ≠ 47) : PI s out fr (i + 1) := by
  rcases h with ⟨h1, h2, h3, h4, h5⟩ | ⟨h1, _⟩
  · refine Or.inl ⟨hi, by omega, by omega, h4, fun j hj hk => ?_⟩
    by_cases e : j = i
    · subst e; exact hb
    · exact h5 j hj (by omega)
  · omega
theorem PI.hit {s : ByteArray} {out : List ByteArray} {fr i : Nat} (h : PI s out fr i) (hi : i < s.size) (hb : s.data.toList.getD i 0 = 47) : PI s (out ++ [s.extract fr i]) (i + 1) (i + 1) := by
  have hl : s.data.toList.length = s.size := Array.length_toList
  rcases h with ⟨h1, h2, h3, h4, h5⟩ | ⟨h1, _⟩
  · refine Or.inl ⟨hi, Nat.le_refl _, by simp; omega, ?_, fun j hj hk => by omega⟩
    have := pieces_at h4 h2 (by omega) h5 hb
    rw [txt_extract]
    exact this
  · omega
theorem PI.last {s : ByteArray} {out : List ByteArray} {fr i : Nat} (h : PI s out fr i) (hi : i = s.size) : PI s (out ++ [s.extract fr i]) (i + 1) (i + 1) := by
  have hl : s.data.toList.length = s.size := Array.length_toList
  rcases h with ⟨h1, h2, h3, h4, h5⟩ | ⟨h1, _⟩
  · refine Or.inr ⟨by omega, by omega, by simp; omega, ?_⟩
    have := pieces_end h4 (fun j hj hk => h5 j hj (by omega))
    rw [txt_extract, List.take_of_length_le (by simp; omega)]
    exact this
  · omega
theorem PI.done {s : ByteArray} {out : List ByteArray} {fr i : Nat} (h : PI s out fr i) (hi : s.size < i) : out = pieces s := by
  rcases h with ⟨h1, _⟩ | ⟨_, _, _, h⟩
  · omega
  · exact h
theorem PI.le {s : ByteArray} {out : List ByteArray} {fr i : Nat} (h : PI s out fr i) : fr ≤ i ∧ i ≤ s.size + 1 ∧ out.length ≤ i := by
  rcases h with ⟨h1, h2, h3, _⟩ | ⟨h1, h2, h3, _⟩ <;> exact ⟨by omega, by omega, h3⟩

set_option maxHeartbeats 2000000 in
theorem refPieces_calls (s : ByteArray) (w : World) (hs : s.size < 4294967281) :
    Calls Tryd.prog 32 #[.string s] w (Fresh w (pieces s)) := by
  go_enter Tryd.func32, Tryd.ntmps32
  go_wp2
  go_loopg [3, 4, 5] (s.size + 1) (fun g s3 s4 s5 wr => ∃ (out : List ByteArray) (fr i G cap n : Nat), n = out.length ∧ s3 = .slice (some ⟨G, 0, none⟩) n cap ∧ s4 = .int .i64 fr ∧ s5 = .int .i64 i ∧ i ≤ s.size + 1 ∧ fr ≤ i ∧ n ≤ i ∧ s.size + 1 - i ≤ g ∧
    Hid (PI s out fr i) ∧ Hid (Own wr w.heap.size 9 strE (.slice (some ⟨G, 0, none⟩) n cap) out) ∧ Hid (Below w.heap.size w wr))
  case atStart => exact ⟨[], 0, 0, w.heap.size, 0, 0, rfl, rfl, rfl, rfl, Nat.zero_le _, Nat.le_refl _, Nat.le_refl _, Nat.le_refl _, Lib.hid (PI.start s), Lib.hid (own_empty _ _ _ _ (Nat.le_refl _)), Lib.hid ((Below.refl _ _).alloc (Nat.le_refl _) _)⟩
  case round =>
    obtain ⟨out, fr, i, G, cap, n, hn, rfl, rfl, rfl, hi, hfr, hni, hg, P, O, B⟩ := hrel
    have HN := Lib.hid hn
    clear hn
    have hwr : w.heap.size ≤ wr.heap.size := B.out.size
    by_cases hlt : i < s.size
    · by_cases hb : s[i]'hlt = 47
      · have hfi : (fr : Int) ≤ (i : Int) := by omega
        have hBB := Lib.hid hb
        have hb' : ((s[i]'hlt).toNat : Int) = 47 := by rw [hb]; rfl
        clear hb
        have hne : ¬ (i : Int) = (s.size : Int) := by omega
        go_wp2_with (at_builtin; refine wpList_push wr rfl (.tmp 23) (.tmp 28) 22 rfl w.heap.size 9 (.string ⟨#[]⟩) 16 strE Tryd.underlying22 Tryd.info9 rfl _ out (s.extract fr i) n rfl O.out HN.out.symm _ rfl rfl rfl (by omega) (by unfold maxLen; omega) hwr ?_; intro g2 cap2 w2 hown2 hb2)
        go_roundg (s.size + 1 - (i + 1))
        case measure => omega
        case rel =>
          exact ⟨out ++ [s.extract fr i], i + 1, i + 1, g2, cap2, n + 1, by simp [HN.out], rfl, by go_num, by go_num, by omega, Nat.le_refl _, by omega, Nat.le_refl _, Lib.hid (P.out.hit hlt (by rw [getD_byte s i hlt]; exact hBB.out)), Lib.hid hown2, Lib.hid (B.out.trans hb2)⟩
      · have hb' : (((s[i]'hlt).toNat : Int) == 47) = false := beq_eq_false_iff_ne.2 fun e => hb (by
          have : (s[i]'hlt).toNat = 47 := by omega
          exact UInt8.toNat_inj.1 this)
        have hBB := Lib.hid hb
        clear hb
        have hne : ¬ (i : Int) = (s.size : Int) := by omega
        go_wp2
        go_roundg (s.size + 1 - (i + 1))
        case measure => omega
        case rel =>
          exact ⟨out, fr, i + 1, G, cap, n, HN.out, rfl, rfl, by go_num, by omega, by omega, by omega, Nat.le_refl _, Lib.hid (P.out.skip hlt (by rw [getD_byte s i hlt]; exact hBB.out)), O, B⟩
    · by_cases he : i = s.size
      · have hE := Lib.hid he
        have he' : ((i : Int) == (s.size : Int)) = true := beq_iff_eq.2 (by omega)
        have hfi : (fr : Int) ≤ (i : Int) := by omega
        have hle : (i : Int) ≤ (s.size : Int) := by omega
        clear he
        go_wp2_with (at_builtin; refine wpList_push wr rfl (.tmp 23) (.tmp 28) 22 rfl w.heap.size 9 (.string ⟨#[]⟩) 16 strE Tryd.underlying22 Tryd.info9 rfl _ out (s.extract fr i) n rfl O.out HN.out.symm _ rfl rfl rfl (by omega) (by unfold maxLen; omega) hwr ?_; intro g2 cap2 w2 hown2 hb2)
        go_roundg (s.size + 1 - (i + 1))
        case measure => omega
        case rel =>
          exact ⟨out ++ [s.extract fr i], i + 1, i + 1, g2, cap2, n + 1, by simp [HN.out], rfl, by go_num, by go_num, by omega, Nat.le_refl _, by omega, Nat.le_refl _, Lib.hid (P.out.last hE.out), Lib.hid hown2, Lib.hid (B.out.trans hb2)⟩
      · have hgt : ¬ (i : Int) ≤ (s.size : Int) := by omega
        go_wp2
        go_ret
        have hd := P.out.done (by omega)
        have hn := HN.out
        rw [hd] at hn
        refine ⟨G, cap, by rw [hn]; rfl, ?_, B.out⟩
        have := O.out
        rw [hn, hd] at this
        exact this
end Go.Proofs.YthhggganhegfhaaDoor
