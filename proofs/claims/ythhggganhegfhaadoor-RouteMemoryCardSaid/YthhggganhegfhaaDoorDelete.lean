/-
  The walks of slices.IndexFunc, slices.DeleteFunc with Split's own question, and slices.Contains, over lists of texts.
-/
import Derived.Test.YthhggganhegfhaaDoorSplitLib
import Derived.Test.YthhggganhegfhaaDoorBlk
import Derived.Lib.SliceRun
namespace Go.Proofs.YthhggganhegfhaaDoor
open Go.RowKit

/-- is it a part that stays? -/
def keepB (p : ByteArray) : Bool := !(p.toList.isEmpty || (p.toList == [46]))
theorem keepCall_calls (p : ByteArray) (w : World) : Calls Tryd.prog 34 #[.string p] w fun e w' => e = .returned (.bool (!keepB p)) ∧ w' = w := by
  unfold keepB
  go_enter Tryd.func34, Tryd.ntmps34
  cases h1 : p.toList.isEmpty <;> cases h2 : (p.toList == [46])
  all_goals go_wp2
  all_goals go_ret
  all_goals exact ⟨rfl, rfl⟩

/-- the place of the first that goes -/
def IdxAt (xs : List ByteArray) (r : Int) : Prop :=
  (r = -1 ∧ ∀ j, j < xs.length → keepB (xs.getD j ByteArray.empty) = true) ∨ ∃ k : Nat, r = (k : Int) ∧ k < xs.length ∧ keepB (xs.getD k ByteArray.empty) = false ∧ ∀ j, j < k → keepB (xs.getD j ByteArray.empty) = true
set_option maxHeartbeats 2000000 in
theorem indexFunc_calls (b o c n : Nat) (xs : List ByteArray) (hn : n = xs.length) (hm : n ≤ 9223372036854775807) (w : World) (hc : ∀ i, i < n → w.cell? ⟨b, o + i, none⟩ = some (strE (xs.getD i ByteArray.empty))) :
    Calls Tryd.prog 41 #[.slice (some ⟨b, o, none⟩) n c, .func (.func 34) #[] #[]] w fun e w' => ∃ r, e = .returned (.int .i64 r) ∧ IdxAt xs r ∧ w' = w := by
  have HC := Lib.hid hc
  have HN := Lib.hid hn
  clear hc hn
  go_enter Tryd.func41, Tryd.ntmps41
  go_wp2
  go_loopg [8] n (fun g s wr => ∃ k : Nat, k ≤ n ∧ n - k ≤ g ∧ s = .int .i64 k ∧ wr = w ∧ Hid (∀ j, j < k → keepB (xs.getD j ByteArray.empty) = true))
  case atStart => exact ⟨0, Nat.zero_le _, by omega, rfl, rfl, Lib.hid fun j hj => absurd hj (Nat.not_lt_zero _)⟩
  case round =>
    obtain ⟨k, hk, hg, rfl, rfl, HK⟩ := hrel
    by_cases hlt : k < n
    · have g1 := HC.out k hlt
      generalize hx : xs.getD k ByteArray.empty = x at g1
      have HX := Lib.hid hx
      clear hx
      have hkc := keepCall_calls x wr
      cases hq : keepB x with
      | false =>
        have HQ := Lib.hid hq
        rw [hq] at hkc
        clear hq
        go_wp2_with fail
        refine hkc.mono ?_
        rintro e w' ⟨rfl, rfl⟩
        go_wp2
        go_ret
        exact ⟨_, rfl, Or.inr ⟨k, rfl, by rw [← HN.out]; exact hlt, by rw [HX.out]; exact HQ.out, HK.out⟩, rfl⟩
      | true =>
        have HQ := Lib.hid hq
        rw [hq] at hkc
        clear hq
        go_wp2_with fail
        refine hkc.mono ?_
        rintro e w' ⟨rfl, rfl⟩
        go_wp2
        go_roundg (n - (k + 1))
        case measure => omega
        case rel =>
          refine ⟨k + 1, by omega, by omega, by go_num, rfl, Lib.hid fun j hj => ?_⟩
          by_cases e : j = k
          · subst e; rw [HX.out]; exact HQ.out
          · exact HK.out j (by omega)
    · have : k = n := by omega
      subst this
      go_wp2
      go_ret
      exact ⟨_, rfl, Or.inl ⟨rfl, fun j hj => HK.out j (by rw [HN.out]; exact hj)⟩, rfl⟩

/-- those that stay of the first j -/
def keptTo (xs : List ByteArray) (j : Nat) : List ByteArray := (xs.take j).filter keepB
theorem keptTo_skip {xs : List ByteArray} {j : Nat} (hj : j < xs.length) (h : keepB (xs.getD j ByteArray.empty) = false) : keptTo xs (j + 1) = keptTo xs j := by
  have e : xs[j] = xs.getD j ByteArray.empty := by simp [List.getD, List.getElem?_eq_getElem hj]
  unfold keptTo
  rw [List.take_succ_eq_append_getElem hj, List.filter_append, e]
  clear e
  generalize xs.getD j ByteArray.empty = x at h ⊢
  simp [h]
theorem keptTo_keep {xs : List ByteArray} {j : Nat} (hj : j < xs.length) (h : keepB (xs.getD j ByteArray.empty) = true) : keptTo xs (j + 1) = keptTo xs j ++ [xs.getD j ByteArray.empty] := by
  have e : xs[j] = xs.getD j ByteArray.empty := by simp [List.getD, List.getElem?_eq_getElem hj]
  unfold keptTo
  rw [List.take_succ_eq_append_getElem hj, List.filter_append, e]
  clear e
  generalize xs.getD j ByteArray.empty = x at h ⊢
  simp [h]
theorem keptTo_all {xs : List ByteArray} : ∀ {j : Nat}, (∀ i, i < j → keepB (xs.getD i ByteArray.empty) = true) → j ≤ xs.length → keptTo xs j = xs.take j
  | 0, _, _ => rfl
  | j + 1, h, hj => by
    rw [keptTo_keep (by omega) (h j (by omega)), keptTo_all (fun i hi => h i (by omega)) (by omega), List.take_succ_eq_append_getElem (by omega)]
    simp [List.getD, List.getElem?_eq_getElem (show j < xs.length by omega)]
theorem keptTo_end (xs : List ByteArray) : keptTo xs xs.length = xs.filter keepB := by unfold keptTo; rw [List.take_length]

structure DI (xs : List ByteArray) (j i : Nat) (cs : Array Value) : Prop where
  lt : i < j
  le : j ≤ xs.length
  len : i = (keptTo xs j).length
  size : cs.size = xs.length
  done : cs.toList.take i = (keptTo xs j).map strE
  high : ∀ k, j ≤ k → k < xs.length → cs[k]? = some (strE (xs.getD k ByteArray.empty))
theorem DI.start {xs : List ByteArray} {k : Nat} (hk : k < xs.length) (h0 : keepB (xs.getD k ByteArray.empty) = false) (h : ∀ j, j < k → keepB (xs.getD j ByteArray.empty) = true) : DI xs (k + 1) k (xs.map strE).toArray := by
  have e : keptTo xs (k + 1) = xs.take k := by rw [keptTo_skip hk h0, keptTo_all h (by omega)]
  refine ⟨by omega, by omega, by rw [e]; simp; omega, by simp, by rw [e]; simp [List.map_take], fun i hi hl => ?_⟩
  simp [List.getD, hl]
theorem DI.skip {xs : List ByteArray} {j i : Nat} {cs : Array Value} (h : DI xs j i cs) (hj : j < xs.length) (hb : keepB (xs.getD j ByteArray.empty) = false) : DI xs (j + 1) i cs := by
  have e := keptTo_skip hj hb
  have := h.lt
  exact ⟨by omega, hj, by rw [e]; exact h.len, h.size, by rw [e]; exact h.done, fun k hk hl => h.high k (by omega) hl⟩
theorem DI.keep {xs : List ByteArray} {j i : Nat} {cs : Array Value} (h : DI xs j i cs) (hj : j < xs.length) (hb : keepB (xs.getD j ByteArray.empty) = true) : DI xs (j + 1) (i + 1) (cs.setIfInBounds i (strE (xs.getD j ByteArray.empty))) := by
  have e := keptTo_keep hj hb
  have h1 := h.lt
  have h2 := h.size
  refine ⟨by omega, hj, by rw [e, List.length_append, ← h.len]; rfl, by rw [Array.size_setIfInBounds]; exact h2, ?_, fun k hk hl => ?_⟩
  · rw [e, List.map_append, ← h.done]
    apply List.ext_getElem?
    intro k
    have hi : i < cs.toList.length := by rw [Array.length_toList]; omega
    rw [Array.toList_setIfInBounds, List.getElem?_take]
    by_cases hk : k < i
    · rw [List.getElem?_append_left (by simp; omega), List.getElem?_take]
      simp [hk, show k < i + 1 by omega, show ¬ i = k by omega]
    · by_cases hk2 : k = i
      · subst hk2
        rw [List.getElem?_append_right (by simp; omega)]
        simp [List.getElem?_set]
        have : min k cs.size = k := by omega
        rw [this]
        simp
        omega
      · rw [List.getElem?_append_right (by simp; omega)]
        simp [show ¬ k < i + 1 by omega]
        have : min i cs.size = i := by omega
        rw [this]
        omega
  · rw [Array.getElem?_setIfInBounds, if_neg (by omega)]
    exact h.high k (by omega) hl

theorem blk_setCells {N : Nat} {T : TypeId} : ∀ (vs : List Value) (o : Nat) {w : World} {cs : Array Value}, Blk w N cs T →
    ∃ cs', Blk (w.setCells N o vs) N cs' T ∧ cs'.size = cs.size ∧ (∀ k, k < o → cs'[k]? = cs[k]?) ∧ Only N w (w.setCells N o vs)
  | [], o, w, cs, h => ⟨cs, h, rfl, fun _ _ => rfl, Only.refl _ _⟩
  | v :: vs, o, w, cs, h => by
    obtain ⟨cs', h1, h2, h3, h4⟩ := blk_setCells vs (o + 1) (h.set o v)
    refine ⟨cs', h1, by rw [h2, Array.size_setIfInBounds], fun k hk => ?_, ((Only.refl N w).set o v).trans h4⟩
    rw [h3 k (by omega), Array.getElem?_setIfInBounds, if_neg (by omega)]

/-- a block of the call's own is a row -/
theorem Own.of_blk {w : World} {B N n : Nat} {T : TypeId} {cs : Array Value} {ys : List ByteArray} (h : Blk w N cs T) (hB : B ≤ N) (hl : ys.length ≤ n) (hs : cs.size = n) (hm : n ≤ maxLen) (hd : cs.toList.take ys.length = ys.map strE) :
    Own w B T strE (.slice (some ⟨N, 0, none⟩) ys.length n) ys := by
  refine ⟨by simp, Or.inr ⟨N, n, cs, rfl, hB, h, hl, hm, by omega, ?_⟩⟩
  simpa using hd

/-- what DeleteFunc leaves: the row cut to those that stay -/
def Left (w : World) (N : Nat) (xs ys : List ByteArray) (w' : World) : Prop :=
  (∃ cs, Blk w' N cs 9 ∧ cs.size = xs.length ∧ cs.toList.take ys.length = ys.map strE) ∧ ys.length ≤ xs.length ∧ Only N w w'

set_option maxHeartbeats 4000000 in
theorem deleteFunc_calls (N n : Nat) (xs : List ByteArray) (hn : n = xs.length) (hm : n ≤ 9223372036854775807) (w : World) (h : Blk w N (xs.map strE).toArray 9) :
    Calls Tryd.prog 33 #[.slice (some ⟨N, 0, none⟩) n n, .func (.func 34) #[] #[]] w fun e w' =>
      ∃ m, m = (xs.filter keepB).length ∧ e = .returned (.slice (some ⟨N, 0, none⟩) m n) ∧ Left w N xs (xs.filter keepB) w' := by
  have HN := Lib.hid hn
  have HB := Lib.hid h
  have hI := indexFunc_calls N 0 n n xs hn hm w (fun i hi => by
    rw [Nat.zero_add, h.cell i]
    simp [List.getD, List.getElem?_eq_getElem (show i < xs.length by omega)])
  have HI := Lib.hid hI
  clear hI h hn
  go_enter Tryd.func33, Tryd.ntmps33
  go_wp2_with fail
  refine HI.out.mono ?_
  rintro e w' ⟨r, rfl, hr, rfl⟩
  rcases hr with ⟨rfl, hall⟩ | ⟨k, rfl, hk, hk0, hk1⟩
  · have HA := Lib.hid hall
    clear hall
    go_wp2
    go_ret
    have e : xs.filter keepB = xs := by rw [← keptTo_end, keptTo_all HA.out (Nat.le_refl _), List.take_length]
    rw [e]
    exact ⟨n, HN.out, rfl, ⟨_, HB.out, by simp, by simp; exact List.take_of_length_le (by simp)⟩, Nat.le_refl _, Only.refl _ _⟩
  · have hkn : k < n := by have := HN.out; omega
    have D0 := Lib.hid (DI.start hk hk0 hk1)
    clear hk hk0 hk1
    have hne : ((k : Int) == -1) = false := beq_eq_false_iff_ne.2 (by omega)
    go_wp2
    go_loopg [5, 6, 7] n (fun g s5 s6 _ wr => ∃ (i j : Nat) (cs : Array Value), s5 = .int .i64 i ∧ s6 = .int .i64 j ∧ i < j ∧ j ≤ n ∧ n - j ≤ g ∧ Hid (DI xs j i cs) ∧ Hid (Blk wr N cs 9) ∧ Hid (Only N w' wr))
    case atStart => exact ⟨k, k + 1, _, rfl, by go_num, by omega, by omega, by omega, D0, HB, Lib.hid (Only.refl _ _)⟩
    case round =>
      obtain ⟨i, j, cs, rfl, rfl, hij, hjn, hg, I, B, O⟩ := hrel
      by_cases hlt : j < n
      · have hjx : j < xs.length := by have := HN.out; omega
        have cj : wr.cell? ⟨N, j, none⟩ = some (strE (xs.getD j ByteArray.empty)) := by rw [B.out.cell, I.out.high j (Nat.le_refl _) hjx]
        have ci : ∃ old, wr.cell? ⟨N, i, none⟩ = some old := by
          rw [B.out.cell]
          have := I.out.size
          exact ⟨_, Array.getElem?_eq_getElem (show i < cs.size by have := HN.out; omega)⟩
        obtain ⟨old, ci⟩ := ci
        have fi : wr.frozen? ⟨N, i, none⟩ = false := B.out.free i
        generalize hx : xs.getD j ByteArray.empty = x at cj
        have HX := Lib.hid hx
        clear hx
        have hkc := keepCall_calls x wr
        cases hq : keepB x with
        | false =>
          have HQ := Lib.hid hq
          rw [hq] at hkc
          clear hq
          go_wp2_with fail
          refine hkc.mono ?_
          rintro e w2 ⟨rfl, rfl⟩
          go_wp2
          go_roundg (n - (j + 1))
          case measure => omega
          case rel => exact ⟨i, j + 1, cs, rfl, by go_num, by omega, by omega, Nat.le_refl _, Lib.hid (I.out.skip hjx (by rw [HX.out]; exact HQ.out)), B, O⟩
        | true =>
          have HQ := Lib.hid hq
          rw [hq] at hkc
          clear hq
          go_wp2_with fail
          refine hkc.mono ?_
          rintro e w2 ⟨rfl, rfl⟩
          go_wp2
          go_roundg (n - (j + 1))
          case measure => omega
          case rel =>
            refine ⟨i + 1, j + 1, cs.setIfInBounds i (strE x), by go_num, by go_num, by omega, by omega, Nat.le_refl _, Lib.hid ?_, Lib.hid (B.out.set i _), Lib.hid (O.out.set i _)⟩
            have := I.out.keep hjx (by rw [HX.out]; exact HQ.out)
            rw [HX.out] at this
            exact this
      · obtain rfl : j = n := by omega
        have hin : (i : Int) ≤ (j : Int) := by omega
        have hsz : cs.size = j := by rw [I.out.size]; exact HN.out.symm
        have HSZ := Lib.hid hsz
        have hcl : ∀ ty, (Builtin.clear_ #[22] ty #[.slice (some ⟨N, i, none⟩) (j - i) (j - i)]).run Tryd.prog wr = .ok (.tuple #[]) (wr.setCells N i (List.replicate (j - i) (.string ByteArray.empty))) :=
          fun ty => Lib.run_clear_slice wr _ _ ty _ Tryd.underlying22 Tryd.zeroValue9 rfl rfl N i _ _ (by omega) (fun t ht => by rw [B.out.cell, Array.getElem?_eq_getElem (by omega)]; rfl) (fun t ht => B.out.free _)
        clear hsz
        go_wp2
        go_ret
        have hD := I.out
        have hjx : xs.filter keepB = keptTo xs j := by rw [← keptTo_end, ← HN.out]
        obtain ⟨cs', b1, b2, b3, b4⟩ := blk_setCells (List.replicate (j - i) (Value.string ByteArray.empty)) i B.out
        refine ⟨i, by rw [hjx]; exact hD.len, rfl, ⟨cs', b1, by rw [b2, HSZ.out]; exact HN.out, ?_⟩, by rw [hjx, ← hD.len]; have := HN.out; omega, O.out.trans b4⟩
        rw [hjx, ← hD.len, ← hD.done]
        apply List.ext_getElem?
        intro t
        rw [List.getElem?_take, List.getElem?_take]
        split
        · have := b3 t (by assumption)
          simpa using this
        · rfl
end Go.Proofs.YthhggganhegfhaaDoor
