/-
  What the changes of a mode are, said of plain lists of letters; no program in sight.
-/
import Derived.Test.YtbkclmpopofebaaDoorBits
import Derived.Test.YtbkclmpopofebaaDoorPiecesK
import Derived.Test.YtbkclmpopofebaaDoorAny3
import Derived.Lib.SlTrimSet
namespace Go.Proofs.YtbkclmpopofebaaDoor
open Go.RowKit
set_option linter.unusedVariables false

def bor (a b : Int) : Int := bits .or .i64 a b
def band (a b : Int) : Int := bits .and .i64 a b
def bclr (a b : Int) : Int := bits .andNot .i64 a b
theorem bor_assoc (a b c : Int) : bor (bor a b) c = bor a (bor b c) := by
  unfold bor
  simp only [bits_or, BitVec.ofInt_toInt, BitVec.or_assoc]

def isWho (c : UInt8) : Bool := c == 117 || c == 103 || c == 111 || c == 97
def isLet (c : UInt8) : Bool := c == 114 || c == 119 || c == 120 || c == 115 || c == 116
/-- who, operation, letters -/
def clauseP (l : List UInt8) : Option (List UInt8 × UInt8 × List UInt8) :=
  match l.dropWhile isWho with
  | [] => none
  | op :: post => if l.takeWhile isWho = [] ∨ opB op = false ∨ post.all isLet = false then none else some (l.takeWhile isWho, op, post)

def whoseI (c : UInt8) : Int := if c = 117 then 2496 else if c = 103 then 1080 else if c = 111 then 7 else 3583
def namedI (c : UInt8) : Int := if c = 114 then 292 else if c = 119 then 146 else if c = 120 then 73 else if c = 115 then 3072 else 0
def whoV (l : List UInt8) : Int := l.foldl (fun a c => bor a (whoseI c)) 0
def letV (l : List UInt8) : Int := l.foldl (fun a c => bor a (namedI c)) 0
def hasC (d : UInt8) (l : List UInt8) : Bool := l.any fun c => c == d
def bitsV (pre post : List UInt8) : Int := if hasC 116 post then bor (band (letV post) (whoV pre)) 512 else band (letV post) (whoV pre)
/-- what one clause makes of a mode -/
def oneP (m : Int) (l : List UInt8) : Option Int :=
  match clauseP l with
  | none => none
  | some (pre, op, post) => some (if op = 45 then bclr m (bitsV pre post) else if op = 61 then bor (bclr m (whoV pre)) (bitsV pre post) else bor m (bitsV pre post))

/-- the document's numbers -/
def whoR (c : UInt8) : Int := if c = 117 then 1 else if c = 103 then 2 else if c = 111 then 4 else 7
def whoRV (l : List UInt8) : Int := l.foldl (fun a c => bor a (whoR c)) 0
def letR (w : Nat) (c : UInt8) : Int :=
  if c = 114 then (if w = 0 then 256 else if w = 1 then 32 else 4) else if c = 119 then (if w = 0 then 128 else if w = 1 then 16 else 2)
  else if c = 120 then (if w = 0 then 64 else if w = 1 then 8 else 1) else if c = 115 then (if w = 0 then 2048 else if w = 1 then 1024 else 0) else if c = 116 then 512 else 0
def passR (w : Nat) (a : Int) (l : List UInt8) : Int := l.foldl (fun a c => bor a (letR w c)) a
def hasR (who : Int) (w : Nat) : Bool := if w = 0 then decide (who % 2 = 1) else if w = 1 then decide (who / 2 % 2 = 1) else decide (who / 4 % 2 = 1)
def stepR (who : Int) (w : Nat) (l : List UInt8) (a : Int) : Int := if hasR who w then passR w a l else a
def bitsR (who : Int) (l : List UInt8) : Int := stepR who 2 l (stepR who 1 l (stepR who 0 l 0))

-- both numbers go by which letters there are
def wI (u g o : Bool) : Int := (if u && g then (if o then 3583 else 3576) else if u then (if o then 2503 else 2496) else if g then (if o then 1087 else 1080) else if o then 7 else 0)
def wR (u g o : Bool) : Int := (if u then 1 else 0) + (if g then 2 else 0) + (if o then 4 else 0)
def hasU (l : List UInt8) : Bool := l.any fun c => c == 117 || c == 97
def hasG (l : List UInt8) : Bool := l.any fun c => c == 103 || c == 97
def hasO (l : List UInt8) : Bool := l.any fun c => c == 111 || c == 97
theorem who_cases {c : UInt8} (h : isWho c = true) : c = 117 ∨ c = 103 ∨ c = 111 ∨ c = 97 := by
  unfold isWho at h; simpa [or_assoc] using h
theorem let_cases {c : UInt8} (h : isLet c = true) : c = 114 ∨ c = 119 ∨ c = 120 ∨ c = 115 ∨ c = 116 := by
  unfold isLet at h; simpa [or_assoc] using h
theorem wI_step (u g o : Bool) {c : UInt8} (h : isWho c = true) : bor (wI u g o) (whoseI c) = wI (u || (c == 117 || c == 97)) (g || (c == 103 || c == 97)) (o || (c == 111 || c == 97)) := by
  rcases who_cases h with rfl | rfl | rfl | rfl <;> cases u <;> cases g <;> cases o <;> decide
theorem wR_step (u g o : Bool) {c : UInt8} (h : isWho c = true) : bor (wR u g o) (whoR c) = wR (u || (c == 117 || c == 97)) (g || (c == 103 || c == 97)) (o || (c == 111 || c == 97)) := by
  rcases who_cases h with rfl | rfl | rfl | rfl <;> cases u <;> cases g <;> cases o <;> decide
theorem whoV_aux : ∀ (l : List UInt8) (u g o : Bool), (∀ c ∈ l, isWho c = true) → l.foldl (fun a c => bor a (whoseI c)) (wI u g o) = wI (u || hasU l) (g || hasG l) (o || hasO l)
  | [], u, g, o, _ => by simp [hasU, hasG, hasO]
  | c :: l, u, g, o, h => by
    rw [List.foldl_cons, wI_step u g o (h c (by simp)), whoV_aux l _ _ _ (fun x hx => h x (by simp [hx]))]
    simp [hasU, hasG, hasO, Bool.or_assoc]
theorem whoRV_aux : ∀ (l : List UInt8) (u g o : Bool), (∀ c ∈ l, isWho c = true) → l.foldl (fun a c => bor a (whoR c)) (wR u g o) = wR (u || hasU l) (g || hasG l) (o || hasO l)
  | [], u, g, o, _ => by simp [hasU, hasG, hasO]
  | c :: l, u, g, o, h => by
    rw [List.foldl_cons, wR_step u g o (h c (by simp)), whoRV_aux l _ _ _ (fun x hx => h x (by simp [hx]))]
    simp [hasU, hasG, hasO, Bool.or_assoc]
theorem whoV_say {l : List UInt8} (h : ∀ c ∈ l, isWho c = true) : whoV l = wI (hasU l) (hasG l) (hasO l) := by
  have := whoV_aux l false false false h
  simp only [Bool.false_or] at this
  exact this
theorem whoRV_say {l : List UInt8} (h : ∀ c ∈ l, isWho c = true) : whoRV l = wR (hasU l) (hasG l) (hasO l) := by
  have := whoRV_aux l false false false h
  simp only [Bool.false_or] at this
  exact this

def fl (b : Bool) (n : Int) : Int := if b then n else 0
def nI (r w x s : Bool) : Int := fl r 292 + fl w 146 + fl x 73 + fl s 3072
theorem nI_step (r w x s : Bool) {c : UInt8} (h : isLet c = true) : bor (nI r w x s) (namedI c) = nI (r || c == 114) (w || c == 119) (x || c == 120) (s || c == 115) := by
  rcases let_cases h with rfl | rfl | rfl | rfl | rfl <;> cases r <;> cases w <;> cases x <;> cases s <;> decide
theorem letV_aux : ∀ (l : List UInt8) (r w x s : Bool), (∀ c ∈ l, isLet c = true) → l.foldl (fun a c => bor a (namedI c)) (nI r w x s) = nI (r || hasC 114 l) (w || hasC 119 l) (x || hasC 120 l) (s || hasC 115 l)
  | [], r, w, x, s, _ => by simp [hasC]
  | c :: l, r, w, x, s, h => by
    rw [List.foldl_cons, nI_step r w x s (h c (by simp)), letV_aux l _ _ _ _ (fun y hy => h y (by simp [hy]))]
    simp [hasC, Bool.or_assoc]
theorem letV_say {l : List UInt8} (h : ∀ c ∈ l, isLet c = true) : letV l = nI (hasC 114 l) (hasC 119 l) (hasC 120 l) (hasC 115 l) := by
  have := letV_aux l false false false false h
  simp only [Bool.false_or] at this
  exact this

/-- one pass of the document's: what a who's letters add -/
def pV (k : Nat) (r w x s t : Bool) : Int :=
  if k = 0 then fl r 256 + fl w 128 + fl x 64 + fl s 2048 + fl t 512 else if k = 1 then fl r 32 + fl w 16 + fl x 8 + fl s 1024 + fl t 512 else fl r 4 + fl w 2 + fl x 1 + fl t 512
theorem pV_step (k : Nat) (hk : k < 3) (r w x s t : Bool) {c : UInt8} (h : isLet c = true) : bor (pV k r w x s t) (letR k c) = pV k (r || c == 114) (w || c == 119) (x || c == 120) (s || c == 115) (t || c == 116) := by
  have hk' : k = 0 ∨ k = 1 ∨ k = 2 := by omega
  rcases hk' with rfl | rfl | rfl <;> rcases let_cases h with rfl | rfl | rfl | rfl | rfl <;> cases r <;> cases w <;> cases x <;> cases s <;> cases t <;> decide
theorem bor_zero (a b : Int) : bor (bor a b) 0 = bor a b := by
  unfold bor
  simp only [bits_or, BitVec.ofInt_toInt]
  rw [show BitVec.ofInt 64 0 = 0#64 from rfl, BitVec.or_zero]
theorem pV_none (k : Nat) : pV k false false false false false = 0 := by unfold pV; split <;> (try split) <;> rfl
theorem passR_aux (k : Nat) (hk : k < 3) (a : Int) : ∀ (l : List UInt8) (r w x s t : Bool), (∀ c ∈ l, isLet c = true) →
    l.foldl (fun a c => bor a (letR k c)) (bor a (pV k r w x s t)) = bor a (pV k (r || hasC 114 l) (w || hasC 119 l) (x || hasC 120 l) (s || hasC 115 l) (t || hasC 116 l))
  | [], r, w, x, s, t, _ => by simp [hasC]
  | c :: l, r, w, x, s, t, h => by
    rw [List.foldl_cons, bor_assoc, pV_step k hk r w x s t (h c (by simp)), passR_aux k hk a l _ _ _ _ _ (fun y hy => h y (by simp [hy]))]
    simp [hasC, Bool.or_assoc]
theorem passR_say {k : Nat} (hk : k < 3) {a : Int} (ha : bor a 0 = a) {l : List UInt8} (h : ∀ c ∈ l, isLet c = true) :
    passR k a l = bor a (pV k (hasC 114 l) (hasC 119 l) (hasC 120 l) (hasC 115 l) (hasC 116 l)) := by
  have := passR_aux k hk a l false false false false false h
  rw [pV_none, ha] at this
  simp only [Bool.false_or] at this
  exact this
def stepB (has : Bool) (k : Nat) (r w x s t : Bool) (a : Int) : Int := if has then bor a (pV k r w x s t) else a
theorem stepB_ok {has : Bool} {k : Nat} {r w x s t : Bool} {a : Int} (ha : bor a 0 = a) : bor (stepB has k r w x s t a) 0 = stepB has k r w x s t a := by
  unfold stepB
  split
  · exact bor_zero _ _
  · exact ha
theorem stepR_say {who : Int} {k : Nat} (hk : k < 3) {a : Int} (ha : bor a 0 = a) {l : List UInt8} (h : ∀ c ∈ l, isLet c = true) :
    stepR who k l a = stepB (hasR who k) k (hasC 114 l) (hasC 119 l) (hasC 120 l) (hasC 115 l) (hasC 116 l) a := by
  unfold stepR stepB
  rw [passR_say hk ha h]
theorem bitsR_say {who : Int} {l : List UInt8} (h : ∀ c ∈ l, isLet c = true) :
    bitsR who l = stepB (hasR who 2) 2 (hasC 114 l) (hasC 119 l) (hasC 120 l) (hasC 115 l) (hasC 116 l) (stepB (hasR who 1) 1 (hasC 114 l) (hasC 119 l) (hasC 120 l) (hasC 115 l) (hasC 116 l) (stepB (hasR who 0) 0 (hasC 114 l) (hasC 119 l) (hasC 120 l) (hasC 115 l) (hasC 116 l) 0)) := by
  have h0 : bor 0 0 = 0 := by decide
  unfold bitsR
  rw [stepR_say (by omega) h0 h, stepR_say (by omega) (stepB_ok h0) h, stepR_say (by omega) (stepB_ok (stepB_ok h0)) h]
theorem bits_flags (u g o r w x s t : Bool) (hw : (u || g || o) = true) :
    (if t then bor (band (nI r w x s) (wI u g o)) 512 else band (nI r w x s) (wI u g o)) = stepB (hasR (wR u g o) 2) 2 r w x s t (stepB (hasR (wR u g o) 1) 1 r w x s t (stepB (hasR (wR u g o) 0) 0 r w x s t 0)) := by
  cases u <;> cases g <;> cases o <;> first | (exact absurd hw (by decide)) | (cases r <;> cases w <;> cases x <;> cases s <;> cases t <;> decide)
theorem mask_flags (u g o : Bool) : wI u g o = bitsR (wR u g o) [114, 119, 120, 115] := by
  cases u <;> cases g <;> cases o <;> decide
theorem who_some {l : List UInt8} (h0 : l ≠ []) (h : ∀ c ∈ l, isWho c = true) : (hasU l || hasG l || hasO l) = true := by
  cases l with
  | nil => exact absurd rfl h0
  | cons c l =>
    rcases who_cases (h c (by simp)) with rfl | rfl | rfl | rfl <;> simp [hasU, hasG, hasO]
theorem bits_eq {pre post : List UInt8} (h0 : pre ≠ []) (h1 : ∀ c ∈ pre, isWho c = true) (h2 : ∀ c ∈ post, isLet c = true) : bitsV pre post = bitsR (whoRV pre) post := by
  unfold bitsV
  rw [bitsR_say h2, whoRV_say h1, whoV_say h1, letV_say h2]
  exact bits_flags _ _ _ _ _ _ _ _ (who_some h0 h1)
theorem mask_eq {pre : List UInt8} (h1 : ∀ c ∈ pre, isWho c = true) : whoV pre = bitsR (whoRV pre) [114, 119, 120, 115] := by
  rw [whoV_say h1, whoRV_say h1]
  exact mask_flags _ _ _
/-- the same, by the document's numbers -/
def oneR (m : Int) (l : List UInt8) : Option Int :=
  match clauseP l with
  | none => none
  | some (pre, op, post) => some (if op = 45 then bclr m (bitsR (whoRV pre) post) else if op = 61 then bor (bclr m (bitsR (whoRV pre) [114, 119, 120, 115])) (bitsR (whoRV pre) post) else bor m (bitsR (whoRV pre) post))
theorem takeWhile_all (p : UInt8 → Bool) : ∀ (l : List UInt8), ∀ c ∈ l.takeWhile p, p c = true
  | [], c, h => by simp at h
  | x :: l, c, h => by
    rw [List.takeWhile_cons] at h
    split at h
    · rename_i hx
      rcases List.mem_cons.1 h with rfl | h
      · exact hx
      · exact takeWhile_all p l c h
    · simp at h
theorem clause_say {l pre post : List UInt8} {op : UInt8} (h : clauseP l = some (pre, op, post)) : pre ≠ [] ∧ (∀ c ∈ pre, isWho c = true) ∧ opB op = true ∧ (∀ c ∈ post, isLet c = true) := by
  unfold clauseP at h
  split at h
  · cases h
  rename_i op' post' _
  split at h
  · cases h
  rename_i h1
  simp only [Option.some.injEq, Prod.mk.injEq] at h
  obtain ⟨rfl, rfl, rfl⟩ := h
  refine ⟨fun e => h1 (Or.inl e), takeWhile_all _ _, ?_, ?_⟩
  · cases e : opB op' with
    | true => rfl
    | false => exact absurd (Or.inr (Or.inl e)) h1
  · have : post'.all isLet = true := by
      cases e : post'.all isLet with
      | true => rfl
      | false => exact absurd (Or.inr (Or.inr e)) h1
    exact List.all_eq_true.1 this
theorem oneR_eq (m : Int) (l : List UInt8) : oneR m l = oneP m l := by
  unfold oneR oneP
  cases h : clauseP l with
  | none => rfl
  | some x =>
    obtain ⟨pre, op, post⟩ := x
    obtain ⟨h0, h1, _, h2⟩ := clause_say h
    simp only
    rw [bits_eq h0 h1 h2, mask_eq h1]

/-- one clause behind another -/
def chainP : Int → List (List UInt8) → Option Int
  | m, [] => some m
  | m, p :: ps => match oneP m p with
    | none => none
    | some m' => chainP m' ps
theorem chainP_append : ∀ (m : Int) (ps qs : List (List UInt8)), chainP m (ps ++ qs) = (chainP m ps).bind fun m' => chainP m' qs
  | m, [], qs => rfl
  | m, p :: ps, qs => by
    rw [List.cons_append, chainP, chainP]
    cases oneP m p with
    | none => rfl
    | some m' => exact chainP_append m' ps qs
/-- what Change answers -/
def changeP (m : Int) (l : List UInt8) : Int × Int :=
  if 0 ≤ m ∧ m ≤ 4095 then (match chainP m (pcs l) with
    | some m' => (m', 0)
    | none => (0, 120)) else (0, 120)

abbrev R12 (x : Int) : Prop := 0 ≤ x ∧ x ≤ 4095
theorem R12.nat {x : Int} (h : R12 x) : ∃ n : Nat, x = n ∧ n < 4096 := ⟨x.toNat, by have := h.1; omega, by have := h.1; have := h.2; omega⟩
theorem R12.of {x : BitVec 64} (h : x.toNat < 4096) : R12 x.toInt := by
  rw [toInt_small (by omega)]
  exact ⟨by omega, by omega⟩
theorem R12.toNat {x : Int} (h : R12 x) : (BitVec.ofInt 64 x).toNat < 4096 := by
  obtain ⟨n, rfl, hn⟩ := h.nat
  rw [ofInt_nat, BitVec.toNat_ofNat]
  omega
theorem R12_bor {a b : Int} (ha : R12 a) (hb : R12 b) : R12 (bor a b) := by
  unfold bor; rw [bits_or]
  refine R12.of ?_
  rw [BitVec.toNat_or]
  exact Nat.or_lt_two_pow (n := 12) ha.toNat hb.toNat
theorem R12_band {a b : Int} (ha : R12 a) : R12 (band a b) := by
  unfold band; rw [bits_and]
  refine R12.of ?_
  rw [BitVec.toNat_and]
  exact Nat.lt_of_le_of_lt Nat.and_le_left ha.toNat
theorem R12_bclr {a b : Int} (ha : R12 a) : R12 (bclr a b) := by
  unfold bclr; rw [bits_andNot]
  refine R12.of ?_
  rw [BitVec.toNat_and]
  exact Nat.lt_of_le_of_lt Nat.and_le_left ha.toNat
theorem R12_fold (f : UInt8 → Int) (hf : ∀ c, R12 (f c)) : ∀ (l : List UInt8) (a : Int), R12 a → R12 (l.foldl (fun a c => bor a (f c)) a)
  | [], a, ha => ha
  | c :: l, a, ha => R12_fold f hf l _ (R12_bor ha (hf c))
theorem R12_whoV (l : List UInt8) : R12 (whoV l) := R12_fold _ (fun c => by unfold whoseI R12; repeat' split
                                                                            all_goals decide) l 0 (by decide)
theorem R12_letV (l : List UInt8) : R12 (letV l) := R12_fold _ (fun c => by unfold namedI R12; repeat' split
                                                                            all_goals decide) l 0 (by decide)
theorem R12_bitsV (a b : List UInt8) : R12 (bitsV a b) := by
  unfold bitsV
  split
  · exact R12_bor (R12_band (R12_letV _)) (by decide)
  · exact R12_band (R12_letV _)
theorem R12_one {m m' : Int} {l : List UInt8} (hm : R12 m) (h : oneP m l = some m') : R12 m' := by
  unfold oneP at h
  split at h
  · cases h
  simp only [Option.some.injEq] at h
  rw [← h]
  repeat' split
  · exact R12_bclr hm
  · exact R12_bor (R12_bclr hm) (R12_bitsV _ _)
  · exact R12_bor hm (R12_bitsV _ _)
theorem R12_chain : ∀ (ps : List (List UInt8)) (m m' : Int), R12 m → chainP m ps = some m' → R12 m'
  | [], m, m', hm, h => by cases h; exact hm
  | p :: ps, m, m', hm, h => by
    rw [chainP] at h
    cases e : oneP m p with
    | none => rw [e] at h; cases h
    | some m1 => rw [e] at h; exact R12_chain ps m1 m' (R12_one hm e) h
/-- clauses behind clauses -/
theorem change_steps (m : Int) (a b : List UInt8) : (changeP m a).2 ≠ 0 ∧ changeP m a = (0, 120) ∧ changeP m (a ++ 44 :: b) = (0, 120) ∨
    ∃ m', R12 m' ∧ changeP m a = (m', 0) ∧ changeP m (a ++ 44 :: b) = changeP m' b := by
  unfold changeP
  by_cases hm : 0 ≤ m ∧ m ≤ 4095
  · simp only [if_pos hm]
    rw [pcs_append, chainP_append]
    cases e : chainP m (pcs a) with
    | none => exact Or.inl ⟨by decide, rfl, rfl⟩
    | some m' =>
      have hr := R12_chain _ _ _ hm e
      refine Or.inr ⟨m', hr, rfl, ?_⟩
      rw [if_pos hr]; rfl
  · simp only [if_neg hm]
    exact Or.inl ⟨by decide, trivial, trivial⟩
theorem bclr_zero {m : Int} (h : R12 m) : bclr m 0 = m := by
  unfold bclr
  rw [bits_andNot, show ~~~ BitVec.ofInt 64 0 = BitVec.allOnes 64 from rfl, BitVec.and_allOnes]
  exact toInt_ofInt ⟨by have := h.1; omega, by have := h.2; omega⟩
theorem bclr_all {m : Int} (h : R12 m) : bclr m 4095 = 0 := by
  unfold bclr
  rw [bits_andNot]
  have : BitVec.ofInt 64 m &&& ~~~ BitVec.ofInt 64 4095 = 0#64 := by
    have hl := h.toNat
    apply BitVec.eq_of_toNat_eq
    have e : ~~~ BitVec.ofInt 64 4095 = BitVec.ofNat 64 18446744073709547520 := by decide
    rw [e, BitVec.toNat_and]
    show (BitVec.ofInt 64 m).toNat &&& 18446744073709547520 = 0
    generalize (BitVec.ofInt 64 m).toNat = x at hl
    apply Nat.eq_of_testBit_eq
    intro i
    rw [Nat.testBit_and, Nat.zero_testBit]
    by_cases hi : i < 12
    · have : Nat.testBit 18446744073709547520 i = false := by
        have : i = 0 ∨ i = 1 ∨ i = 2 ∨ i = 3 ∨ i = 4 ∨ i = 5 ∨ i = 6 ∨ i = 7 ∨ i = 8 ∨ i = 9 ∨ i = 10 ∨ i = 11 := by omega
        rcases this with rfl | rfl | rfl | rfl | rfl | rfl | rfl | rfl | rfl | rfl | rfl | rfl <;> decide
      rw [this, Bool.and_false]
    · rw [Nat.testBit_lt_two_pow (Nat.lt_of_lt_of_le hl (Nat.pow_le_pow_right (n := 2) (by omega) (show 12 ≤ i by omega))), Bool.false_and]
  rw [this]; rfl
theorem change_none {m : Int} (h : R12 m) : changeP m [97, 45] = (m, 0) := by
  unfold changeP
  rw [if_pos h]
  have e : chainP m (pcs [97, 45]) = some (bclr m 0) := rfl
  rw [e, bclr_zero h]
theorem change_all {m : Int} (h : R12 m) : changeP m [97, 61, 114, 119, 120, 115, 116, 44, 97, 45, 114, 119, 120, 115, 116] = (0, 0) := by
  unfold changeP
  rw [if_pos h]
  have e : chainP m (pcs [97, 61, 114, 119, 120, 115, 116, 44, 97, 45, 114, 119, 120, 115, 116]) = some (bclr (bor (bclr m 3583) 4095) 4095) := rfl
  rw [e, bclr_all (R12_bor (R12_bclr h) (by decide))]
theorem change_alive : changeP 420 [117, 43, 120, 44, 103, 111, 45, 114] = (448, 0) := by decide
end Go.Proofs.YtbkclmpopofebaaDoor
