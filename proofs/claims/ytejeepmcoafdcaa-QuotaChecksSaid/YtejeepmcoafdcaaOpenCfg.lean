/-
  Opening an argument that is a configuration, its two lists of texts too.
-/
import Derived.Test.YtejeepmcoafdcaaOpenTexts
namespace Go.Proofs.Ytejeepmcoafdcaa
open Go.ChangeShapes Go.WideShapes Go.ChangeAt Go.RowKit
set_option linter.unusedVariables false

structure CfgV where
  (n0 n1 n2 n3 n4 n5 n6 n7 n8 : Int) (b9 b10 : Bool) (v11 v12 : Value) (inc exc : List ByteArray)
def CfgV.val (c : CfgV) : Value := .agg #[.int .i64 c.n0, .int .i64 c.n1, .int .i64 c.n2, .int .i64 c.n3, .int .i64 c.n4, .int .i64 c.n5, .int .i64 c.n6, .int .i64 c.n7, .int .i64 c.n8, .bool c.b9, .bool c.b10, c.v11, c.v12]
def CfgIs (W : World) (v : Value) (c : CfgV) : Prop := v = c.val ∧ Rd W strE c.v11 c.inc ∧ Rd W strE c.v12 c.exc
def CfgD {H : Type} (d : DataW H) (c : CfgV) : Prop := ∃ ps : List (DataW H), d = .agg ps ∧ (∃ d11, ps[11]? = some d11 ∧ TextsD d11 c.inc) ∧ (∃ d12, ps[12]? = some d12 ∧ TextsD d12 c.exc)

theorem open_cfgf {H : Type} {enc : TypeId × Value → H} {W : World} {base : Nat} {v : Value} {d : DataW H} {p : List MemPlace}
    (hv : Value.okWide Try.prog W .any base 24 v) (h : DataW.Trod enc Try.prog W 0 (fun _ => true) true 24 v d p) : ∃ c, CfgIs W v c ∧ CfgD d c := by
  obtain ⟨cs, rfl, hsz⟩ := okWide_struct Try.underlying24 hv
  have hC : Try.prog.cellsOf 24 = 13 := by kernel_rfl
  have hI : Try.prog.cellsOf 3 = 1 := by kernel_rfl
  have hB : Try.prog.cellsOf 4 = 1 := by kernel_rfl
  have hS : Try.prog.cellsOf 22 = 1 := by kernel_rfl
  rw [hC] at hsz
  obtain ⟨fuel, hf⟩ := h
  obtain ⟨xs, n, _, hx, _, hlen, hg⟩ := DataW.trod_struct Try.underlying24 hf
  obtain ⟨l⟩ := cs
  match l, hsz with
  | [c0, c1, c2, c3, c4, c5, c6, c7, c8, c9, c10, c11, c12], _ =>
    replace hlen : xs.length = 13 := hlen
    match xs, hlen with
    | [x0, x1, x2, x3, x4, x5, x6, x7, x8, x9, x10, x11, x12], _ =>
      have g0 := hg 0 _ rfl
      have g1 := hg 1 _ rfl
      have g2 := hg 2 _ rfl
      have g3 := hg 3 _ rfl
      have g4 := hg 4 _ rfl
      have g5 := hg 5 _ rfl
      have g6 := hg 6 _ rfl
      have g7 := hg 7 _ rfl
      have g8 := hg 8 _ rfl
      have g9 := hg 9 _ rfl
      have g10 := hg 10 _ rfl
      have g11 := hg 11 _ rfl
      have g12 := hg 12 _ rfl
      obtain ⟨n0, e0, _⟩ := DataW.trod_int Try.underlying3 g0
      obtain ⟨n1, e1, _⟩ := DataW.trod_int Try.underlying3 g1
      obtain ⟨n2, e2, _⟩ := DataW.trod_int Try.underlying3 g2
      obtain ⟨n3, e3, _⟩ := DataW.trod_int Try.underlying3 g3
      obtain ⟨n4, e4, _⟩ := DataW.trod_int Try.underlying3 g4
      obtain ⟨n5, e5, _⟩ := DataW.trod_int Try.underlying3 g5
      obtain ⟨n6, e6, _⟩ := DataW.trod_int Try.underlying3 g6
      obtain ⟨n7, e7, _⟩ := DataW.trod_int Try.underlying3 g7
      obtain ⟨n8, e8, _⟩ := DataW.trod_int Try.underlying3 g8
      obtain ⟨b9, e9, _⟩ := DataW.trod_bool Try.underlying4 g9
      obtain ⟨b10, e10, _⟩ := DataW.trod_bool Try.underlying4 g10
      obtain ⟨v11, inc, e11, r11, t11⟩ := texts_trod g11
      obtain ⟨v12, exc, e12, r12, t12⟩ := texts_trod g12
      simp [hI, hB, hS, Value.cells] at e0 e1 e2 e3 e4 e5 e6 e7 e8 e9 e10 e11 e12
      subst e0 e1 e2 e3 e4 e5 e6 e7 e8 e9 e10 e11 e12
      simp only [Prod.mk.injEq] at hx
      exact ⟨⟨n0, n1, n2, n3, n4, n5, n6, n7, n8, b9, b10, _, _, inc, exc⟩, ⟨rfl, r11, r12⟩, _, hx.1, ⟨_, rfl, t11⟩, _, rfl, t12⟩

/-- what the sizes say of a configuration's lists -/
def CfgZ (c : CfgV) : Prop := (c.inc.length * 16 ≤ 140737488351232 ∧ ∀ x ∈ c.inc, x.size ≤ 140737488351232) ∧ c.exc.length * 16 ≤ 140737488351232 ∧ ∀ x ∈ c.exc, x.size ≤ 140737488351232
theorem each_all {H : Type} {P : Program} {ts us : List TypeId} {ds es : List (DataW H)} {j : Nat} {t : TypeId} {d : DataW H} (h : (DataW.weightsEach P ts ds).all (· ≤ reachBytes) = true) (ht : ts[j]? = some t) (hd : ds[j]? = some d)
    (hw : d.weights P t = DataW.weightsEach P us es) : (DataW.weightsEach P us es).all (· ≤ reachBytes) = true := by
  refine List.all_eq_true.2 fun n hn => ?_
  exact List.all_eq_true.1 h _ (DataW.weights_mem_each ht hd n (by rw [hw]; exact hn))
theorem cfgf_bounds {H : Type} {ts : List TypeId} {ds : List (DataW H)} (hsz : (DataW.weightsEach Try.prog ts ds).all (· ≤ reachBytes) = true) {j : Nat} {d : DataW H} {c : CfgV}
    (ht : ts[j]? = some 24) (hd : ds[j]? = some d) (h : CfgD d c) : CfgZ c := by
  obtain ⟨ps, rfl, ⟨d11, p11, t11⟩, d12, p12, t12⟩ := h
  have hs := each_all hsz ht hd (us := [3, 3, 3, 3, 3, 3, 3, 3, 3, 4, 4, 22, 22]) (es := ps) (by
    simp only [DataW.weights, Try.underlying24]; rfl)
  exact ⟨⟨texts_bound hs (j := 11) rfl p11 t11, texts_sizes hs (j := 11) rfl p11 t11⟩, texts_bound hs (j := 12) rfl p12 t12, texts_sizes hs (j := 12) rfl p12 t12⟩
end Go.Proofs.Ytejeepmcoafdcaa
