/- Arrays of bytes and of numbers that a law of the layer order is given. -/
import Derived.Test.YtkmaapkbonkjfaaByte
set_option linter.unusedSimpArgs false
set_option linter.unusedVariables false
namespace Go.Proofs.Ytkmaapkbonkjfaa
open Go.RowKit Go.WideShapes Go.ChangeShapes Go.ChangeAt Go.Deep Go.Joins

section
variable {H : Type} {enc : TypeId × Value → H} {W : World} {base : Nat} {sp : Nat → Bool} {held : Bool}
set_option maxRecDepth 100000 in
theorem okWide_arr {r : Reach} {b0 n : Nat} {t e : TypeId} (ht : Try.prog.underlying t = some (.array n e)) {v : Value} (h : Value.okWide Try.prog W r b0 t v) : ∃ xs : Array Value, v = .agg xs ∧ xs.size = Try.prog.cellsOf t := by
  simp only [Value.okWide, ht] at h
  obtain ⟨cs, h1, h2, _⟩ := h
  exact ⟨cs, h1, h2⟩
set_option maxRecDepth 100000 in
theorem open_array {r : Reach} {b0 n : Nat} {t e : TypeId} (ht : Try.prog.underlying t = some (.array n e)) (hce : Try.prog.cellsOf e = 1) (hct : Try.prog.cellsOf t = n) {v : Value} {d : DataW H} {p : List MemPlace} (hv : Value.okWide Try.prog W r b0 t v)
    (h : DataW.Trod enc Try.prog W base sp held t v d p) : ∃ xs : Array Value, v = .agg xs ∧ xs.size = n ∧ ∀ i, i < n → ∃ u y m, xs[i]? = some u ∧ DataW.trod enc Try.prog W base sp held m e [u] = some y := by
  obtain ⟨xs, rfl, hsz⟩ := okWide_arr ht hv
  rw [hct] at hsz
  obtain ⟨fuel, hf⟩ := h
  obtain ⟨ys, m, _, _, hlen, hyl, hi⟩ := DataW.trod_array ht hf
  refine ⟨xs, rfl, hsz, fun i hi2 => ?_⟩
  have h1 := hi i hi2
  rw [hce, Nat.mul_one] at h1
  simp only [Value.cells] at h1
  rw [List.drop_eq_getElem_cons (by simpa [hsz] using hi2)] at h1
  refine ⟨xs[i], ys[i], m, Array.getElem?_eq_getElem (by omega), ?_⟩
  simpa [List.getElem?_eq_getElem (show i < ys.length by omega)] using h1
theorem byte_of {n : Nat} {u : Value} {y : DataW H × List MemPlace} (h : DataW.trod enc Try.prog W base sp held n 5 [u] = some y) : ∃ x : Nat, u = .int .u8 x ∧ x < 256 := by
  obtain ⟨k, hk, _, hw⟩ := DataW.trod_int Try.underlying5 h
  cases hk
  simp only [Lit.wf, Bool.and_eq_true, decide_eq_true_eq] at hw
  obtain ⟨h0, h1⟩ := hw
  have h0' : (0 : Int) ≤ k := h0
  have h1' : k ≤ (255 : Int) := h1
  obtain ⟨x, rfl⟩ := Int.eq_ofNat_of_zero_le h0'
  exact ⟨x, rfl, by omega⟩
set_option maxRecDepth 100000 in
theorem open_bytes3 {r : Reach} {b0 : Nat} {v : Value} {d : DataW H} {p : List MemPlace} (hv : Value.okWide Try.prog W r b0 63 v) (h : DataW.Trod enc Try.prog W base sp held 63 v d p) :
    ∃ x0 x1 x2 : Nat, v = .agg #[.int .u8 x0, .int .u8 x1, .int .u8 x2] ∧ x0 < 256 ∧ x1 < 256 ∧ x2 < 256 := by
  obtain ⟨xs, rfl, hsz, hi⟩ := open_array Try.underlying63 (by kernel_rfl) (by kernel_rfl) hv h
  obtain ⟨u0, u1, u2, rfl⟩ := array3 hsz
  obtain ⟨_, _, _, e0, t0⟩ := hi 0 (by omega)
  obtain ⟨_, _, _, e1, t1⟩ := hi 1 (by omega)
  obtain ⟨_, _, _, e2, t2⟩ := hi 2 (by omega)
  cases e0; cases e1; cases e2
  obtain ⟨x0, rfl, h0⟩ := byte_of t0
  obtain ⟨x1, rfl, h1⟩ := byte_of t1
  obtain ⟨x2, rfl, h2⟩ := byte_of t2
  exact ⟨x0, x1, x2, rfl, h0, h1, h2⟩
set_option maxRecDepth 100000 in
theorem open_bytes2 {r : Reach} {b0 : Nat} {v : Value} {d : DataW H} {p : List MemPlace} (hv : Value.okWide Try.prog W r b0 73 v) (h : DataW.Trod enc Try.prog W base sp held 73 v d p) :
    ∃ x0 x1 : Nat, v = .agg #[.int .u8 x0, .int .u8 x1] ∧ x0 < 256 ∧ x1 < 256 := by
  obtain ⟨xs, rfl, hsz, hi⟩ := open_array Try.underlying73 (by kernel_rfl) (by kernel_rfl) hv h
  obtain ⟨u0, u1, rfl⟩ := array2 hsz
  obtain ⟨_, _, _, e0, t0⟩ := hi 0 (by omega)
  obtain ⟨_, _, _, e1, t1⟩ := hi 1 (by omega)
  cases e0; cases e1
  obtain ⟨x0, rfl, h0⟩ := byte_of t0
  obtain ⟨x1, rfl, h1⟩ := byte_of t1
  exact ⟨x0, x1, rfl, h0, h1⟩
end
end Go.Proofs.Ytkmaapkbonkjfaa
