/- A struct of bytes that a law of the layer order is given. -/
import Derived.Test.YtkmaapkbonkjfaaBytes
set_option linter.unusedSimpArgs false
set_option linter.unusedVariables false
namespace Go.Proofs.Ytkmaapkbonkjfaa
open Go.RowKit Go.WideShapes Go.ChangeShapes Go.ChangeAt Go.Deep Go.Joins

theorem array7 {α : Type} {xs : Array α} (h : xs.size = 7) : ∃ a b c d e f g, xs = #[a, b, c, d, e, f, g] := by
  obtain ⟨l⟩ := xs
  match l, h with
  | [a, b, c, d, e, f, g], _ => exact ⟨a, b, c, d, e, f, g, rfl⟩
section
variable {H : Type} {enc : TypeId × Value → H} {W : World} {base : Nat} {sp : Nat → Bool} {held : Bool}
set_option maxRecDepth 100000 in
theorem okWide_str {r : Reach} {b0 : Nat} {t : TypeId} {fs : Array Field} (ht : Try.prog.underlying t = some (.struct fs)) {v : Value} (h : Value.okWide Try.prog W r b0 t v) : ∃ xs : Array Value, v = .agg xs ∧ xs.size = Try.prog.cellsOf t := by
  simp only [Value.okWide, ht] at h
  obtain ⟨cs, h1, h2, _⟩ := h
  exact ⟨cs, h1, h2⟩
set_option maxRecDepth 100000 in
theorem open_easier {r : Reach} {b0 : Nat} {v : Value} {d : DataW H} {p : List MemPlace} (hv : Value.okWide Try.prog W r b0 71 v) (h : DataW.Trod enc Try.prog W base sp held 71 v d p) :
    ∃ a b c e f g i : Nat, v = .agg #[.int .u8 a, .int .u8 b, .int .u8 c, .int .u8 e, .int .u8 f, .int .u8 g, .int .u8 i] ∧ (a < 256 ∧ b < 256 ∧ c < 256 ∧ e < 256 ∧ f < 256 ∧ g < 256 ∧ i < 256) := by
  obtain ⟨xs, rfl, hsz⟩ := okWide_str Try.underlying71 hv
  rw [show Try.prog.cellsOf 71 = 7 by kernel_rfl] at hsz
  obtain ⟨u0, u1, u2, u3, u4, u5, u6, rfl⟩ := array7 hsz
  obtain ⟨fuel, hf⟩ := h
  obtain ⟨v0, y0, m0, e0, t0⟩ := field_open Try.underlying71 (by kernel_rfl) hf (by kernel_rfl) (j := 0) rfl
  obtain ⟨v1, y1, m1, e1, t1⟩ := field_open Try.underlying71 (by kernel_rfl) hf (by kernel_rfl) (j := 1) rfl
  obtain ⟨v2, y2, m2, e2, t2⟩ := field_open Try.underlying71 (by kernel_rfl) hf (by kernel_rfl) (j := 2) rfl
  obtain ⟨v3, y3, m3, e3, t3⟩ := field_open Try.underlying71 (by kernel_rfl) hf (by kernel_rfl) (j := 3) rfl
  obtain ⟨v4, y4, m4, e4, t4⟩ := field_open Try.underlying71 (by kernel_rfl) hf (by kernel_rfl) (j := 4) rfl
  obtain ⟨v5, y5, m5, e5, t5⟩ := field_open Try.underlying71 (by kernel_rfl) hf (by kernel_rfl) (j := 5) rfl
  obtain ⟨v6, y6, m6, e6, t6⟩ := field_open Try.underlying71 (by kernel_rfl) hf (by kernel_rfl) (j := 6) rfl
  cases e0; cases e1; cases e2; cases e3; cases e4; cases e5; cases e6
  obtain ⟨x0, rfl, h0⟩ := byte_of t0
  obtain ⟨x1, rfl, h1⟩ := byte_of t1
  obtain ⟨x2, rfl, h2⟩ := byte_of t2
  obtain ⟨x3, rfl, h3⟩ := byte_of t3
  obtain ⟨x4, rfl, h4⟩ := byte_of t4
  obtain ⟨x5, rfl, h5⟩ := byte_of t5
  obtain ⟨x6, rfl, h6⟩ := byte_of t6
  exact ⟨x0, x1, x2, x3, x4, x5, x6, rfl, h0, h1, h2, h3, h4, h5, h6⟩
end
end Go.Proofs.Ytkmaapkbonkjfaa
