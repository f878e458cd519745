/- Two numbers, and one, that a law of the layer order is given. -/
import Derived.Test.YtkmaapkbonkjfaaBytes
set_option linter.unusedSimpArgs false
set_option linter.unusedVariables false
namespace Go.Proofs.Ytkmaapkbonkjfaa
open Go.RowKit Go.WideShapes Go.ChangeShapes Go.ChangeAt Go.Deep Go.Joins

section
variable {H : Type} {enc : TypeId × Value → H} {W : World} {base : Nat} {sp : Nat → Bool} {held : Bool}
theorem int_of {n : Nat} {u : Value} {y : DataW H × List MemPlace} (h : DataW.trod enc Try.prog W base sp held n 3 [u] = some y) : ∃ x : Int, u = .int .i64 x := by
  obtain ⟨k, hk, _, _⟩ := DataW.trod_int Try.underlying3 h
  cases hk
  exact ⟨k, rfl⟩
set_option maxRecDepth 100000 in
theorem open_ints2 {r : Reach} {b0 : Nat} {v : Value} {d : DataW H} {p : List MemPlace} (hv : Value.okWide Try.prog W r b0 36 v) (h : DataW.Trod enc Try.prog W base sp held 36 v d p) : ∃ x0 x1 : Int, v = .agg #[.int .i64 x0, .int .i64 x1] := by
  obtain ⟨xs, rfl, hsz, hi⟩ := open_array Try.underlying36 (by kernel_rfl) (by kernel_rfl) hv h
  obtain ⟨u0, u1, rfl⟩ := array2 hsz
  obtain ⟨_, _, _, e0, t0⟩ := hi 0 (by omega)
  obtain ⟨_, _, _, e1, t1⟩ := hi 1 (by omega)
  cases e0; cases e1
  obtain ⟨x0, rfl⟩ := int_of t0
  obtain ⟨x1, rfl⟩ := int_of t1
  exact ⟨x0, x1, rfl⟩
set_option maxRecDepth 100000 in
theorem open_int {r : Reach} {b0 : Nat} {v : Value} {d : DataW H} {p : List MemPlace} (hv : Value.okWide Try.prog W r b0 3 v) (h : DataW.Trod enc Try.prog W base sp held 3 v d p) : ∃ x : Int, v = .int .i64 x := by
  obtain ⟨n, rfl⟩ := okWide_int Try.underlying3 hv
  exact ⟨n, rfl⟩
end
end Go.Proofs.Ytkmaapkbonkjfaa
