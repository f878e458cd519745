/- A byte that a law of the layer order is given. -/
import Derived.Test.YtkmaapkbonkjfaaGOpen
set_option linter.unusedSimpArgs false
set_option linter.unusedVariables false
namespace Go.Proofs.Ytkmaapkbonkjfaa
open Go.RowKit Go.WideShapes Go.ChangeShapes Go.ChangeAt Go.Deep Go.Joins

set_option maxRecDepth 100000 in
theorem open_byte {H : Type} {enc : TypeId × Value → H} {W : World} {base : Nat} {sp : Nat → Bool} {held : Bool} {r : Reach} {b0 : Nat} {v : Value} {d : DataW H} {p : List MemPlace} (hv : Value.okWide Try.prog W r b0 5 v) (h : DataW.Trod enc Try.prog W base sp held 5 v d p) :
    ∃ x : Nat, v = .int .u8 x ∧ x < 256 := by
  obtain ⟨n, rfl⟩ := okWide_int Try.underlying5 hv
  obtain ⟨fuel, hf⟩ := h
  obtain ⟨k, hk, _, hw⟩ := DataW.trod_int Try.underlying5 hf
  cases hk
  simp only [Lit.wf, Bool.and_eq_true, decide_eq_true_eq] at hw
  obtain ⟨h0, h1⟩ := hw
  have h0' : (0 : Int) ≤ n := h0
  have h1' : n ≤ (255 : Int) := h1
  obtain ⟨x, rfl⟩ := Int.eq_ofNat_of_zero_le h0'
  exact ⟨x, rfl, by omega⟩
end Go.Proofs.Ytkmaapkbonkjfaa
