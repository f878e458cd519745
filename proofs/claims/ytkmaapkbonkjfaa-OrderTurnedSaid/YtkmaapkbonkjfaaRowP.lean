/- One part more behind a slice of the call's own, from any block. -/
import Derived.Test.YtkmaapkbonkjfaaLawE
set_option linter.unusedSimpArgs false
set_option linter.unusedVariables false
namespace Go.Proofs.Ytkmaapkbonkjfaa
open Go.RowKit

set_option maxRecDepth 100000 in
theorem append_part_at {base g : Nat} {w : World} {v : Value} {xs : List PartR} {p : PartR} (h : Own base 57 w v xs) (hrow : w.heap[g]? = some (.cells #[.string p.name, .int .i64 p.batch, .int .i64 p.long, .int .i64 p.stock] 57)) (hn : xs.length ≤ 1000) (hbase : base ≤ w.heap.size) :
    ∃ A' c' w', (Builtin.append_ #[23, 23] 23 #[v, .slice (some ⟨g, 0, none⟩) 1 1]).run Try.prog w = .ok (.slice A' (xs.length + 1) c') w' ∧ Own base 57 w' (.slice A' (xs.length + 1) c') (xs ++ [p]) ∧ Below base w w' ∧ w.grownBy w' v.ownBlock := by
  obtain ⟨i, hi, hi2⟩ := Option.map_eq_some_iff.1 (show (Try.prog.info? 57).map (fun i => (i.size, i.bytes, i.zero.map (·.cells.size))) = some (4, 40, some 4) by kernel_rfl)
  simp only [Prod.mk.injEq] at hi2
  obtain ⟨hsize, hby, hz0⟩ := hi2
  obtain ⟨z, hz, hzs⟩ := Option.map_eq_some_iff.1 hz0
  have ht : Try.prog.underlying 23 = some (.slice 57) := by kernel_rfl
  obtain ⟨v', w', hrun, h2, h3, _, _⟩ := run_append_own_at (P := Try.prog) w base 23 23 57 i z 4 40 ht hi hz hsize hby hzs (by omega) v xs.length (xs.flatMap Enc.enc) h
    ⟨g, 0, none⟩ 1 1 (Enc.enc p) rfl
    (fun j u hu => by
      have hadd : (⟨g, 0, none⟩ : Addr).add j = ⟨g, j, none⟩ := by unfold Addr.add; split <;> simp_all
      rw [hadd]
      exact (cell_of_row _ _ j _ _ _ hrow).trans (by simpa [Enc.enc] using hu))
    (fun u hu => by
      simp only [Enc.enc, List.mem_cons, List.not_mem_nil, or_false] at hu
      rcases hu with rfl | rfl | rfl | rfl <;> rfl) (by unfold maxLen; omega) (by omega) hbase
  have h4 : Own base 57 w' v' (xs ++ [p]) := Own.of_append (n := xs.length + 1) (by simp) (by simpa using h2)
  obtain ⟨A, c1, rfl, hc1, hc2⟩ := h4.form
  rw [List.length_append, List.length_singleton] at hrun h4
  have hb2 := (h.grown h3).resolve_right (by omega)
  exact ⟨A, c1, w', hrun, h4, hb2, h3⟩

/-- the shop whose parts are turned, while its parts are made -/
structure TvS (w2 we : World) (ot : Nat) (vh : Value) (ps : List PartR) (X : World) : Prop where
  bel : Below w2.heap.size w2 X
  sz : we.heap.size ≤ X.heap.size
  same : ∀ b, b < we.heap.size → b ≠ ot → X.heap[b]? = we.heap[b]?
  own : ∃ A c, X.heap[ot]? = some (.cells #[vh, .slice A ps.length c, .slice none 0 0] 26) ∧ Own we.heap.size 57 X (.slice A ps.length c) ps
/-- what holds within one round of them -/
structure TwI (w2 we : World) (ot : Nat) (A : Option Addr) (c : Nat) (vh : Value) (xs : List PartR) (p : PartR) (val : Nat → Value) (L : Nat → Bool) (vs : Nat → Value) (X : World) : Prop where
  bel : Below w2.heap.size w2 X
  sz : we.heap.size ≤ X.heap.size
  rd : ∀ k, (k ≠ 7 ∧ k ≠ 8) → L k = true → vs k = val k
  same : ∀ b, b < we.heap.size → b ≠ ot → X.heap[b]? = we.heap[b]?
  blk : L 10 = false → X.heap[ot]? = some (.cells #[vh, .slice A xs.length c, .slice none 0 0] 26)
  own : L 8 = false → Own we.heap.size 57 X (.slice A xs.length c) xs
  f7 : L 7 = true → L 8 = false → ∃ g, vs 7 = .slice (some ⟨g, 0, none⟩) 1 1 ∧ X.heap[g]? = some (.cells #[.string p.name, .int .i64 p.batch, .int .i64 p.long, .int .i64 p.stock] 57)
  f8 : L 8 = true → ∃ A' c', vs 8 = .slice A' (xs.length + 1) c' ∧ Own we.heap.size 57 X (.slice A' (xs.length + 1) c') (xs ++ [p]) ∧ (L 10 = true → X.heap[ot]? = some (.cells #[vh, .slice A' (xs.length + 1) c', .slice none 0 0] 26))
end Go.Proofs.Ytkmaapkbonkjfaa
