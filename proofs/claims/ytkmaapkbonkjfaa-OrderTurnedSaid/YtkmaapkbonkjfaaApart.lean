/- Two slices of the call's own, each appended to in turn. -/
import Derived.Test.YtkmaapkbonkjfaaGApp
set_option linter.unusedSimpArgs false
set_option linter.unusedVariables false
namespace Go.Proofs.Ytkmaapkbonkjfaa
open Go.RowKit

/-- two slices lie in blocks of their own -/
def Apart (u v : Value) : Prop := ∀ b, u.ownBlock = some b → v.ownBlock ≠ some b
theorem Apart.symm {u v : Value} (h : Apart u v) : Apart v u := fun b h1 h2 => h b h2 h1
theorem apart_nil (v : Value) : Apart v (.slice none 0 0) := fun _ _ h => by cases h
theorem nil_apart (v : Value) : Apart (.slice none 0 0) v := fun _ h => by cases h
theorem Own.blk {α : Type} {At : World → Addr → α → Prop} {sz : Nat} [E : Enc α At sz] {base : Nat} {e : TypeId} {w : World} {v : Value} {xs : List α} (h : Own base e w v xs) : ∀ b, v.ownBlock = some b → b < w.heap.size := by
  intro b hb
  rcases h with ⟨_, ⟨rfl, _⟩ | ⟨g, cap, cur, rfl, _, hh, _⟩⟩
  · cases hb
  · simp only [Value.ownBlock, Option.some.injEq] at hb
    subst hb
    exact lt_of_block hh

theorem append_apart {base : Nat} {w : World} {v u : Value} {xs ys : List Int} (h : Own base 3 w v xs) (hu : Own base 3 w u ys) (hap : Apart u v) (x : Int) (hn : xs.length ≤ 100000) (hbase : base ≤ w.heap.size) :
    ∃ A c w', (Builtin.append_ #[22, 22] 22 #[v, .slice (some ⟨w.heap.size, 0, none⟩) 1 1]).run Try.prog (w.alloc (.cells #[.int .i64 x] 3)) = .ok (.slice A (xs.length + 1) c) w' ∧ Own base 3 w' (.slice A (xs.length + 1) c) (xs ++ [x]) ∧
      Own base 3 w' u ys ∧ Apart u (.slice A (xs.length + 1) c) ∧ Below base w w' ∧ base ≤ w'.heap.size := by
  obtain ⟨i, hi, hi2⟩ := Option.map_eq_some_iff.1 (show (Try.prog.info? 3).map (fun i => (i.size, i.bytes, i.zero.map (·.cells.size))) = some (1, 8, some 1) by kernel_rfl)
  simp only [Prod.mk.injEq] at hi2
  obtain ⟨hsize, hby, hz0⟩ := hi2
  obtain ⟨z, hz, hzs⟩ := Option.map_eq_some_iff.1 hz0
  have ht : Try.prog.underlying 22 = some (.slice 3) := by kernel_rfl
  have hown : Own base 3 (w.alloc (.cells #[.int .i64 x] 3)) v xs := h.alloc _
  have huo : Own base 3 (w.alloc (.cells #[.int .i64 x] 3)) u ys := hu.alloc _
  obtain ⟨v', w', hrun, h2, h3, _, h5⟩ := run_append_own_at (P := Try.prog) (w.alloc (.cells #[.int .i64 x] 3)) base 22 22 3 i z 1 8 ht hi hz hsize hby hzs (by omega) v xs.length (xs.flatMap Enc.enc) hown
    ⟨w.heap.size, 0, none⟩ 1 1 [.int .i64 x] rfl
    (fun j u hj => by
      have hadd : (⟨w.heap.size, 0, none⟩ : Addr).add j = ⟨w.heap.size, j, none⟩ := by unfold Addr.add; split <;> simp_all
      rw [hadd]
      exact (cell_of_row _ _ j _ _ _ (heap_alloc_new w _)).trans (by simpa using hj))
    (by intro u hu; simp at hu; subst hu; rfl) (by unfold maxLen; omega) (by omega) (by simp; omega)
  have h4 : Own base 3 w' v' (xs ++ [x]) := Own.of_append (n := xs.length + 1) (by simp) (by simpa [Enc.enc] using h2)
  obtain ⟨A, c, rfl, hc1, hc2⟩ := h4.form
  rw [List.length_append, List.length_singleton] at hrun h4 hc1 h5
  have hb2 := (hown.grown h3).resolve_right (by simp; omega)
  have hb : Below base w w' := ((Below.refl base w).alloc hbase _).trans hb2
  refine ⟨A, c, w', hrun, h4, ?_, ?_, hb, Nat.le_trans hbase hb.size⟩
  · rcases id huo with ⟨hl, h0 | ⟨g, cap, cur, rfl, hbb, hh, r⟩⟩
    · exact ⟨hl, .inl h0⟩
    · refine ⟨hl, .inr ⟨g, cap, cur, rfl, hbb, (h3.block g (lt_of_block hh) fun e => hap g rfl e.symm).trans hh, r⟩⟩
  · intro b hb1 hb2
    rcases h5 with h5 | h5
    · exact hap b hb1 (h5 ▸ hb2)
    · rw [h5] at hb2
      simp at hb2
      have := hu.blk b hb1
      omega
end Go.Proofs.Ytkmaapkbonkjfaa
