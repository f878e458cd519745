/- Walks of the layer order: words for Kept. -/
import Derived.Test.YtkmaapkbonkjfaaP4
import Derived.Test.YtkmaapkbonkjfaaKeptL
import Derived.Laws.MakeOwn
import Derived.Laws.OwnMore
namespace Go.Proofs.Ytkmaapkbonkjfaa
open Go.RowKit

/-- numbers, as cells -/
def intsC (n : Nat) (F : Nat → Int) : Array Value := ((List.range n).map fun d => Value.int .i64 (F d)).toArray
/-- block g holds n numbers -/
def IArr (w : World) (g n : Nat) (F : Nat → Int) : Prop := w.heap[g]? = some (.cells (intsC n F) 3)
theorem IArr.cell {w : World} {g n : Nat} {F : Nat → Int} (h : IArr w g n F) {i : Nat} (hi : i < n) : w.cell? ⟨g, i, none⟩ = some (.int .i64 (F i)) :=
  cellOf h i (by simp [intsC, hi])
theorem IArr.frozen {w : World} {g n : Nat} {F : Nat → Int} (h : IArr w g n F) (i : Nat) : w.frozen? ⟨g, i, none⟩ = false := by
  unfold IArr at h
  simp [World.frozen?, h]
theorem intsC_set (n : Nat) (F : Nat → Int) (i : Nat) (v : Int) : (intsC n F).setIfInBounds i (.int .i64 v) = intsC n fun d => if d = i then v else F d := by
  unfold intsC
  apply Array.ext_getElem?
  intro j
  by_cases hj : j < n
  · by_cases e : i = j
    · subst e
      simp [hj, Array.getElem?_setIfInBounds]
    · simp [hj, Array.getElem?_setIfInBounds, e, Ne.symm e]
  · simp [hj, Array.getElem?_setIfInBounds]
theorem IArr.set_ {w : World} {g n : Nat} {F : Nat → Int} (h : IArr w g n F) (i : Nat) (v : Int) : IArr (w.setCell ⟨g, i, none⟩ (.int .i64 v)) g n fun d => if d = i then v else F d := by
  unfold IArr at h ⊢
  rw [← intsC_set]
  simp [World.setCell, Array.getElem?_modify, h]
theorem IArr.below {w w' : World} {g n : Nat} {F : Nat → Int} (h : IArr w g n F) (hb : Below w.heap.size w w') : IArr w' g n F := (hb.block g (lt_of_block h)).trans h
theorem IArr.congr {w : World} {g n : Nat} {F G : Nat → Int} (h : IArr w g n F) (e : ∀ d, F d = G d) : IArr w g n G := by
  have : F = G := funext e
  rw [← this]
  exact h
theorem IArr.rd {w : World} {g n : Nat} {F : Nat → Int} (h : IArr w g n F) (hn : n ≤ 9223372036854775807) : Rd IntAt 1 (g + 1) w (.slice (some ⟨g, 0, none⟩) n n) ((List.range n).map F) := by
  refine ⟨some ⟨g, 0, none⟩, n, by simp, by simp, hn, fun i x hx => ⟨_, rfl, Nat.lt_succ_self g, ?_⟩⟩
  rw [List.getElem?_map] at hx
  obtain ⟨j, hj, rfl⟩ := Option.map_eq_some_iff.1 hx
  have hj2 : i < n := by
    have := (List.getElem?_eq_some_iff.1 hj).1
    simpa using this
  rw [List.getElem?_range hj2] at hj
  injection hj with hj
  subst hj
  have hadd : (⟨g, 0, none⟩ : Addr).add (i * 1) = ⟨g, i, none⟩ := by unfold Addr.add; split <;> simp_all
  unfold IntAt
  rw [hadd]
  exact h.cell hj2

theorem make_ints (n : Nat) (hn : n ≤ 1000) (w : World) : (Instr.makeSlice 22 (.int .i64 n) (.int .i64 n)).run Try.prog w = .ok (.slice (some ⟨w.heap.size, 0, none⟩) n n) (w.alloc (.cells (intsC n fun _ => 0) 3)) := by
  obtain ⟨i, hi, hi2⟩ := Option.map_eq_some_iff.1 (show (Try.prog.info? 3).map (fun i => (i.size, i.bytes, i.zero)) = some (1, 8, some (.int .i64 0)) by kernel_rfl)
  simp only [Prod.mk.injEq] at hi2
  obtain ⟨hsize, hby, hz⟩ := hi2
  have ht : Try.prog.underlying 22 = some (.slice 3) := by kernel_rfl
  have e : madeCells (Value.int .i64 0).cells n = intsC n fun _ => 0 := by
    apply Array.ext'
    rw [show (Value.int .i64 0).cells = #[.int .i64 0] from rfl, toList_madeCells_one]
    simp only [intsC]
    apply List.ext_getElem?
    intro j
    by_cases hj : j < n <;> simp [hj]
  have h := run_make (P := Try.prog) w 22 3 i (.int .i64 0) ht hi hz .i64 .i64 n n (by omega) (Int.le_refl _) (by rw [hby]; omega) (by omega)
  rw [hsize, Int.toNat_natCast, Nat.mul_one, e] at h
  exact h

theorem KeepM.cellN {g : Nat} {w w' : World} (h : KeepM g w w') {a : Addr} {v : Value} (hc : w.cell? a = some v) (hne : a.block ≠ g) : w'.cell? a = some v := by
  rw [World.cell?_of_block (h.block a.block (cell_lt hc) hne)]
  exact hc
theorem KeepM.setAt {g : Nat} {w A : World} (h : KeepM g w A) (i : Nat) (v : Value) : KeepM g w (A.setCell ⟨g, i, none⟩ v) :=
  ⟨h.os, h.tape, h.output, by simpa [World.setCell] using h.size, fun k hk hn => by rw [Below.heap_setCell _ _ _ _ (by simpa using hn)]; exact h.block k hk hn⟩
theorem KeepM.alloc {g : Nat} {w A : World} (h : KeepM g w A) (o : Obj) : KeepM g w (A.alloc o) := h.trans (.of_below ((Below.refl _ _).alloc (Nat.le_refl _) _))
theorem KeepM.drewN {g : Nat} {w A : World} (h : KeepM g w A) (n : Nat) : KeepM g w (A.drewN n) := h.trans (.of_below (below_drewN (Below.refl _ _) n))
theorem Rd.keepG {α : Type} {At : World → Addr → α → Prop} [AtKeep At] {sz B g : Nat} {w w' : World} {v : Value} {xs : List α} (h : Rd At sz B w v xs) (k : KeepM g w w') (hB : B ≤ w.heap.size) (hs : B ≤ g ∨ SlFrom (g + 1) v) : Rd At sz B w' v xs := by
  rcases hs with hs | hs
  · exact h.below (k.below hB hs)
  · obtain ⟨A, cap, e, h1, h2, h3⟩ := h
    refine ⟨A, cap, e, h1, h2, fun i x hx => ?_⟩
    obtain ⟨ad, e2, hb, ha⟩ := h3 i x hx
    refine ⟨ad, e2, hb, AtKeep.keep w w' _ x (fun p hp => ?_) ha⟩
    rw [block_add] at hp
    have := hs ad _ _ (by rw [e, e2])
    exact World.cell?_of_block (k.block p.block (by omega) (by omega))
end Go.Proofs.Ytkmaapkbonkjfaa
