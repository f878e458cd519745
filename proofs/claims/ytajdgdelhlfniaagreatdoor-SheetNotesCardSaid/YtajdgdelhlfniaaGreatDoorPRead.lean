/- Walks of the layer sheet: what a note says; its error. -/
import Derived.Test.YtajdgdelhlfniaaGreatDoorGChkA
import Derived.IntWalk
import Derived.WalkKit
import Derived.Deep.Quiet
set_option linter.unusedSimpArgs false
set_option linter.unusedVariables false
namespace Go.Proofs.YtajdgdelhlfniaaGreatDoor
open Go.RowKit

theorem read_is (x : NoteR) (w : World) (k : Int) (T : TypeId) (hk : x.kind = k) (hT : (k = 1 ∧ T = 131) ∨ (k = 2 ∧ T = 132) ∨ (k = 3 ∧ T = 159) ∨ (k = 4 ∧ T = 133)) :
    Calls Tryz.prog 92 #[noteV x] w fun e w' => e = .returned (.iface T (noteV x)) ∧ Below w.heap.size w w' := by
  obtain ⟨W1, hW1, r1, z1, b1⟩ := box_any w #[.int .i64 x.kind, .int .i64 x.a, .int .i64 x.b, .int .i64 x.lo, .int .i64 x.hi] 69
  have c0 := cellOf r1 0 rfl
  have c1 := cellOf r1 1 rfl
  have c2 := cellOf r1 2 rfl
  have c3 := cellOf r1 3 rfl
  have c4 := cellOf r1 4 rfl
  obtain ⟨kind, a, b, lo, hi⟩ := x
  unfold noteV
  simp only at *
  subst hk
  rcases hT with ⟨rfl, rfl⟩ | ⟨rfl, rfl⟩ | ⟨rfl, rfl⟩ | ⟨rfl, rfl⟩
  all_goals
    go_enter Tryz.func92, Tryz.ntmps92
    go_upto_region 1 with (fail)
    rw [← hW1]
    clear hW1
    go_wp2
    go_ret
    exact ⟨rfl, b1⟩
theorem read_no (x : NoteR) (w : World) (hk : inB x.kind 1 4 = false) :
    Calls Tryz.prog 92 #[noteV x] w fun e w' => e = .returned .nilIface ∧ Below w.heap.size w w' := by
  obtain ⟨W1, hW1, r1, z1, b1⟩ := box_any w #[.int .i64 x.kind, .int .i64 x.a, .int .i64 x.b, .int .i64 x.lo, .int .i64 x.hi] 69
  have c0 := cellOf r1 0 rfl
  obtain ⟨kind, a, b, lo, hi⟩ := x
  unfold noteV
  simp only at *
  have hk := inB_false.1 hk
  have h1 : (kind == 1) = false := by simp; omega
  have h2 : (kind == 2) = false := by simp; omega
  have h3 : (kind == 3) = false := by simp; omega
  have h4 : (kind == 4) = false := by simp; omega
  go_enter Tryz.func92, Tryz.ntmps92
  go_upto_region 1 with (fail)
  rw [← hW1]
  clear hW1 hk
  go_wp2
  go_ret
  exact ⟨rfl, b1⟩

/-- two numbers that are laid for a call -/
theorem Rd.two (w : World) (a b : Int) : Rd IntAt 1 (w.heap.size + 1) (w.alloc (.cells #[.int .i64 a, .int .i64 b] 3)) (.slice (some ⟨w.heap.size, 0, none⟩) 2 2) [a, b] := by
  refine ⟨_, _, rfl, by simp, by omega, fun i y hy => ?_⟩
  match i, hy with
  | 0, hy =>
    simp at hy
    subst hy
    exact ⟨_, rfl, by simp, (cell_of_row _ _ 0 _ _ _ (heap_alloc_new w _)).trans rfl⟩
  | 1, hy =>
    simp at hy
    subst hy
    exact ⟨_, rfl, by simp, (cell_of_row _ _ 1 _ _ _ (heap_alloc_new w _)).trans rfl⟩
theorem out2_any (lo hi a b : Int) (w : World) :
    Calls Tryz.prog 56 #[.int .i64 lo, .int .i64 hi, .slice (some ⟨w.heap.size, 0, none⟩) 2 2] (w.alloc (.cells #[.int .i64 a, .int .i64 b] 3)) fun e w' => e = .returned (.bool (outB lo hi [a, b])) ∧ Below w.heap.size w w' :=
  (out_any lo hi (Rd.two w a b) (by simp)).mono fun _ _ ⟨h1, h2⟩ => ⟨h1, ((Below.refl _ _).alloc (Nat.le_refl _) _).trans (h2.mono (by simp))⟩
theorem out1n_any (lo hi a : Int) (w : World) :
    Calls Tryz.prog 56 #[.int .i64 lo, .int .i64 hi, .slice (some ⟨w.heap.size, 0, none⟩) 1 1] (w.alloc (.cells #[.int .i64 a] 3)) fun e w' => e = .returned (.bool (outB lo hi [a])) ∧ Below w.heap.size w w' :=
  (out_any lo hi (Rd.one w a) (by simp)).mono fun _ _ ⟨h1, h2⟩ => ⟨h1, ((Below.refl _ _).alloc (Nat.le_refl _) _).trans (h2.mono (by simp))⟩

theorem about180 (x : NoteR) (w : World) : Calls Tryz.prog 180 #[noteV x] w fun e w' => e = .returned (.int .i64 1) ∧ Below w.heap.size w w' := by
  unfold noteV
  go_enter Tryz.func180, Tryz.ntmps180
  go_wp2
  go_ret
  exact ⟨rfl, (Below.refl _ _).alloc (Nat.le_refl _) _⟩
theorem about181 (x : NoteR) (w : World) : Calls Tryz.prog 181 #[noteV x] w fun e w' => e = .returned (.int .i64 1) ∧ Below w.heap.size w w' := by
  unfold noteV
  go_enter Tryz.func181, Tryz.ntmps181
  go_wp2
  go_ret
  exact ⟨rfl, (Below.refl _ _).alloc (Nat.le_refl _) _⟩
theorem about184 (x : NoteR) (w : World) : Calls Tryz.prog 184 #[noteV x] w fun e w' => e = .returned (.int .i64 2) ∧ Below w.heap.size w w' := by
  unfold noteV
  go_enter Tryz.func184, Tryz.ntmps184
  go_wp2
  go_ret
  exact ⟨rfl, (Below.refl _ _).alloc (Nat.le_refl _) _⟩
theorem about182 (x : NoteR) (w : World) : Calls Tryz.prog 182 #[noteV x] w fun e w' => e = .returned (.int .i64 2) ∧ Below w.heap.size w w' := by
  unfold noteV
  go_enter Tryz.func182, Tryz.ntmps182
  go_wp2
  go_ret
  exact ⟨rfl, (Below.refl _ _).alloc (Nat.le_refl _) _⟩

theorem outB_two (lo hi a b : Int) : outB lo hi [a, b] = true ↔ inB a lo hi = false ∨ inB b lo hi = false := by
  simp [outB, inB]
  omega
theorem outB_two_no {lo hi a b : Int} : outB lo hi [a, b] = false ↔ inB a lo hi = true ∧ inB b lo hi = true := by
  rw [Bool.eq_false_iff, ne_eq, outB_two]
  simp
/-- the error of a note, as the program finds it -/
theorem noteErr_p {np : Nat} {iv : Int} {x : NoteR} {l h m : Int} (hk : inB x.kind 1 4 = true) (ho : outB 0 ((np : Int) - 1) [x.a, x.b] = false)
    (harg : ¬ (((x.kind = 3 ∨ x.kind = 4) ∧ x.a = x.b) ∨ (¬ (x.kind = 3 ∨ x.kind = 4) ∧ x.b ≠ 0)))
    (hl : (x.kind = 1 ∧ l = 0 ∧ h = 9000 ∧ m = 0) ∨ (x.kind = 2 ∧ l = 0 ∧ h = 9000 / iv ∧ m = 1) ∨ (x.kind = 3 ∧ l = 0 ∧ h = 0 ∧ m = 0) ∨ (x.kind = 4 ∧ l = -9000 ∧ h = 9000 ∧ m = 0)) :
    noteErr np iv x = if outB l h [x.lo, x.hi] = true then 7 else if x.hi < x.lo + m then 2 else 0 := by
  obtain ⟨ha, hb⟩ := outB_two_no.1 ho
  unfold noteErr
  rw [if_neg (by simp [hk]), if_neg (by simp [ha, hb]), if_neg harg]
  simp only [outB_two]
  rcases hl with ⟨k, rfl, rfl, rfl⟩ | ⟨k, rfl, rfl, rfl⟩ | ⟨k, rfl, rfl, rfl⟩ | ⟨k, rfl, rfl, rfl⟩
  · simp [k, rangeErr]
  · simp only [k, rangeErr]
    by_cases h1 : inB x.lo 0 (9000 / iv) = false ∨ inB x.hi 0 (9000 / iv) = false
    · simp [h1]
    · by_cases h2 : x.hi < x.lo
      · have h3 : x.hi < x.lo + 1 := by omega
        simp [h1, h2, h3]
      · by_cases h4 : x.lo = x.hi
        · have h3 : x.hi < x.lo + 1 := by omega
          simp only [if_neg h1, if_neg h2]
          simp [h4]
          omega
        · have h3 : ¬ x.hi < x.lo + 1 := by omega
          simp [h1, h2, h3, h4]
  · simp [k, rangeErr]
  · simp [k, rangeErr]
end Go.Proofs.YtajdgdelhlfniaaGreatDoor
