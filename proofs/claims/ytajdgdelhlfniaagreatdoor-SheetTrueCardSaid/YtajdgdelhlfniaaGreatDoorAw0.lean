/- Walks of the layer sheet: what Awake asks, call by call. -/
import Derived.Test.YtajdgdelhlfniaaGreatDoorFitL
import Derived.Test.YtajdgdelhlfniaaGreatDoorTxt4
set_option linter.unusedSimpArgs false
set_option linter.unusedVariables false
namespace Go.Proofs.YtajdgdelhlfniaaGreatDoor
open Go.RowKit

def topL (p : Nat) : Nat → List Int → List Int × Bool
  | 0, l => (l, true)
  | k + 1, l => match topL p k l with
    | (l', true) => (bindL p k 0 l', bindLB p k 0 l')
    | (l', false) => (l', false)
theorem rep_top {m : Mat} {l : List Int} {p : Nat} (h : Rep m l) (hp : p < 9) : ∀ k, k ≤ 9 → Rep (topM m p k).1 (topL p k l).1 ∧ (topM m p k).2 = (topL p k l).2 := by
  intro k
  induction k with
  | zero => intro _; exact ⟨h, rfl⟩
  | succ k ih =>
    intro hk
    obtain ⟨r, e⟩ := ih (by omega)
    unfold topM topL
    rw [e]
    split
    · rename_i ht
      split
      · rename_i hw
        rw [hw] at r
        exact rep_bind r hp (by omega)
      · rename_i hw; rw [hw] at ht; cases ht
    · rename_i ht
      split
      · rename_i hw; rw [hw] at ht; exact absurd rfl ht
      · rename_i hw; rw [hw] at r; exact ⟨r, rfl⟩
theorem openS_all (l : List NoteR) (h : errOf (sheetX l) = 0) : openM (sheetX l) = (allM 100 0 (sheetX l).notes freeM).1 := by unfold openM; rw [if_neg (by simp [h])]; rfl
def bS : List Int := (allL 100 0 (sheetX []).notes freeL).1
theorem high_at {m : Mat} {l : List Int} {n p : Nat} (h : Rep m l) (hp : p < 9) (hn : n ≤ 9) : highB m n p = (topL p n l).2 := (rep_top h hp n hn).2
theorem higS_l : ((topL 0 4 bS).2, (topL 1 4 bS).2, (topL 2 4 bS).2, (topL 3 4 bS).2) = (true, false, false, false) := by kernel_rfl
theorem higS : highestF (sheetX []) = [0] := by
  unfold highestF
  rw [if_neg (by simp [openS]), openS_all [] errS]
  have h := (rep_all (iv := 100) (wd := 0) rep_free ptS).1
  have e := higS_l
  simp only [Prod.mk.injEq] at e
  obtain ⟨e0, e1, e2, e3⟩ := e
  unfold highL
  rw [show (sheetX []).pts.length = 4 from rfl, show List.range 4 = [0, 1, 2, 3] from rfl]
  have f0 : highB (allM 100 0 (sheetX []).notes freeM).1 4 0 = true := (high_at h (by omega) (by omega)).trans e0
  have f1 : highB (allM 100 0 (sheetX []).notes freeM).1 4 1 = false := (high_at h (by omega) (by omega)).trans e1
  have f2 : highB (allM 100 0 (sheetX []).notes freeM).1 4 2 = false := (high_at h (by omega) (by omega)).trans e2
  have f3 : highB (allM 100 0 (sheetX []).notes freeM).1 4 3 = false := (high_at h (by omega) (by omega)).trans e3
  simp [List.filter, f0, f1, f2, f3]

/-- the three sheets of Awake, each in its box -/
structure AwS (w0 : World) (B g : Nat) (p1 n1 p2 n2 p3 n3 : Value) (W : World) : Prop where
  r1 : W.heap[g]? = some (.cells #[.int .i64 100, p1, n1] 25)
  r2 : W.heap[g + 1]? = some (.cells #[.int .i64 100, p2, n2] 25)
  r3 : W.heap[g + 2]? = some (.cells #[.int .i64 100, p3, n3] 25)
  s1 : RdSh B W (.agg #[.int .i64 100, p1, n1]) (sheetX [])
  s2 : RdSh B W (.agg #[.int .i64 100, p2, n2]) (sheetX [gnX])
  s3 : RdSh B W (.agg #[.int .i64 100, p3, n3]) (sheetX [stX])
  hB : B ≤ W.heap.size
  below : Below w0.heap.size w0 W
  gl : Glob W
theorem AwS.next {w0 W W' : World} {B g : Nat} {p1 n1 p2 n2 p3 n3 : Value} (h : AwS w0 B g p1 n1 p2 n2 p3 n3 W) (hb : Below W.heap.size W W') : AwS w0 B g p1 n1 p2 n2 p3 n3 W' :=
  ⟨(hb.block _ (lt_of_block h.r1)).trans h.r1, (hb.block _ (lt_of_block h.r2)).trans h.r2, (hb.block _ (lt_of_block h.r3)).trans h.r3, h.s1.below (hb.mono h.hB), h.s2.below (hb.mono h.hB), h.s3.below (hb.mono h.hB), Nat.le_trans h.hB hb.size, h.below.trans (hb.mono h.below.size), h.gl.below hb⟩
theorem AwS.cells {w0 W : World} {B g : Nat} {p1 n1 p2 n2 p3 n3 : Value} (h : AwS w0 B g p1 n1 p2 n2 p3 n3 W) : (W.cell? ⟨g, 0, none⟩ = some (.int .i64 100) ∧ W.cell? ⟨g, 1, none⟩ = some p1 ∧ W.cell? ⟨g, 2, none⟩ = some n1) ∧
    (W.cell? ⟨g + 1, 0, none⟩ = some (.int .i64 100) ∧ W.cell? ⟨g + 1, 1, none⟩ = some p2 ∧ W.cell? ⟨g + 1, 2, none⟩ = some n2) ∧ (W.cell? ⟨g + 2, 0, none⟩ = some (.int .i64 100) ∧ W.cell? ⟨g + 2, 1, none⟩ = some p3 ∧ W.cell? ⟨g + 2, 2, none⟩ = some n3) :=
  ⟨⟨cellOf h.r1 0 rfl, cellOf h.r1 1 rfl, cellOf h.r1 2 rfl⟩, ⟨cellOf h.r2 0 rfl, cellOf h.r2 1 rfl, cellOf h.r2 2 rfl⟩, cellOf h.r3 0 rfl, cellOf h.r3 1 rfl, cellOf h.r3 2 rfl⟩
theorem rdsh_form {B : Nat} {w : World} {v : Value} {s : ShR} (h : RdSh B w v s) : ∃ A c A' c', v = .agg #[.int .i64 s.iv, .slice A s.pts.length c, .slice A' s.notes.length c'] := by
  obtain ⟨vp, vn, rfl, ⟨A, c, rfl, _⟩, ⟨A', c', rfl, _⟩⟩ := h
  exact ⟨A, c, A', c', rfl⟩
theorem named_X (l : List NoteR) : Named (sheetX l) := by
  intro p hp
  simp only [sheetX, List.mem_cons, List.not_mem_nil, or_false] at hp
  rcases hp with rfl | rfl | rfl | rfl <;> decide

theorem sheet_nil (w : World) : Calls Tryz.prog 42 #[.slice none 0 0] w fun e w' => ∃ A c D d, e = .returned (.agg #[.int .i64 100, .slice A 4 c, .slice D 4 d]) ∧ RdSh w'.heap.size w' (.agg #[.int .i64 100, .slice A 4 c, .slice D 4 d]) (sheetX []) ∧ Below w.heap.size w w' := by
  refine (sheet_any (w := w) (B := w.heap.size) (l := []) (A := none) (c := 0) (Rd.nil _ _) (Nat.le_refl _) (by simp)).mono ?_
  rintro e w1 ⟨v1, rfl, hs1, hb1⟩
  obtain ⟨A, c, D, d, rfl⟩ := rdsh_form hs1
  exact ⟨A, c, D, d, rfl, hs1, hb1⟩
theorem sheet_one {w : World} {g : Nat} {x : NoteR} (h : Rd NoteAt 5 w.heap.size w (.slice (some ⟨g, 0, none⟩) 1 1) [x]) : Calls Tryz.prog 42 #[.slice (some ⟨g, 0, none⟩) 1 1] w fun e w' => ∃ A c D d, e = .returned (.agg #[.int .i64 100, .slice A 4 c, .slice D 5 d]) ∧ RdSh w'.heap.size w' (.agg #[.int .i64 100, .slice A 4 c, .slice D 5 d]) (sheetX [x]) ∧ Below w.heap.size w w' := by
  refine (sheet_any (w := w) (l := [x]) h (Nat.le_refl _) (by simp)).mono ?_
  rintro e w1 ⟨v1, rfl, hs1, hb1⟩
  obtain ⟨A, c, D, d, rfl⟩ := rdsh_form hs1
  exact ⟨A, c, D, d, rfl, hs1, hb1⟩

section
variable {w0 W : World} {B g : Nat} {p1 n1 p2 n2 p3 n3 : Value} (h : AwS w0 B g p1 n1 p2 n2 p3 n3 W)
include h
theorem aw_fitS : Calls Tryz.prog 21 #[.agg #[.int .i64 100, p1, n1]] W fun e w' => e = .returned (.tuple #[.bool true, .int .i64 0]) ∧ Below W.heap.size W w' := by
  have := fits_any h.s1 (named_X []) h.hB
  rwa [fitS, errS] at this
theorem aw_fitB : Calls Tryz.prog 21 #[.agg #[.int .i64 100, p3, n3]] W fun e w' => e = .returned (.tuple #[.bool false, .int .i64 0]) ∧ Below W.heap.size W w' := by
  have := fits_any h.s3 (named_X [stX]) h.hB
  rwa [fitB, errB] at this
theorem aw_heiT : Calls Tryz.prog 23 #[.agg #[.int .i64 100, p2, n2]] W fun e w' => ∃ A c, e = .returned (.tuple #[.slice A 4 c, .int .i64 0]) ∧ Rd SpanAt 2 w'.heap.size w' (.slice A 4 c) [(1180, 1200), (900, 940), (910, 950), (900, 940)] ∧ Below W.heap.size W w' := by
  refine (heights_any h.s2 (named_X [gnX]) h.hB).mono ?_
  rintro e w' ⟨A, c, rfl, ho, hb⟩
  rw [heiT] at ho ⊢
  rw [openT]
  exact ⟨A, c, rfl, ho.rd, hb⟩
theorem aw_heiB : Calls Tryz.prog 23 #[.agg #[.int .i64 100, p3, n3]] W fun e w' => ∃ A c, e = .returned (.tuple #[.slice A 0 c, .int .i64 9]) ∧ Below W.heap.size W w' := by
  refine (heights_any h.s3 (named_X [stX]) h.hB).mono ?_
  rintro e w' ⟨A, c, rfl, ho, hb⟩
  rw [heiB, openB]
  exact ⟨A, c, rfl, hb⟩
theorem aw_apaT : Calls Tryz.prog 26 #[.agg #[.int .i64 100, p2, n2], .int .i64 2, .int .i64 1] W fun e w' => e = .returned (.tuple #[.agg #[.int .i64 10, .int .i64 40], .int .i64 2, .int .i64 0]) ∧ Below W.heap.size W w' := by
  have := apart_any 2 1 h.s2 (named_X [gnX]) h.hB
  rw [apaT] at this
  exact this
theorem aw_higS : Calls Tryz.prog 28 #[.agg #[.int .i64 100, p1, n1]] W fun e w' => ∃ A c, e = .returned (.tuple #[.slice A 1 c, .int .i64 0]) ∧ Rd IntAt 1 w'.heap.size w' (.slice A 1 c) [0] ∧ Below W.heap.size W w' := by
  refine (highest_any h.s1 (named_X []) h.hB).mono ?_
  rintro e w' ⟨A, c, rfl, ho, hb⟩
  rw [higS] at ho ⊢
  rw [openS]
  exact ⟨A, c, rfl, ho.rd, hb⟩
theorem aw_proB : Calls Tryz.prog 31 #[.agg #[.int .i64 100, p3, n3]] W fun e w' => ∃ A c, e = .returned (.tuple #[.slice A 3 c, .int .i64 0]) ∧ Rd IntAt 1 w'.heap.size w' (.slice A 3 c) [0, 1, 4] ∧ Below W.heap.size W w' := by
  refine (proof_any h.s3 (named_X [stX]) h.hB).mono ?_
  rintro e w' ⟨A, c, rfl, ho, hb⟩
  rw [proB] at ho ⊢
  rw [proEB]
  exact ⟨A, c, rfl, ho.rd, hb⟩
theorem aw_proS : Calls Tryz.prog 31 #[.agg #[.int .i64 100, p1, n1]] W fun e w' => ∃ A c, e = .returned (.tuple #[.slice A 0 c, .int .i64 4]) ∧ Below W.heap.size W w' := by
  refine (proof_any h.s1 (named_X []) h.hB).mono ?_
  rintro e w' ⟨A, c, rfl, ho, hb⟩
  rw [proS, proES]
  exact ⟨A, c, rfl, hb⟩
theorem aw_wroB : Calls Tryz.prog 33 #[.agg #[.int .i64 100, p3, n3]] W fun e w' => ∃ A c, e = .returned (.tuple #[.slice A 1 c, .int .i64 0]) ∧ Rd IntAt 1 w'.heap.size w' (.slice A 1 c) [0] ∧ Below W.heap.size W w' := by
  refine (wrong_any h.s3 (named_X [stX]) h.hB).mono ?_
  rintro e w' ⟨A, c, rfl, ho, hb⟩
  rw [wroB] at ho ⊢
  rw [errB]
  exact ⟨A, c, rfl, ho.rd, hb⟩
theorem aw_widB : Calls Tryz.prog 35 #[.agg #[.int .i64 100, p3, n3]] W fun e w' => e = .returned (.tuple #[.int .i64 60, .int .i64 0]) ∧ Below W.heap.size W w' := by
  refine (wider_any h.s3 (named_X [stX]) h.hB).mono ?_
  rintro e w' ⟨n, rfl, _, hw, hb⟩
  rw [widB (hw errB), errB]
  exact ⟨rfl, hb⟩
theorem aw_wriS : Calls Tryz.prog 37 #[.agg #[.int .i64 100, p1, n1]] W fun e w' => e = .returned (.tuple #[.string textX, .int .i64 0]) ∧ Below W.heap.size W w' := by
  have := write_any h.s1 (named_X []) h.hB h.gl
  rwa [wriS, errS] at this
theorem aw_reaS : Calls Tryz.prog 39 #[.string textX] W fun e w' => ∃ A c D d, e = .returned (.tuple #[.agg #[.int .i64 100, .slice A 4 c, .slice D 4 d], .int .i64 0]) ∧ RdSh w'.heap.size w' (.agg #[.int .i64 100, .slice A 4 c, .slice D 4 d]) (sheetX []) ∧ Below W.heap.size W w' := by
  refine (read_any (t := textX) (by rw [show textX.size = 126 by kernel_rfl]; omega) h.gl).mono ?_
  rintro e w' ⟨v, rfl, hr, hb⟩
  rw [reaS] at hr ⊢
  obtain ⟨A, c, D, d, rfl⟩ := rdsh_form hr
  exact ⟨A, c, D, d, rfl, hr, hb⟩
end
theorem alloc_below {w w' : World} {o : Obj} (h : Below (w.alloc o).heap.size (w.alloc o) w') : Below w.heap.size w w' := ((Below.refl _ _).alloc (Nat.le_refl _) _).trans (h.mono (by simp))
theorem ints_at {w : World} {A : Option Addr} {m c : Nat} {l : List Int} (h : Rd IntAt 1 w.heap.size w (.slice A m c) l) {cs : Array Value} {n : Nat} (hcs : (l.flatMap (Enc.enc (α := Int))).toArray = cs) (hn : l.length = n) (hy : l.length ≤ 1000) :
    Calls Tryz.prog 30 #[.slice A m c, .slice (some ⟨w.heap.size, 0, none⟩) n n] (w.alloc (.cells cs 3)) fun e w' => e = .returned (.bool true) ∧ Below w.heap.size w w' := by
  subst hcs hn
  have hl := (own_lit (α := Int) (w := w.alloc (.cells (l.flatMap (Enc.enc (α := Int))).toArray 3)) (b := w.heap.size) (e := 3) l hy (heap_alloc_new w _)).rd
  refine (ints_any (h.alloc (Nat.le_refl _) _) hl (by omega)).mono ?_
  rintro e w' ⟨rfl, hq⟩
  exact ⟨by simp, alloc_below (hq.below _)⟩
theorem spans_at {w : World} {A : Option Addr} {m c : Nat} {l : List (Int × Int)} (h : Rd SpanAt 2 w.heap.size w (.slice A m c) l) {cs : Array Value} {n : Nat} (hcs : (l.flatMap (Enc.enc (α := Int × Int))).toArray = cs) (hn : l.length = n) (hy : l.length ≤ 1000) :
    Calls Tryz.prog 25 #[.slice A m c, .slice (some ⟨w.heap.size, 0, none⟩) n n] (w.alloc (.cells cs 40)) fun e w' => e = .returned (.bool true) ∧ Below w.heap.size w w' := by
  subst hcs hn
  have hl := (own_lit (α := Int × Int) (w := w.alloc (.cells (l.flatMap (Enc.enc (α := Int × Int))).toArray 40)) (b := w.heap.size) (e := 40) l hy (heap_alloc_new w _)).rd
  refine (spans_any (h.alloc (Nat.le_refl _) _) hl (by omega)).mono ?_
  rintro e w' ⟨rfl, hq⟩
  exact ⟨by simp, alloc_below (hq.below _)⟩
theorem aw_same {w0 W : World} {B g : Nat} {p1 n1 p2 n2 p3 n3 v : Value} (h : AwS w0 B g p1 n1 p2 n2 p3 n3 W) (h2 : RdSh W.heap.size W v (sheetX [])) : Calls Tryz.prog 41 #[v, .agg #[.int .i64 100, p1, n1]] W fun e w' => e = .returned (.bool true) ∧ Below W.heap.size W w' := by
  refine (same_any h2 h.s1 (Nat.le_refl _) h.hB (by simp [sheetX]) (by simp [sheetX])).mono ?_
  rintro e w' ⟨rfl, hb⟩
  exact ⟨retB (decide_eq_true (eqS_iff.2 rfl)), hb⟩
theorem aw_nameY (w : World) : Calls Tryz.prog 18 #[.string ⟨#[97, 45, 57]⟩] w fun e w' => e = .returned (.bool true) ∧ Below w.heap.size w w' := name_any _ w (by decide)
theorem aw_nameN (w : World) : Calls Tryz.prog 18 #[.string ⟨#[57, 97]⟩] w fun e w' => e = .returned (.bool false) ∧ Below w.heap.size w w' := name_any _ w (by decide)
end Go.Proofs.YtajdgdelhlfniaaGreatDoor
