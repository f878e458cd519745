/- Walks of the layer sheet: the law's with. -/
import Derived.Test.YtajdgdelhlfniaaGreatDoorH34
import Derived.Test.YtajdgdelhlfniaaGreatDoorH31
import Derived.Lib.SmallJoins
set_option linter.unusedSimpArgs false
set_option linter.unusedVariables false
namespace Go.Proofs.YtajdgdelhlfniaaGreatDoor
open Go.RowKit

def own49 (k : Nat) : Bool := k == 0 || k == 3 || k == 5 || k == 6
def con49 (k : Nat) : Nat := if k = 0 then 3 else if k = 3 then 6 else if k = 5 then 6 else 8
def xs49 (l : List NoteR) (x : NoteR) (k : Nat) : List NoteR := if k = 0 then [] else if k = 3 then l else if k = 5 then [x] else l ++ [x]
def rd49 (k : Nat) : Bool := k == 1 || k == 2 || k == 4 || k == 7
structure WiI (W : World) (a : Nat) (l : List NoteR) (x : NoteR) (val : Nat → Value) (L : Nat → Bool) (vs : Nat → Value) (X : World) : Prop where
  go : L 8 = false → GO W.heap.size 69 W (lv own49 con49 L) (xs49 l x) vs X
  rd : ∀ k, rd49 k = true → L k = true → vs k = val k
  st : L 8 = true → ∃ X0, Below W.heap.size W X0 ∧ Own W.heap.size 69 X0 (vs 6) (l ++ [x]) ∧ X = X0.setCell ⟨a, 2, none⟩ (vs 6)
/-- a sheet of few enough notes for memory -/
def Small (s : ShR) : Prop := s.notes.length * 40 ≤ 140737488351232

set_option maxRecDepth 100000 in
set_option maxHeartbeats 1000000 in
theorem lwith_any {B : Nat} {w : World} {v : Value} {s : ShR} (x : NoteR) (hs : RdSh B w v s) (hsm : Small s) (hB : B ≤ w.heap.size) :
    Calls Tryz.prog 49 #[v, noteV x] w fun e w' => ∃ v', e = .returned v' ∧ RdSh w'.heap.size w' v' (withS s x) ∧ Below w.heap.size w w' := by
  obtain ⟨vp, vn, rfl, hp, hno⟩ := hs
  obtain ⟨A, c, rfl, _⟩ := id hno
  obtain ⟨Ap, cp, rfl, _⟩ := id hp
  obtain ⟨W1, hW1, r1, z1, b1⟩ := box_any w #[.int .i64 s.iv, .slice Ap s.pts.length cp, .slice A s.notes.length c] 25
  obtain ⟨W2, hW2, r2, z2, b2⟩ := box_any W1 #[.int .i64 x.kind, .int .i64 x.a, .int .i64 x.b, .int .i64 x.lo, .int .i64 x.hi] 69
  obtain ⟨W3, hW3, r3, z3, b3⟩ := box_any W2 #[.int .i64 0, .slice none 0 0, .slice none 0 0] 25
  have b12 := b1.trans (b2.mono b1.size)
  have b123 := b12.trans (b3.mono b12.size)
  have q1 := (b3.block _ (by omega)).trans ((b2.block _ (by omega)).trans r1)
  have q2 := (b3.block _ (by omega)).trans r2
  rw [z1] at q2
  rw [z2, z1] at r3
  have C2 := Lib.hid (cellOf q1 2 (v := .slice A s.notes.length c) rfl)
  have D0 := Lib.hid (cellOf q2 0 (v := .int .i64 x.kind) rfl)
  have D1 := Lib.hid (cellOf q2 1 (v := .int .i64 x.a) rfl)
  have D2 := Lib.hid (cellOf q2 2 (v := .int .i64 x.b) rfl)
  have D3 := Lib.hid (cellOf q2 3 (v := .int .i64 x.lo) rfl)
  have D4 := Lib.hid (cellOf q2 4 (v := .int .i64 x.hi) rfl)
  have R1 := Lib.hid q1
  have R3 := Lib.hid (show W3.heap[w.heap.size + 2]? = some (.cells #[.int .i64 0, .slice none 0 0, .slice none 0 0] 25) from r3)
  have HB := Lib.hid b123
  have HSm := Lib.hid hsm
  have HP := Lib.hid (fun (X : World) (h : Below W3.heap.size W3 X) => hp.below ((b123.trans (h.mono b123.size)).mono hB))
  have HR := Lib.hid (fun (X : World) (h : Below W3.heap.size W3 X) => hno.below ((b123.trans (h.mono b123.size)).mono hB))
  have HZ := Lib.hid (show W3.heap.size = w.heap.size + 3 by omega)
  unfold Small at HSm
  clear r1 r2 r3 z1 z2 z3 b1 b2 b3 b12 b123 q1 q2 hp hno hsm
  unfold noteV
  go_enter Tryz.func49, Tryz.ntmps49
  go_upto_region 1 with (fail)
  rw [← hW1, ← hW2, ← hW3]
  clear hW1 hW2 hW3
  refine wp_region_ghost (WiI W3 w.heap.size s.notes x (fun k => if k = 1 ∨ k = 7 then .pointer (some ⟨w.heap.size, 2, none⟩) else if k = 2 then .slice A s.notes.length c else noteV x)) (by kernel_rfl) (by kernel_rfl) ?_ ?_ ?_
  · exact ⟨fun _ => ⟨(Below.refl _ _).drew, Nat.le_refl _, fun k h => (by cases h.2.1), fun j k h => (by cases h.2.1)⟩, fun _ _ h => (by cases h), fun h => (by cases h)⟩
  · refine ⟨?_, ?_, ?_, ?_, ?_, ?_, ?_, ?_, ?_, trivial⟩
    all_goals
      intro L vs X b hL hw hcl hI hf
    · have n8 : L 8 = false := not_yet hcl 8 hL rfl (by kernel_rfl)
      have hG := hI.go n8
      have hb := hG.bel
      refine wp_of_run (run_exec_bs 23 0 #[] rfl (vs := #[]) rfl (run_bsN0 X)) ?_
      exact ⟨fun _ => hG.lit (i := 0) (n := 0) rfl (by omega) rfl, rd_step hI.rd (fun h => by cases h), fun h => absurd (n8.symm.trans h) (by simp)⟩
    · have n8 : L 8 = false := not_yet hcl 8 hL rfl (by kernel_rfl)
      have hG := hI.go n8
      have hb := hG.bel
      have e2 := hf.old 2 (by kernel_rfl)
      refine wp_of_run (v := .pointer (some ⟨w.heap.size, 2, none⟩)) (w' := X) (by unfold execOp; go_simp) ?_
      exact ⟨fun _ => hG.skip rfl _, rd_step hI.rd (fun _ => rfl), fun h => absurd (n8.symm.trans h) (by simp)⟩
    · have n8 : L 8 = false := not_yet hcl 8 hL rfl (by kernel_rfl)
      have hG := hI.go n8
      have hb := hG.bel
      have h1 : L 1 = true := done_of hw 1 (by kernel_rfl)
      have e6 : b.tmps[6]?.getD undef = .pointer (some ⟨w.heap.size, 2, none⟩) := (hf.new 1 6 rfl h1 (by simp)).trans (hI.rd 1 rfl h1)
      have a0 := (hb.cell (cell_lt C2.out)).trans C2.out
      refine wp_of_run (v := .slice A s.notes.length c) (w' := X) (by unfold execOp; go_simp) ?_
      exact ⟨fun _ => hG.skip rfl _, rd_step hI.rd (fun _ => rfl), fun h => absurd (n8.symm.trans h) (by simp)⟩
    · have n8 : L 8 = false := not_yet hcl 8 hL rfl (by kernel_rfl)
      have hG := hI.go n8
      have hb := hG.bel
      have h0 : L 0 = true := done_of hw 0 (by kernel_rfl)
      have e5 : b.tmps[5]?.getD undef = vs 0 := hf.new 0 5 rfl h0 (by simp)
      have h2 : L 2 = true := done_of hw 2 (by kernel_rfl)
      have e7 : b.tmps[7]?.getD undef = .slice A s.notes.length c := (hf.new 2 7 rfl h2 (by simp)).trans (hI.rd 2 rfl h2)
      have n3 : lv own49 con49 L 0 := ⟨rfl, h0, hL⟩
      obtain ⟨v', X', hrun, ho, hg, hv⟩ := append_notes2 rfl (hG.own 0 n3) (HR.out X hb) (by show (0 + s.notes.length) * 40 ≤ _; have := HSm.out; omega) hG.le
      refine wp_of_run (run_exec_append (.tmp 5) (.tmp 7) 23 rfl (eval_tmp e5) (eval_tmp e7) hrun) ?_
      exact ⟨fun _ => hG.app n3 rfl ho hg hv, rd_step hI.rd (fun h => by cases h), fun h => absurd (n8.symm.trans h) (by simp)⟩
    · have n8 : L 8 = false := not_yet hcl 8 hL rfl (by kernel_rfl)
      have hG := hI.go n8
      have hb := hG.bel
      have e3 := hf.old 3 (by kernel_rfl)
      have d0 := (hb.cell (cell_lt D0.out)).trans D0.out
      have d1 := (hb.cell (cell_lt D1.out)).trans D1.out
      have d2 := (hb.cell (cell_lt D2.out)).trans D2.out
      have d3 := (hb.cell (cell_lt D3.out)).trans D3.out
      have d4 := (hb.cell (cell_lt D4.out)).trans D4.out
      refine wp_of_run (v := noteV x) (w' := X) (by unfold execOp noteV; go_simp) ?_
      exact ⟨fun _ => hG.skip rfl _, rd_step hI.rd (fun _ => rfl), fun h => absurd (n8.symm.trans h) (by simp)⟩
    · have n8 : L 8 = false := not_yet hcl 8 hL rfl (by kernel_rfl)
      have hG := hI.go n8
      have hb := hG.bel
      have h4 : L 4 = true := done_of hw 4 (by kernel_rfl)
      have e9 : b.tmps[9]?.getD undef = noteV x := (hf.new 4 9 rfl h4 (by simp)).trans (hI.rd 4 rfl h4)
      refine wp_of_run (run_exec_bs 23 1 _ rfl (vs := #[(0, noteV x)]) (by simp [eval_tmp e9]) (run_bsN1 x X)) ?_
      exact ⟨fun _ => hG.lit (i := 5) (n := 1) rfl (by omega) rfl, rd_step hI.rd (fun h => by cases h), fun h => absurd (n8.symm.trans h) (by simp)⟩
    · have n8 : L 8 = false := not_yet hcl 8 hL rfl (by kernel_rfl)
      have hG := hI.go n8
      have hb := hG.bel
      have h3 : L 3 = true := done_of hw 3 (by kernel_rfl)
      have e8 : b.tmps[8]?.getD undef = vs 3 := hf.new 3 8 rfl h3 (by simp)
      have h5 : L 5 = true := done_of hw 5 (by kernel_rfl)
      have e10 : b.tmps[10]?.getD undef = vs 5 := hf.new 5 10 rfl h5 (by simp)
      have n3 : lv own49 con49 L 3 := ⟨rfl, h3, hL⟩
      have n5 : lv own49 con49 L 5 := ⟨rfl, h5, hL⟩
      have hr5 := (hG.own 5 n5).rd
      obtain ⟨A5, c5, e5, _, _⟩ := (hG.own 5 n5).form
      rw [e5] at hr5 e10
      obtain ⟨v', X', hrun, ho, hg, hv⟩ := append_notes2 rfl (hG.own 3 n3) hr5 (by show (s.notes.length + 1) * 40 ≤ _; have := HSm.out; omega) hG.le
      refine wp_of_run (run_exec_append (.tmp 8) (.tmp 10) 23 rfl (eval_tmp e8) (eval_tmp e10) hrun) ?_
      exact ⟨fun _ => hG.app n3 rfl ho hg hv, rd_step hI.rd (fun h => by cases h), fun h => absurd (n8.symm.trans h) (by simp)⟩
    · have n8 : L 8 = false := not_yet hcl 8 hL rfl (by kernel_rfl)
      have hG := hI.go n8
      have hb := hG.bel
      have e2 := hf.old 2 (by kernel_rfl)
      refine wp_of_run (v := .pointer (some ⟨w.heap.size, 2, none⟩)) (w' := X) (by unfold execOp; go_simp) ?_
      exact ⟨fun _ => hG.skip rfl _, rd_step hI.rd (fun _ => rfl), fun h => absurd (n8.symm.trans h) (by simp)⟩
    · have h6 : L 6 = true := done_of hw 6 (by kernel_rfl)
      have e11 : b.tmps[11]?.getD undef = vs 6 := hf.new 6 11 rfl h6 (by simp)
      have h7 : L 7 = true := done_of hw 7 (by kernel_rfl)
      have e12 : b.tmps[12]?.getD undef = .pointer (some ⟨w.heap.size, 2, none⟩) := (hf.new 7 12 rfl h7 (by simp)).trans (hI.rd 7 rfl h7)
      have hG := hI.go hL
      have hb := hG.bel
      have n6 : lv own49 con49 L 6 := ⟨rfl, h6, hL⟩
      have ho := hG.own 6 n6
      have rx := (hb.block _ (lt_of_block R1.out)).trans R1.out
      have q0 := cellOf rx 2 rfl
      have fx : X.frozen? ⟨w.heap.size, 2, none⟩ = false := by simp [World.frozen?, rx]
      obtain ⟨A6, c6, q6, _, _⟩ := ho.form
      rw [q6] at e11
      refine wp_of_skip (w' := X.setCell ⟨w.heap.size, 2, none⟩ (.slice A6 (xs49 s.notes x 6).length c6)) (by unfold execOp; go_simp) ?_
      exact ⟨fun h => (by cases h), rd_step hI.rd (fun h => by cases h), fun _ => ⟨X, hb, ho, by rw [← q6]; rfl⟩⟩
  · intro vs X hI
    obtain ⟨X0, hb, ho, rfl⟩ := hI.st rfl
    obtain ⟨A6, c6, q6, _, _⟩ := ho.form
    have rx := (hb.block _ (lt_of_block R1.out)).trans R1.out
    have k1 : (X0.setCell ⟨w.heap.size, 2, none⟩ (vs 6)).heap[w.heap.size]? = some (.cells #[.int .i64 s.iv, .slice Ap s.pts.length cp, vs 6] 25) := (Joins.block_setCell rx _).trans rfl
    have k3 : (X0.setCell ⟨w.heap.size, 2, none⟩ (vs 6)).heap[w.heap.size + 2]? = some (.cells #[.int .i64 0, .slice none 0 0, .slice none 0 0] 25) := (Below.heap_setCell _ _ _ _ (by show w.heap.size + 2 ≠ w.heap.size; omega)).trans ((hb.block _ (lt_of_block R3.out)).trans R3.out)
    have hbY : Below w.heap.size w (X0.setCell ⟨w.heap.size, 2, none⟩ (vs 6)) := (HB.out.trans (hb.mono HB.out.size)).setCell (Nat.le_refl _) _
    have hoY := ho.other (p := ⟨w.heap.size, 2, none⟩) (by show w.heap.size < W3.heap.size; rw [HZ.out]; omega) (vs 6)
    have hpY : Rd StrAt 1 B (X0.setCell ⟨w.heap.size, 2, none⟩ (vs 6)) (.slice Ap s.pts.length cp) s.pts := (HP.out X0 hb).setCell hB _
    clear hI ho hb rx
    simp [fill, slotOf, Act.put]
    simp only [Exit.inBlock, Exit.then]
    rw [q6] at *
    clear q6
    generalize (s.notes ++ [x]).length = n6 at *
    generalize X0.setCell ⟨w.heap.size, 2, none⟩ (.slice A6 n6 c6) = Y at *
    generalize vs 0 = u0
    generalize vs 1 = u1
    generalize vs 2 = u2
    generalize vs 3 = u3
    generalize vs 4 = u4
    generalize vs 5 = u5
    generalize vs 7 = u7
    generalize vs 8 = u8
    have K1 := Lib.hid k1
    have K3 := Lib.hid k3
    have HY := Lib.hid hbY
    have HO := Lib.hid hoY
    have HPY := Lib.hid hpY
    have p0 := cellOf k1 0 rfl
    have p1 := cellOf k1 1 rfl
    have p2 := cellOf k1 2 rfl
    clear k1 k3 hbY hoY hpY
    go_wp2_with (refine wpList_store_row rfl 25 (.tmp 4) (.tmp 13) rfl (w.heap.size + 2) #[.int .i64 s.iv, .slice Ap s.pts.length cp, .slice A6 n6 c6] rfl rfl 25 _ K3.out (by kernel_rfl) rfl (by simp [Value.oneCell']) ?_)
    have k4 := setRow_heap Y (w.heap.size + 2) _ #[.int .i64 s.iv, .slice Ap s.pts.length cp, .slice A6 n6 c6] 25 (0, 0) K3.out
    have hfin : Below w.heap.size w (Y.setRow (w.heap.size + 2) #[.int .i64 s.iv, .slice Ap s.pts.length cp, .slice A6 n6 c6]) := HY.out.trans (setRow_below _ (by omega))
    refine bodyPost_ret (v := .agg #[.int .i64 s.iv, .slice Ap s.pts.length cp, .slice A6 n6 c6]) (results_cell_row rfl _ _ (w.heap.size + 2) 25 #[.int .i64 s.iv, .slice Ap s.pts.length cp, .slice A6 n6 c6] (0, 0) _ rfl k4 Tryz.underlying25 rfl (by kernel_rfl)) rfl ⟨_, rfl, ⟨_, _, rfl, ?_, ?_⟩, hfin⟩
    · exact (HPY.out.keep fun p hp => World.cell?_of_block (setRow_other _ _ _ _ (by omega))).mono (Nat.le_trans hB hfin.size)
    · refine (Own.keepD HO.out fun b cs f hb hh => (setRow_other _ _ _ _ (by rw [HZ.out] at hb; omega)).trans hh).rd
end Go.Proofs.YtajdgdelhlfniaaGreatDoor
