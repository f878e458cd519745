/- Walks of the reference of the layer sheet: row, of a note. -/
import Derived.Test.YtajdgdelhlfniaaGreatDoorH36
set_option linter.unusedSimpArgs false
set_option linter.unusedVariables false
namespace Go.Proofs.YtajdgdelhlfniaaGreatDoor
open Go.RowKit

set_option maxRecDepth 100000 in
set_option maxHeartbeats 4000000 in
theorem row_wSpot_good {B Bw : Nat} {w : World} {Ap An : Option Addr} {cp cn gw cw : Nat} {s : ShR} {ws : List ByteArray} (h : RowIn B Bw w Ap An cp cn gw cw s ws) (hx : wd ws 0 = wSpot) (hlen : ws.length = 4) : Calls Tryz.prog 88 #[.agg #[.int .i64 s.iv, .slice Ap s.pts.length cp, .slice An s.notes.length cn], .slice (some ⟨gw, 0, none⟩) ws.length cw] w fun e w' => RowQ s ws w e w' := by
  have hl : 3 ≤ ws.length := by omega
  have hin := Lib.hid h
  obtain ⟨vp', vn', ehs, hp, hno⟩ := h.sh
  have hB := h.hB
  have hone := h.one
  simp at ehs
  obtain ⟨rfl, rfl⟩ := ehs
  have hcw : ws.length ≤ cw := by obtain ⟨A0, c0, e0, h1, _⟩ := h.wsr; cases e0; exact h1
  obtain ⟨W1, hW1, r1, z1, b1⟩ := box_any w #[.int .i64 s.iv, .slice Ap s.pts.length cp, .slice An s.notes.length cn] 25
  obtain ⟨W2, hW2, r2, z2, b2⟩ := box_any W1 #[.int .i64 0, .slice none 0 0, .slice none 0 0] 25
  have b12 := b1.trans (b2.mono b1.size)
  have q1 := (b2.block _ (by omega)).trans r1
  rw [z1] at r2
  have HBY := Lib.hid b12
  have HZ := Lib.hid (show W2.heap.size = w.heap.size + 2 by omega)
  have HC : Hid (∀ Z : World, Below W2.heap.size W2 Z → Z.cell? ⟨w.heap.size, 0, none⟩ = some (.int .i64 s.iv) ∧ Z.cell? ⟨w.heap.size, 1, none⟩ = some (.slice Ap s.pts.length cp) ∧ Z.cell? ⟨w.heap.size, 2, none⟩ = some (.slice An s.notes.length cn) ∧
      Z.heap[w.heap.size]? = some (.cells #[.int .i64 s.iv, .slice Ap s.pts.length cp, .slice An s.notes.length cn] 25) ∧ Z.heap[w.heap.size + 1]? = some (.cells #[.int .i64 0, .slice none 0 0, .slice none 0 0] 25) ∧ Below w.heap.size w Z) :=
    Lib.hid fun Z h => by
      have j1 := (h.block _ (lt_of_block q1)).trans q1
      have j2 := (h.block _ (lt_of_block r2)).trans r2
      exact ⟨cellOf j1 0 rfl, cellOf j1 1 rfl, cellOf j1 2 rfl, j1, j2, HBY.out.trans (h.mono HBY.out.size)⟩
  have HW : Hid (∀ (Z : World), Below w.heap.size w Z → ∀ i, i < ws.length → Z.cell? ⟨gw, i, none⟩ = some (.string (wd ws i))) := Lib.hid fun Z hZ i hi => word_at (hin.out.wsr.below (hZ.mono hin.out.hBw)) hi
  have HPl : Hid (∀ (Z : World), Below w.heap.size w Z → ∀ x, Calls Tryz.prog 93 #[.slice Ap s.pts.length cp, .string x] Z fun e w' => e = .returned (.int .i64 (plcF s.pts x)) ∧ Z = w') := Lib.hid fun Z hZ x => (place_any x (hp.below (hZ.mono hB))).mono fun e w' ⟨h1, h2⟩ => ⟨h1, h2.symm⟩
  have HPp : Hid (∀ (Z : World), Below w.heap.size w Z → Rd StrAt 1 B Z (.slice Ap s.pts.length cp) s.pts) := Lib.hid fun Z hZ => hp.below (hZ.mono hB)
  have HNn : Hid (∀ (Z : World), Below w.heap.size w Z → Rd NoteAt 5 B Z (.slice An s.notes.length cn) s.notes) := Lib.hid fun Z hZ => hno.below (hZ.mono hB)
  have hbx : Below W2.heap.size W2 W2 := Below.refl _ _
  obtain ⟨C0, C1, C2, R1, R4, hb⟩ := HC.out _ hbx
  have X0 := HW.out _ hb 0 (by omega)
  have Hr1 := Lib.hid R1
  have Hr4 := Lib.hid R4
  clear h r1 r2 z1 z2 b1 b2 b12 q1 hp hno R1 R4
  have HR := Lib.hid (show rowF s ws = some (addN s ⟨1, plcF s.pts (wd ws 1), 0, signedF (wd ws 2), signedF (wd ws 3)⟩) by unfold rowF; rw [if_neg (fun e => by omega), if_neg (by omega), if_pos hx, if_pos hlen])
  have HX0 := Lib.hid (show ∀ (Z : World), Below w.heap.size w Z → Z.cell? ⟨gw, 0, none⟩ = some (.string ⟨#[115, 112, 111, 116]⟩) from fun Z hZ => by rw [HW.out Z hZ 0 (by omega), hx]; rfl)
  replace X0 := HX0.out _ hb
  clear hx
  have Hs1 := Lib.hid (show ∀ Z, Calls Tryz.prog 87 #[.string (wd ws 2)] Z fun e w' => e = .returned (.int .i64 (signedF (wd ws 2))) ∧ w' = Z from fun Z => (signed_any _ (wd_size hin.out _) Z).mono fun e w' ⟨h1, h2⟩ => ⟨h1, h2.symm⟩)
  have Hs2 := Lib.hid (show ∀ Z, Calls Tryz.prog 87 #[.string (wd ws 3)] Z fun e w' => e = .returned (.int .i64 (signedF (wd ws 3))) ∧ w' = Z from fun Z => (signed_any _ (wd_size hin.out _) Z).mono fun e w' ⟨h1, h2⟩ => ⟨h1, h2.symm⟩)
  have HY2 := Lib.hid (fun (Z : World) (hZ : Below w.heap.size w Z) => HW.out Z hZ 2 (by omega))
  have HY3 := Lib.hid (fun (Z : World) (hZ : Below w.heap.size w Z) => HW.out Z hZ 3 (by omega))
  have hc2 : ¬ cw = 2 := by omega
  have Hlen := Lib.hid hlen
  rw [hlen] at hl hcw ⊢
  clear hlen
  go_enter Tryz.func88, Tryz.ntmps88
  go_upto_region 1 with (fail)
  rw [← hW1, ← hW2]
  clear hW1 hW2
  go_upto_region 6 with (fail)
  have X1 := Lib.hid (HW.out _ hb 1 (by have := Hlen.out; omega))
  have HP1 := Lib.hid (show ∀ Z, Below w.heap.size w Z → Calls Tryz.prog 93 #[.slice Ap s.pts.length cp, .string (wd ws 1)] Z fun e w' => e = .returned (.int .i64 (plcF s.pts (wd ws 1))) ∧ Z = w' from fun Z hZ => HPl.out Z hZ _)
  have Hb := Lib.hid hb
  have Q1 := Lib.hid C1
  generalize plcF s.pts (wd ws 1) = pa at *
  generalize wd ws 1 = x1 at *
  have hl1 : True := trivial
  have hl2 : True := trivial
  refine wp_region_ghost (AlI W2 (fun jj => ([.pointer (some ⟨w.heap.size, 1, none⟩), .slice Ap s.pts.length cp, .slice (some ⟨gw, 0, none⟩) 4 cw, .pointer (some ⟨gw, 1, none⟩), .string x1, .int .i64 pa, .agg #[.int .i64 0, .int .i64 pa, .int .i64 0, .int .i64 0, .int .i64 0], undef, undef] : List Value).getD jj undef) 7 8 #[.int .i64 0, .int .i64 0, .int .i64 0, .int .i64 0, .int .i64 0] #[.int .i64 0, .int .i64 pa, .int .i64 0, .int .i64 0, .int .i64 0] 69) (by kernel_rfl) (by kernel_rfl) AlI.start ?_ ?_
  · refine ⟨?_, ?_, ?_, ?_, ?_, ?_, ?_, ?_, ?_, trivial⟩
    all_goals
      intro L vs X b hL hw hcl hI hf
    · have hb := hI.bel
      have e2 := hf.old 2 (by kernel_rfl)
      refine wp_of_run (v := .pointer (some ⟨w.heap.size, 1, none⟩)) (w' := X) (by unfold execOp; go_simp) ?_
      exact hI.read (by omega) (by omega) rfl
    · have hb := hI.bel
      have h0 : L 0 = true := done_of hw 0 (by kernel_rfl)
      have e33 : b.tmps[33]?.getD undef = .pointer (some ⟨w.heap.size, 1, none⟩) := (hf.new 0 33 rfl h0 (by simp)).trans (hI.vals 0 (by omega) (by omega) h0)
      have qQ1 := (hb.cell (cell_lt Q1.out)).trans Q1.out
      refine wp_of_run (v := .slice Ap s.pts.length cp) (w' := X) (by unfold execOp; go_simp) ?_
      exact hI.read (by omega) (by omega) rfl
    · have hb := hI.bel
      have e1 := hf.old 1 (by kernel_rfl)
      refine wp_of_run (v := .slice (some ⟨gw, 0, none⟩) 4 cw) (w' := X) (by unfold execOp; go_simp) ?_
      exact hI.read (by omega) (by omega) rfl
    · have hb := hI.bel
      have h2 : L 2 = true := done_of hw 2 (by kernel_rfl)
      have e35 : b.tmps[35]?.getD undef = .slice (some ⟨gw, 0, none⟩) 4 cw := (hf.new 2 35 rfl h2 (by simp)).trans (hI.vals 2 (by omega) (by omega) h2)
      refine wp_of_run (v := .pointer (some ⟨gw, 1, none⟩)) (w' := X) (by unfold execOp; go_simp) ?_
      exact hI.read (by omega) (by omega) rfl
    · have hb := hI.bel
      have h3 : L 3 = true := done_of hw 3 (by kernel_rfl)
      have e36 : b.tmps[36]?.getD undef = .pointer (some ⟨gw, 1, none⟩) := (hf.new 3 36 rfl h3 (by simp)).trans (hI.vals 3 (by omega) (by omega) h3)
      have qX1 := (hb.cell (cell_lt X1.out)).trans X1.out
      refine wp_of_run (v := .string x1) (w' := X) (by unfold execOp; go_simp) ?_
      exact hI.read (by omega) (by omega) rfl
    · have hb := hI.bel
      have h1 : L 1 = true := done_of hw 1 (by kernel_rfl)
      have e34 : b.tmps[34]?.getD undef = .slice Ap s.pts.length cp := (hf.new 1 34 rfl h1 (by simp)).trans (hI.vals 1 (by omega) (by omega) h1)
      have h4 : L 4 = true := done_of hw 4 (by kernel_rfl)
      have e37 : b.tmps[37]?.getD undef = .string x1 := (hf.new 4 37 rfl h4 (by simp)).trans (hI.vals 4 (by omega) (by omega) h4)
      refine wp_of_call (f := 93) (args := #[.slice Ap s.pts.length cp, .string x1]) (run_call_clo (.func 93) _ _ rfl (c := #[]) rfl renter93 (by simp [eval_tmp e34, eval_tmp e37])) ?_
      refine (HP1.out X (Hb.out.trans (hb.mono Hb.out.size))).mono ?_
      rintro e wz ⟨rfl, hz⟩
      subst hz
      exact ⟨_, rfl, hI.read (by omega) (by omega) rfl⟩
    · have hb := hI.bel
      have h5 : L 5 = true := done_of hw 5 (by kernel_rfl)
      have e38 : b.tmps[38]?.getD undef = .int .i64 pa := (hf.new 5 38 rfl h5 (by simp)).trans (hI.vals 5 (by omega) (by omega) h5)
      refine wp_of_run (v := .agg #[.int .i64 0, .int .i64 pa, .int .i64 0, .int .i64 0, .int .i64 0]) (w' := X) (by unfold execOp; go_simp) ?_
      exact hI.read (by omega) (by omega) rfl
    · have hb := hI.bel
      have n8 : L 8 = false := not_yet hcl 8 hL rfl (by kernel_rfl)
      refine wp_of_run (v := .pointer (some ⟨X.heap.size, 0, none⟩)) (w' := X.alloc (.cells #[.int .i64 0, .int .i64 0, .int .i64 0, .int .i64 0, .int .i64 0] 69)) (by unfold execOp; go_simp) ?_
      exact hI.alloc (by omega) n8
    · have hb := hI.bel
      have h7 : L 7 = true := done_of hw 7 (by kernel_rfl)
      have e6 : b.tmps[6]?.getD undef = vs 7 := hf.new 7 6 rfl h7 (by simp)
      have h6 : L 6 = true := done_of hw 6 (by kernel_rfl)
      have e39 : b.tmps[39]?.getD undef = .agg #[.int .i64 0, .int .i64 pa, .int .i64 0, .int .i64 0, .int .i64 0] := (hf.new 6 39 rfl h6 (by simp)).trans (hI.vals 6 (by omega) (by omega) h6)
      obtain ⟨g, q7, hg, hx⟩ := hI.unstored h7 hL
      rw [q7] at e6
      refine wp_store_row 69 (.tmp 6) (.tmp 39) rfl g #[.int .i64 0, .int .i64 pa, .int .i64 0, .int .i64 0, .int .i64 0] (eval_tmp e6) (eval_tmp e39) 69 _ hx (by kernel_rfl) rfl (by simp [Value.oneCell']) ?_
      exact ⟨_, rfl, hI.store (by omega) q7 hg hx⟩
  · intro vs X hI
    obtain ⟨gx, e6, hgx, rx⟩ := hI.al rfl
    replace rx : X.heap[gx]? = some (.cells #[.int .i64 0, .int .i64 pa, .int .i64 0, .int .i64 0, .int .i64 0] 69) := rx
    have hbX := hI.bel
    clear hI
    simp [fill, slotOf, Act.put]
    simp only [Exit.inBlock, Exit.then]
    rw [e6]
    clear e6
    generalize vs 0 = yg0
    generalize vs 1 = yg1
    generalize vs 2 = yg2
    generalize vs 3 = yg3
    generalize vs 4 = yg4
    generalize vs 5 = yg5
    generalize vs 6 = yg6
    generalize vs 7 = yg7
    generalize vs 8 = yg8
    obtain ⟨wx, rfl⟩ : ∃ wx : World, wx = X := ⟨_, rfl⟩
    replace hbx := hbx.trans (hbX.mono hbx.size)
    clear C0 C1 C2 hb X0 hbX Q1 HP1 Hb X1
    obtain ⟨C0, C1, C2, R1, R4, hb⟩ := HC.out _ hbx
    have X0 := HX0.out _ hb
    have Hr4x := Lib.hid R4
    have Hr1x := Lib.hid R1
    clear R1 R4
    have fz : wx.frozen? ⟨gx, 0, none⟩ = false := by simp [World.frozen?, rx]
    have gz := cellOf rx 0 rfl
    go_upto_region 21 with (fail)
    obtain ⟨Y, hY⟩ : ∃ Y, Y = wx.setCell ⟨gx, 0, none⟩ (.int .i64 1) := ⟨_, rfl⟩
    rw [← hY]
    have rY : Y.heap[gx]? = some (.cells #[.int .i64 1, .int .i64 pa, .int .i64 0, .int .i64 0, .int .i64 0] 69) := by rw [hY]; exact (heap_setCell_row rx _).trans rfl
    replace hbx : Below W2.heap.size W2 Y := by rw [hY]; exact hbx.setCell hgx _
    clear hY C0 C1 C2 hb X0
    obtain ⟨C0, C1, C2, R1, R4, hb⟩ := HC.out _ hbx
    have X0 := HX0.out _ hb
    have Hr4Y := Lib.hid R4
    have Hr1Y := Lib.hid R1
    clear R1 R4
    clear fz gz rx
    have Y2 := HY2.out _ hb
    have Y3 := HY3.out _ hb
    clear HY2 HY3
    generalize signedF (wd ws 2) = slo at *
    generalize signedF (wd ws 3) = shi at *
    generalize wd ws 2 = y2 at *
    generalize wd ws 3 = y3 at *
    go_upto_region 24 with (fail)
    have f2 := Aft.cell Y2
    have f3 := Aft.cell Y3
    have RY := Lib.hid rY
    have HBb := Lib.hid hbx
    clear Y2 Y3 rY C0 C1 C2 X0 hb hbx
    refine region_quiet_tail (C := fun w' => ∃ x : Aft Y, w' = x.1) 9 (by kernel_rfl) (by kernel_rfl) ⟨⟨Y.drew, (Below.refl _ _).drew⟩, rfl⟩ ?_
    simp only [List.take_succ_cons, List.take_zero, List.drop_succ_cons, List.drop_zero]
    repeat (first | go_big_quiet_step ((go_at_call 87; first | (with_reducible exact Aft.call_same (Hs1.out _)) | (with_reducible exact Aft.call_same (Hs2.out _)))) | quiet_step ((go_at_call 87; first | (with_reducible exact Aft.call_same (Hs1.out _)) | (with_reducible exact Aft.call_same (Hs2.out _)))))
    refine wpQuiet_nil ?_
    rintro wz ⟨⟨_, hbv⟩, rfl⟩
    have rz := (hbv.block _ (lt_of_block RY.out)).trans RY.out
    have d3 := cellOf rz 3 rfl
    have d4 := cellOf rz 4 rfl
    have z3 : wz.frozen? ⟨gx, 3, none⟩ = false := by simp [World.frozen?, rz]
    have z4 : wz.frozen? ⟨gx, 4, none⟩ = false := by simp [World.frozen?, rz]
    have HBz := Lib.hid (HBb.out.trans (hbv.mono HBb.out.size))
    have RZ := Lib.hid rz
    clear rz hbv f2 f3
    go_upto_region 25 with (fail)
    obtain ⟨Z, hZ⟩ : ∃ Z, Z = (wz.setCell ⟨gx, 3, none⟩ (.int .i64 slo)).setCell ⟨gx, 4, none⟩ (.int .i64 shi) := ⟨_, rfl⟩
    rw [← hZ]
    have rZ : Z.heap[gx]? = some (.cells #[.int .i64 1, .int .i64 pa, .int .i64 0, .int .i64 slo, .int .i64 shi] 69) := by rw [hZ]; exact (heap_setCell_row (heap_setCell_row RZ.out _) _).trans rfl
    have hbx : Below W2.heap.size W2 Z := by rw [hZ]; exact (HBz.out.setCell hgx _).setCell hgx _
    clear hZ d3 d4 z3 z4
    obtain ⟨C0, C1, C2, R1, R4, hb⟩ := HC.out _ hbx
    have X0 := HX0.out _ hb
    clear R1 R4
    obtain ⟨x, hxe⟩ : ∃ x : NoteR, x = (⟨1, pa, 0, slo, shi⟩ : NoteR) := ⟨_, rfl⟩
    have D0 := Lib.hid (show Z.cell? ⟨gx, 0, none⟩ = some (.int .i64 x.kind) by rw [hxe]; exact cellOf rZ 0 rfl)
    have D1 := Lib.hid (show Z.cell? ⟨gx, 1, none⟩ = some (.int .i64 x.a) by rw [hxe]; exact cellOf rZ 1 rfl)
    have D2 := Lib.hid (show Z.cell? ⟨gx, 2, none⟩ = some (.int .i64 x.b) by rw [hxe]; exact cellOf rZ 2 rfl)
    have D3 := Lib.hid (show Z.cell? ⟨gx, 3, none⟩ = some (.int .i64 x.lo) by rw [hxe]; exact cellOf rZ 3 rfl)
    have D4 := Lib.hid (show Z.cell? ⟨gx, 4, none⟩ = some (.int .i64 x.hi) by rw [hxe]; exact cellOf rZ 4 rfl)
    have HXe := Lib.hid hxe
    clear hxe
    have Q2 := Lib.hid C2
    have HBx := Lib.hid hbx
    have HSm := Lib.hid hin.out.nts
    have HLt := Lib.hid (show w.heap.size + 2 ≤ Z.heap.size by have := hbx.size; have := HZ.out; omega)
    clear C0 C1 C2 X0 hb hbx
    refine wp_region_ghost (WiI Z w.heap.size s.notes x (fun k => if k = 1 ∨ k = 7 then .pointer (some ⟨w.heap.size, 2, none⟩) else if k = 2 then .slice An s.notes.length cn else noteV x)) (by kernel_rfl) (by kernel_rfl) ?_ ?_ ?_
    · exact ⟨fun _ => ⟨(Below.refl _ _).drew, Nat.le_refl _, fun k h => (by cases h.2.1), fun j k h => (by cases h.2.1)⟩, fun _ _ h => (by cases h), fun h => (by cases h)⟩
    · refine ⟨?_, ?_, ?_, ?_, ?_, ?_, ?_, ?_, ?_, trivial⟩
      all_goals
        intro L vs X b hL hw hcl hI hf
      · have n8 : L 8 = false := not_yet hcl 8 hL rfl (by kernel_rfl)
        have hG := hI.go n8
        have hb := hG.bel
        refine wp_of_run (run_exec_bs 23 0 #[] rfl (vs := #[]) rfl (run_bsN0 X)) ?_
        exact ⟨fun _ => hG.lit (i := 0) (n := 0) rfl (by omega) rfl, rd_step hI.rd (fun h => by cases h), fun h => absurd (n8.symm.trans h) (by simp)⟩
      · have n8 : L 8 = false := not_yet hcl 8 hL rfl (by kernel_rfl)
        have hG := hI.go n8
        have hb := hG.bel
        have e2 := hf.old 2 (by kernel_rfl)
        refine wp_of_run (v := .pointer (some ⟨w.heap.size, 2, none⟩)) (w' := X) (by unfold execOp; go_simp) ?_
        exact ⟨fun _ => hG.skip rfl _, rd_step hI.rd (fun _ => rfl), fun h => absurd (n8.symm.trans h) (by simp)⟩
      · have n8 : L 8 = false := not_yet hcl 8 hL rfl (by kernel_rfl)
        have hG := hI.go n8
        have hb := hG.bel
        have h1 : L 1 = true := done_of hw 1 (by kernel_rfl)
        have e95 : b.tmps[95]?.getD undef = .pointer (some ⟨w.heap.size, 2, none⟩) := (hf.new 1 95 rfl h1 (by simp)).trans (hI.rd 1 rfl h1)
        have a0 := (hb.cell (cell_lt Q2.out)).trans Q2.out
        refine wp_of_run (v := .slice An s.notes.length cn) (w' := X) (by unfold execOp; go_simp) ?_
        exact ⟨fun _ => hG.skip rfl _, rd_step hI.rd (fun _ => rfl), fun h => absurd (n8.symm.trans h) (by simp)⟩
      · have n8 : L 8 = false := not_yet hcl 8 hL rfl (by kernel_rfl)
        have hG := hI.go n8
        have hb := hG.bel
        have h0 : L 0 = true := done_of hw 0 (by kernel_rfl)
        have e94 : b.tmps[94]?.getD undef = vs 0 := hf.new 0 94 rfl h0 (by simp)
        have h2 : L 2 = true := done_of hw 2 (by kernel_rfl)
        have e96 : b.tmps[96]?.getD undef = .slice An s.notes.length cn := (hf.new 2 96 rfl h2 (by simp)).trans (hI.rd 2 rfl h2)
        have n3 : lv own49 con49 L 0 := ⟨rfl, h0, hL⟩
        obtain ⟨v', X', hrun, ho, hg, hv⟩ := append_notes2 rfl (hG.own 0 n3) (HNn.out X (HBY.out.trans ((HBx.out.trans (hb.mono HBx.out.size)).mono HBY.out.size))) (by show (0 + s.notes.length) * 40 ≤ _; have := HSm.out; omega) hG.le
        refine wp_of_run (run_exec_append (.tmp 94) (.tmp 96) 23 rfl (eval_tmp e94) (eval_tmp e96) hrun) ?_
        exact ⟨fun _ => hG.app n3 rfl ho hg hv, rd_step hI.rd (fun h => by cases h), fun h => absurd (n8.symm.trans h) (by simp)⟩
      · have n8 : L 8 = false := not_yet hcl 8 hL rfl (by kernel_rfl)
        have hG := hI.go n8
        have hb := hG.bel
        have e6 := hf.old 6 (by kernel_rfl)
        have d0 := (hb.cell (cell_lt D0.out)).trans D0.out
        have d1 := (hb.cell (cell_lt D1.out)).trans D1.out
        have d2 := (hb.cell (cell_lt D2.out)).trans D2.out
        have d3 := (hb.cell (cell_lt D3.out)).trans D3.out
        have d4 := (hb.cell (cell_lt D4.out)).trans D4.out
        refine wp_of_run (v := noteV x) (w' := X) (by unfold execOp noteV; go_simp) ?_
        exact ⟨fun _ => hG.skip rfl _, rd_step hI.rd (fun _ => rfl), fun h => absurd (n8.symm.trans h) (by simp)⟩
      · have n8 : L 8 = false := not_yet hcl 8 hL rfl (by kernel_rfl)
        have hG := hI.go n8
        have hb := hG.bel
        have h4 : L 4 = true := done_of hw 4 (by kernel_rfl)
        have e98 : b.tmps[98]?.getD undef = noteV x := (hf.new 4 98 rfl h4 (by simp)).trans (hI.rd 4 rfl h4)
        refine wp_of_run (run_exec_bs 23 1 _ rfl (vs := #[(0, noteV x)]) (by simp [eval_tmp e98]) (run_bsN1 x X)) ?_
        exact ⟨fun _ => hG.lit (i := 5) (n := 1) rfl (by omega) rfl, rd_step hI.rd (fun h => by cases h), fun h => absurd (n8.symm.trans h) (by simp)⟩
      · have n8 : L 8 = false := not_yet hcl 8 hL rfl (by kernel_rfl)
        have hG := hI.go n8
        have hb := hG.bel
        have h3 : L 3 = true := done_of hw 3 (by kernel_rfl)
        have e97 : b.tmps[97]?.getD undef = vs 3 := hf.new 3 97 rfl h3 (by simp)
        have h5 : L 5 = true := done_of hw 5 (by kernel_rfl)
        have e99 : b.tmps[99]?.getD undef = vs 5 := hf.new 5 99 rfl h5 (by simp)
        have n3 : lv own49 con49 L 3 := ⟨rfl, h3, hL⟩
        have n5 : lv own49 con49 L 5 := ⟨rfl, h5, hL⟩
        have hr5 := (hG.own 5 n5).rd
        obtain ⟨A5, c5, e5, _, _⟩ := (hG.own 5 n5).form
        rw [e5] at hr5 e99
        obtain ⟨v', X', hrun, ho, hg, hv⟩ := append_notes2 rfl (hG.own 3 n3) hr5 (by show (s.notes.length + 1) * 40 ≤ _; have := HSm.out; omega) hG.le
        refine wp_of_run (run_exec_append (.tmp 97) (.tmp 99) 23 rfl (eval_tmp e97) (eval_tmp e99) hrun) ?_
        exact ⟨fun _ => hG.app n3 rfl ho hg hv, rd_step hI.rd (fun h => by cases h), fun h => absurd (n8.symm.trans h) (by simp)⟩
      · have n8 : L 8 = false := not_yet hcl 8 hL rfl (by kernel_rfl)
        have hG := hI.go n8
        have hb := hG.bel
        have e2 := hf.old 2 (by kernel_rfl)
        refine wp_of_run (v := .pointer (some ⟨w.heap.size, 2, none⟩)) (w' := X) (by unfold execOp; go_simp) ?_
        exact ⟨fun _ => hG.skip rfl _, rd_step hI.rd (fun _ => rfl), fun h => absurd (n8.symm.trans h) (by simp)⟩
      · have h6 : L 6 = true := done_of hw 6 (by kernel_rfl)
        have e100 : b.tmps[100]?.getD undef = vs 6 := hf.new 6 100 rfl h6 (by simp)
        have h7 : L 7 = true := done_of hw 7 (by kernel_rfl)
        have e101 : b.tmps[101]?.getD undef = .pointer (some ⟨w.heap.size, 2, none⟩) := (hf.new 7 101 rfl h7 (by simp)).trans (hI.rd 7 rfl h7)
        have hG := hI.go hL
        have hb := hG.bel
        have n6 : lv own49 con49 L 6 := ⟨rfl, h6, hL⟩
        have ho := hG.own 6 n6
        have rs := ((HBx.out.trans (hb.mono HBx.out.size)).block _ (lt_of_block Hr1.out)).trans Hr1.out
        have q0 := cellOf rs 2 rfl
        have fx : X.frozen? ⟨w.heap.size, 2, none⟩ = false := by simp [World.frozen?, rs]
        obtain ⟨A6, c6, q6, _, _⟩ := ho.form
        rw [q6] at e100
        refine wp_of_skip (w' := X.setCell ⟨w.heap.size, 2, none⟩ (.slice A6 (xs49 s.notes x 6).length c6)) (by unfold execOp; go_simp) ?_
        exact ⟨fun h => (by cases h), rd_step hI.rd (fun h => by cases h), fun _ => ⟨X, hb, ho, by rw [← q6]; rfl⟩⟩
    · intro vs X hI
      obtain ⟨X0, hb, ho, rfl⟩ := hI.st rfl
      obtain ⟨A6, c6, q6, _, _⟩ := ho.form
      have hbW := HBx.out.trans (hb.mono HBx.out.size)
      have rs := (hbW.block _ (lt_of_block Hr1.out)).trans Hr1.out
      have rr := (hbW.block _ (lt_of_block Hr4.out)).trans Hr4.out
      have k1 : (X0.setCell ⟨w.heap.size, 2, none⟩ (vs 6)).heap[w.heap.size]? = some (.cells #[.int .i64 s.iv, .slice Ap s.pts.length cp, vs 6] 25) := (Joins.block_setCell rs _).trans rfl
      have k3 : (X0.setCell ⟨w.heap.size, 2, none⟩ (vs 6)).heap[w.heap.size + 1]? = some (.cells #[.int .i64 0, .slice none 0 0, .slice none 0 0] 25) := (Below.heap_setCell _ _ _ _ (by show w.heap.size + 1 ≠ w.heap.size; omega)).trans rr
      have hb0 := HBY.out.trans (hbW.mono HBY.out.size)
      have hbY : Below w.heap.size w (X0.setCell ⟨w.heap.size, 2, none⟩ (vs 6)) := hb0.setCell (Nat.le_refl _) _
      have hoY := ho.other (p := ⟨w.heap.size, 2, none⟩) (by show w.heap.size < _; have := HLt.out; omega) (vs 6)
      have hpY : Rd StrAt 1 B (X0.setCell ⟨w.heap.size, 2, none⟩ (vs 6)) (.slice Ap s.pts.length cp) s.pts := (HPp.out X0 hb0).setCell hB _
      clear hI ho hb rs rr hbW hb0
      simp [fill, slotOf, Act.put]
      simp only [Exit.inBlock, Exit.then]
      rw [q6] at *
      clear q6
      generalize hn6 : (s.notes ++ [x]).length = n6 at *
      have Hn6 := Lib.hid hn6
      clear hn6
      generalize X0.setCell ⟨w.heap.size, 2, none⟩ (.slice A6 n6 c6) = Y5 at *
      generalize vs 0 = yk0
      generalize vs 1 = yk1
      generalize vs 2 = yk2
      generalize vs 3 = yk3
      generalize vs 4 = yk4
      generalize vs 5 = yk5
      generalize vs 7 = yk7
      generalize vs 8 = yk8
      have K1 := Lib.hid k1
      have K3 := Lib.hid k3
      have HY := Lib.hid hbY
      have HO := Lib.hid hoY
      have HPY := Lib.hid hpY
      have p0 := cellOf k1 0 rfl
      have p1 := cellOf k1 1 rfl
      have p2 := cellOf k1 2 rfl
      clear k1 k3 hbY hoY hpY
      go_wp2_with (refine wpList_store_row rfl 25 (.tmp 4) (.tmp 102) rfl (w.heap.size + 1) #[.int .i64 s.iv, .slice Ap s.pts.length cp, .slice A6 n6 c6] rfl rfl 25 _ K3.out (by kernel_rfl) rfl (by simp [Value.oneCell']) ?_)
      have k4 := setRow_heap Y5 (w.heap.size + 1) _ #[.int .i64 s.iv, .slice Ap s.pts.length cp, .slice A6 n6 c6] 25 (0, 0) K3.out
      have hfin : Below w.heap.size w (Y5.setRow (w.heap.size + 1) #[.int .i64 s.iv, .slice Ap s.pts.length cp, .slice A6 n6 c6]) := HY.out.trans (setRow_below _ (by omega))
      refine bodyPost_ret (results88 k4 rfl rfl) rfl (rowQ_some HR.out ⟨_, _, rfl, ?_, ?_⟩ hfin)
      · exact (HPY.out.keep fun p hp => World.cell?_of_block (setRow_other _ _ _ _ (by omega))).mono (Nat.le_trans hB hfin.size)
      · rw [← HXe.out]
        show Rd NoteAt 5 _ _ _ (s.notes ++ [x])
        exact (Own.keepD HO.out fun b cs f hb hh => (setRow_other _ _ _ _ (by have := HLt.out; omega)).trans hh).rd
set_option maxRecDepth 100000 in
set_option maxHeartbeats 4000000 in
theorem row_wContour_good {B Bw : Nat} {w : World} {Ap An : Option Addr} {cp cn gw cw : Nat} {s : ShR} {ws : List ByteArray} (h : RowIn B Bw w Ap An cp cn gw cw s ws) (hx : wd ws 0 = wContour) (hlen : ws.length = 4) : Calls Tryz.prog 88 #[.agg #[.int .i64 s.iv, .slice Ap s.pts.length cp, .slice An s.notes.length cn], .slice (some ⟨gw, 0, none⟩) ws.length cw] w fun e w' => RowQ s ws w e w' := by
  have hl : 3 ≤ ws.length := by omega
  have hin := Lib.hid h
  obtain ⟨vp', vn', ehs, hp, hno⟩ := h.sh
  have hB := h.hB
  have hone := h.one
  simp at ehs
  obtain ⟨rfl, rfl⟩ := ehs
  have hcw : ws.length ≤ cw := by obtain ⟨A0, c0, e0, h1, _⟩ := h.wsr; cases e0; exact h1
  obtain ⟨W1, hW1, r1, z1, b1⟩ := box_any w #[.int .i64 s.iv, .slice Ap s.pts.length cp, .slice An s.notes.length cn] 25
  obtain ⟨W2, hW2, r2, z2, b2⟩ := box_any W1 #[.int .i64 0, .slice none 0 0, .slice none 0 0] 25
  have b12 := b1.trans (b2.mono b1.size)
  have q1 := (b2.block _ (by omega)).trans r1
  rw [z1] at r2
  have HBY := Lib.hid b12
  have HZ := Lib.hid (show W2.heap.size = w.heap.size + 2 by omega)
  have HC : Hid (∀ Z : World, Below W2.heap.size W2 Z → Z.cell? ⟨w.heap.size, 0, none⟩ = some (.int .i64 s.iv) ∧ Z.cell? ⟨w.heap.size, 1, none⟩ = some (.slice Ap s.pts.length cp) ∧ Z.cell? ⟨w.heap.size, 2, none⟩ = some (.slice An s.notes.length cn) ∧
      Z.heap[w.heap.size]? = some (.cells #[.int .i64 s.iv, .slice Ap s.pts.length cp, .slice An s.notes.length cn] 25) ∧ Z.heap[w.heap.size + 1]? = some (.cells #[.int .i64 0, .slice none 0 0, .slice none 0 0] 25) ∧ Below w.heap.size w Z) :=
    Lib.hid fun Z h => by
      have j1 := (h.block _ (lt_of_block q1)).trans q1
      have j2 := (h.block _ (lt_of_block r2)).trans r2
      exact ⟨cellOf j1 0 rfl, cellOf j1 1 rfl, cellOf j1 2 rfl, j1, j2, HBY.out.trans (h.mono HBY.out.size)⟩
  have HW : Hid (∀ (Z : World), Below w.heap.size w Z → ∀ i, i < ws.length → Z.cell? ⟨gw, i, none⟩ = some (.string (wd ws i))) := Lib.hid fun Z hZ i hi => word_at (hin.out.wsr.below (hZ.mono hin.out.hBw)) hi
  have HPl : Hid (∀ (Z : World), Below w.heap.size w Z → ∀ x, Calls Tryz.prog 93 #[.slice Ap s.pts.length cp, .string x] Z fun e w' => e = .returned (.int .i64 (plcF s.pts x)) ∧ Z = w') := Lib.hid fun Z hZ x => (place_any x (hp.below (hZ.mono hB))).mono fun e w' ⟨h1, h2⟩ => ⟨h1, h2.symm⟩
  have HPp : Hid (∀ (Z : World), Below w.heap.size w Z → Rd StrAt 1 B Z (.slice Ap s.pts.length cp) s.pts) := Lib.hid fun Z hZ => hp.below (hZ.mono hB)
  have HNn : Hid (∀ (Z : World), Below w.heap.size w Z → Rd NoteAt 5 B Z (.slice An s.notes.length cn) s.notes) := Lib.hid fun Z hZ => hno.below (hZ.mono hB)
  have hbx : Below W2.heap.size W2 W2 := Below.refl _ _
  obtain ⟨C0, C1, C2, R1, R4, hb⟩ := HC.out _ hbx
  have X0 := HW.out _ hb 0 (by omega)
  have Hr1 := Lib.hid R1
  have Hr4 := Lib.hid R4
  clear h r1 r2 z1 z2 b1 b2 b12 q1 hp hno R1 R4
  have HR := Lib.hid (show rowF s ws = some (addN s ⟨2, plcF s.pts (wd ws 1), 0, signedF (wd ws 2), signedF (wd ws 3)⟩) by unfold rowF; rw [if_neg (fun e => by omega), if_neg (by omega), if_neg (by rw [hx]; decide), if_pos hx, if_pos hlen])
  have HX0 := Lib.hid (show ∀ (Z : World), Below w.heap.size w Z → Z.cell? ⟨gw, 0, none⟩ = some (.string ⟨#[99, 111, 110, 116, 111, 117, 114]⟩) from fun Z hZ => by rw [HW.out Z hZ 0 (by omega), hx]; rfl)
  replace X0 := HX0.out _ hb
  clear hx
  have Hs1 := Lib.hid (show ∀ Z, Calls Tryz.prog 87 #[.string (wd ws 2)] Z fun e w' => e = .returned (.int .i64 (signedF (wd ws 2))) ∧ w' = Z from fun Z => (signed_any _ (wd_size hin.out _) Z).mono fun e w' ⟨h1, h2⟩ => ⟨h1, h2.symm⟩)
  have Hs2 := Lib.hid (show ∀ Z, Calls Tryz.prog 87 #[.string (wd ws 3)] Z fun e w' => e = .returned (.int .i64 (signedF (wd ws 3))) ∧ w' = Z from fun Z => (signed_any _ (wd_size hin.out _) Z).mono fun e w' ⟨h1, h2⟩ => ⟨h1, h2.symm⟩)
  have HY2 := Lib.hid (fun (Z : World) (hZ : Below w.heap.size w Z) => HW.out Z hZ 2 (by omega))
  have HY3 := Lib.hid (fun (Z : World) (hZ : Below w.heap.size w Z) => HW.out Z hZ 3 (by omega))
  have hc2 : ¬ cw = 2 := by omega
  have Hlen := Lib.hid hlen
  rw [hlen] at hl hcw ⊢
  clear hlen
  go_enter Tryz.func88, Tryz.ntmps88
  go_upto_region 1 with (fail)
  rw [← hW1, ← hW2]
  clear hW1 hW2
  go_upto_region 6 with (fail)
  have X1 := Lib.hid (HW.out _ hb 1 (by have := Hlen.out; omega))
  have HP1 := Lib.hid (show ∀ Z, Below w.heap.size w Z → Calls Tryz.prog 93 #[.slice Ap s.pts.length cp, .string (wd ws 1)] Z fun e w' => e = .returned (.int .i64 (plcF s.pts (wd ws 1))) ∧ Z = w' from fun Z hZ => HPl.out Z hZ _)
  have Hb := Lib.hid hb
  have Q1 := Lib.hid C1
  generalize plcF s.pts (wd ws 1) = pa at *
  generalize wd ws 1 = x1 at *
  have hl1 : True := trivial
  have hl2 : True := trivial
  refine wp_region_ghost (AlI W2 (fun jj => ([.pointer (some ⟨w.heap.size, 1, none⟩), .slice Ap s.pts.length cp, .slice (some ⟨gw, 0, none⟩) 4 cw, .pointer (some ⟨gw, 1, none⟩), .string x1, .int .i64 pa, .agg #[.int .i64 0, .int .i64 pa, .int .i64 0, .int .i64 0, .int .i64 0], undef, undef] : List Value).getD jj undef) 7 8 #[.int .i64 0, .int .i64 0, .int .i64 0, .int .i64 0, .int .i64 0] #[.int .i64 0, .int .i64 pa, .int .i64 0, .int .i64 0, .int .i64 0] 69) (by kernel_rfl) (by kernel_rfl) AlI.start ?_ ?_
  · refine ⟨?_, ?_, ?_, ?_, ?_, ?_, ?_, ?_, ?_, trivial⟩
    all_goals
      intro L vs X b hL hw hcl hI hf
    · have hb := hI.bel
      have e2 := hf.old 2 (by kernel_rfl)
      refine wp_of_run (v := .pointer (some ⟨w.heap.size, 1, none⟩)) (w' := X) (by unfold execOp; go_simp) ?_
      exact hI.read (by omega) (by omega) rfl
    · have hb := hI.bel
      have h0 : L 0 = true := done_of hw 0 (by kernel_rfl)
      have e33 : b.tmps[33]?.getD undef = .pointer (some ⟨w.heap.size, 1, none⟩) := (hf.new 0 33 rfl h0 (by simp)).trans (hI.vals 0 (by omega) (by omega) h0)
      have qQ1 := (hb.cell (cell_lt Q1.out)).trans Q1.out
      refine wp_of_run (v := .slice Ap s.pts.length cp) (w' := X) (by unfold execOp; go_simp) ?_
      exact hI.read (by omega) (by omega) rfl
    · have hb := hI.bel
      have e1 := hf.old 1 (by kernel_rfl)
      refine wp_of_run (v := .slice (some ⟨gw, 0, none⟩) 4 cw) (w' := X) (by unfold execOp; go_simp) ?_
      exact hI.read (by omega) (by omega) rfl
    · have hb := hI.bel
      have h2 : L 2 = true := done_of hw 2 (by kernel_rfl)
      have e35 : b.tmps[35]?.getD undef = .slice (some ⟨gw, 0, none⟩) 4 cw := (hf.new 2 35 rfl h2 (by simp)).trans (hI.vals 2 (by omega) (by omega) h2)
      refine wp_of_run (v := .pointer (some ⟨gw, 1, none⟩)) (w' := X) (by unfold execOp; go_simp) ?_
      exact hI.read (by omega) (by omega) rfl
    · have hb := hI.bel
      have h3 : L 3 = true := done_of hw 3 (by kernel_rfl)
      have e36 : b.tmps[36]?.getD undef = .pointer (some ⟨gw, 1, none⟩) := (hf.new 3 36 rfl h3 (by simp)).trans (hI.vals 3 (by omega) (by omega) h3)
      have qX1 := (hb.cell (cell_lt X1.out)).trans X1.out
      refine wp_of_run (v := .string x1) (w' := X) (by unfold execOp; go_simp) ?_
      exact hI.read (by omega) (by omega) rfl
    · have hb := hI.bel
      have h1 : L 1 = true := done_of hw 1 (by kernel_rfl)
      have e34 : b.tmps[34]?.getD undef = .slice Ap s.pts.length cp := (hf.new 1 34 rfl h1 (by simp)).trans (hI.vals 1 (by omega) (by omega) h1)
      have h4 : L 4 = true := done_of hw 4 (by kernel_rfl)
      have e37 : b.tmps[37]?.getD undef = .string x1 := (hf.new 4 37 rfl h4 (by simp)).trans (hI.vals 4 (by omega) (by omega) h4)
      refine wp_of_call (f := 93) (args := #[.slice Ap s.pts.length cp, .string x1]) (run_call_clo (.func 93) _ _ rfl (c := #[]) rfl renter93 (by simp [eval_tmp e34, eval_tmp e37])) ?_
      refine (HP1.out X (Hb.out.trans (hb.mono Hb.out.size))).mono ?_
      rintro e wz ⟨rfl, hz⟩
      subst hz
      exact ⟨_, rfl, hI.read (by omega) (by omega) rfl⟩
    · have hb := hI.bel
      have h5 : L 5 = true := done_of hw 5 (by kernel_rfl)
      have e38 : b.tmps[38]?.getD undef = .int .i64 pa := (hf.new 5 38 rfl h5 (by simp)).trans (hI.vals 5 (by omega) (by omega) h5)
      refine wp_of_run (v := .agg #[.int .i64 0, .int .i64 pa, .int .i64 0, .int .i64 0, .int .i64 0]) (w' := X) (by unfold execOp; go_simp) ?_
      exact hI.read (by omega) (by omega) rfl
    · have hb := hI.bel
      have n8 : L 8 = false := not_yet hcl 8 hL rfl (by kernel_rfl)
      refine wp_of_run (v := .pointer (some ⟨X.heap.size, 0, none⟩)) (w' := X.alloc (.cells #[.int .i64 0, .int .i64 0, .int .i64 0, .int .i64 0, .int .i64 0] 69)) (by unfold execOp; go_simp) ?_
      exact hI.alloc (by omega) n8
    · have hb := hI.bel
      have h7 : L 7 = true := done_of hw 7 (by kernel_rfl)
      have e6 : b.tmps[6]?.getD undef = vs 7 := hf.new 7 6 rfl h7 (by simp)
      have h6 : L 6 = true := done_of hw 6 (by kernel_rfl)
      have e39 : b.tmps[39]?.getD undef = .agg #[.int .i64 0, .int .i64 pa, .int .i64 0, .int .i64 0, .int .i64 0] := (hf.new 6 39 rfl h6 (by simp)).trans (hI.vals 6 (by omega) (by omega) h6)
      obtain ⟨g, q7, hg, hx⟩ := hI.unstored h7 hL
      rw [q7] at e6
      refine wp_store_row 69 (.tmp 6) (.tmp 39) rfl g #[.int .i64 0, .int .i64 pa, .int .i64 0, .int .i64 0, .int .i64 0] (eval_tmp e6) (eval_tmp e39) 69 _ hx (by kernel_rfl) rfl (by simp [Value.oneCell']) ?_
      exact ⟨_, rfl, hI.store (by omega) q7 hg hx⟩
  · intro vs X hI
    obtain ⟨gx, e6, hgx, rx⟩ := hI.al rfl
    replace rx : X.heap[gx]? = some (.cells #[.int .i64 0, .int .i64 pa, .int .i64 0, .int .i64 0, .int .i64 0] 69) := rx
    have hbX := hI.bel
    clear hI
    simp [fill, slotOf, Act.put]
    simp only [Exit.inBlock, Exit.then]
    rw [e6]
    clear e6
    generalize vs 0 = yg0
    generalize vs 1 = yg1
    generalize vs 2 = yg2
    generalize vs 3 = yg3
    generalize vs 4 = yg4
    generalize vs 5 = yg5
    generalize vs 6 = yg6
    generalize vs 7 = yg7
    generalize vs 8 = yg8
    obtain ⟨wx, rfl⟩ : ∃ wx : World, wx = X := ⟨_, rfl⟩
    replace hbx := hbx.trans (hbX.mono hbx.size)
    clear C0 C1 C2 hb X0 hbX Q1 HP1 Hb X1
    obtain ⟨C0, C1, C2, R1, R4, hb⟩ := HC.out _ hbx
    have X0 := HX0.out _ hb
    have Hr4x := Lib.hid R4
    have Hr1x := Lib.hid R1
    clear R1 R4
    have fz : wx.frozen? ⟨gx, 0, none⟩ = false := by simp [World.frozen?, rx]
    have gz := cellOf rx 0 rfl
    go_upto_region 21 with (fail)
    obtain ⟨Y, hY⟩ : ∃ Y, Y = wx.setCell ⟨gx, 0, none⟩ (.int .i64 2) := ⟨_, rfl⟩
    rw [← hY]
    have rY : Y.heap[gx]? = some (.cells #[.int .i64 2, .int .i64 pa, .int .i64 0, .int .i64 0, .int .i64 0] 69) := by rw [hY]; exact (heap_setCell_row rx _).trans rfl
    replace hbx : Below W2.heap.size W2 Y := by rw [hY]; exact hbx.setCell hgx _
    clear hY C0 C1 C2 hb X0
    obtain ⟨C0, C1, C2, R1, R4, hb⟩ := HC.out _ hbx
    have X0 := HX0.out _ hb
    have Hr4Y := Lib.hid R4
    have Hr1Y := Lib.hid R1
    clear R1 R4
    clear fz gz rx
    have Y2 := HY2.out _ hb
    have Y3 := HY3.out _ hb
    clear HY2 HY3
    generalize signedF (wd ws 2) = slo at *
    generalize signedF (wd ws 3) = shi at *
    generalize wd ws 2 = y2 at *
    generalize wd ws 3 = y3 at *
    go_upto_region 24 with (fail)
    have f2 := Aft.cell Y2
    have f3 := Aft.cell Y3
    have RY := Lib.hid rY
    have HBb := Lib.hid hbx
    clear Y2 Y3 rY C0 C1 C2 X0 hb hbx
    refine region_quiet_tail (C := fun w' => ∃ x : Aft Y, w' = x.1) 9 (by kernel_rfl) (by kernel_rfl) ⟨⟨Y.drew, (Below.refl _ _).drew⟩, rfl⟩ ?_
    simp only [List.take_succ_cons, List.take_zero, List.drop_succ_cons, List.drop_zero]
    repeat (first | go_big_quiet_step ((go_at_call 87; first | (with_reducible exact Aft.call_same (Hs1.out _)) | (with_reducible exact Aft.call_same (Hs2.out _)))) | quiet_step ((go_at_call 87; first | (with_reducible exact Aft.call_same (Hs1.out _)) | (with_reducible exact Aft.call_same (Hs2.out _)))))
    refine wpQuiet_nil ?_
    rintro wz ⟨⟨_, hbv⟩, rfl⟩
    have rz := (hbv.block _ (lt_of_block RY.out)).trans RY.out
    have d3 := cellOf rz 3 rfl
    have d4 := cellOf rz 4 rfl
    have z3 : wz.frozen? ⟨gx, 3, none⟩ = false := by simp [World.frozen?, rz]
    have z4 : wz.frozen? ⟨gx, 4, none⟩ = false := by simp [World.frozen?, rz]
    have HBz := Lib.hid (HBb.out.trans (hbv.mono HBb.out.size))
    have RZ := Lib.hid rz
    clear rz hbv f2 f3
    go_upto_region 25 with (fail)
    obtain ⟨Z, hZ⟩ : ∃ Z, Z = (wz.setCell ⟨gx, 3, none⟩ (.int .i64 slo)).setCell ⟨gx, 4, none⟩ (.int .i64 shi) := ⟨_, rfl⟩
    rw [← hZ]
    have rZ : Z.heap[gx]? = some (.cells #[.int .i64 2, .int .i64 pa, .int .i64 0, .int .i64 slo, .int .i64 shi] 69) := by rw [hZ]; exact (heap_setCell_row (heap_setCell_row RZ.out _) _).trans rfl
    have hbx : Below W2.heap.size W2 Z := by rw [hZ]; exact (HBz.out.setCell hgx _).setCell hgx _
    clear hZ d3 d4 z3 z4
    obtain ⟨C0, C1, C2, R1, R4, hb⟩ := HC.out _ hbx
    have X0 := HX0.out _ hb
    clear R1 R4
    obtain ⟨x, hxe⟩ : ∃ x : NoteR, x = (⟨2, pa, 0, slo, shi⟩ : NoteR) := ⟨_, rfl⟩
    have D0 := Lib.hid (show Z.cell? ⟨gx, 0, none⟩ = some (.int .i64 x.kind) by rw [hxe]; exact cellOf rZ 0 rfl)
    have D1 := Lib.hid (show Z.cell? ⟨gx, 1, none⟩ = some (.int .i64 x.a) by rw [hxe]; exact cellOf rZ 1 rfl)
    have D2 := Lib.hid (show Z.cell? ⟨gx, 2, none⟩ = some (.int .i64 x.b) by rw [hxe]; exact cellOf rZ 2 rfl)
    have D3 := Lib.hid (show Z.cell? ⟨gx, 3, none⟩ = some (.int .i64 x.lo) by rw [hxe]; exact cellOf rZ 3 rfl)
    have D4 := Lib.hid (show Z.cell? ⟨gx, 4, none⟩ = some (.int .i64 x.hi) by rw [hxe]; exact cellOf rZ 4 rfl)
    have HXe := Lib.hid hxe
    clear hxe
    have Q2 := Lib.hid C2
    have HBx := Lib.hid hbx
    have HSm := Lib.hid hin.out.nts
    have HLt := Lib.hid (show w.heap.size + 2 ≤ Z.heap.size by have := hbx.size; have := HZ.out; omega)
    clear C0 C1 C2 X0 hb hbx
    refine wp_region_ghost (WiI Z w.heap.size s.notes x (fun k => if k = 1 ∨ k = 7 then .pointer (some ⟨w.heap.size, 2, none⟩) else if k = 2 then .slice An s.notes.length cn else noteV x)) (by kernel_rfl) (by kernel_rfl) ?_ ?_ ?_
    · exact ⟨fun _ => ⟨(Below.refl _ _).drew, Nat.le_refl _, fun k h => (by cases h.2.1), fun j k h => (by cases h.2.1)⟩, fun _ _ h => (by cases h), fun h => (by cases h)⟩
    · refine ⟨?_, ?_, ?_, ?_, ?_, ?_, ?_, ?_, ?_, trivial⟩
      all_goals
        intro L vs X b hL hw hcl hI hf
      · have n8 : L 8 = false := not_yet hcl 8 hL rfl (by kernel_rfl)
        have hG := hI.go n8
        have hb := hG.bel
        refine wp_of_run (run_exec_bs 23 0 #[] rfl (vs := #[]) rfl (run_bsN0 X)) ?_
        exact ⟨fun _ => hG.lit (i := 0) (n := 0) rfl (by omega) rfl, rd_step hI.rd (fun h => by cases h), fun h => absurd (n8.symm.trans h) (by simp)⟩
      · have n8 : L 8 = false := not_yet hcl 8 hL rfl (by kernel_rfl)
        have hG := hI.go n8
        have hb := hG.bel
        have e2 := hf.old 2 (by kernel_rfl)
        refine wp_of_run (v := .pointer (some ⟨w.heap.size, 2, none⟩)) (w' := X) (by unfold execOp; go_simp) ?_
        exact ⟨fun _ => hG.skip rfl _, rd_step hI.rd (fun _ => rfl), fun h => absurd (n8.symm.trans h) (by simp)⟩
      · have n8 : L 8 = false := not_yet hcl 8 hL rfl (by kernel_rfl)
        have hG := hI.go n8
        have hb := hG.bel
        have h1 : L 1 = true := done_of hw 1 (by kernel_rfl)
        have e95 : b.tmps[95]?.getD undef = .pointer (some ⟨w.heap.size, 2, none⟩) := (hf.new 1 95 rfl h1 (by simp)).trans (hI.rd 1 rfl h1)
        have a0 := (hb.cell (cell_lt Q2.out)).trans Q2.out
        refine wp_of_run (v := .slice An s.notes.length cn) (w' := X) (by unfold execOp; go_simp) ?_
        exact ⟨fun _ => hG.skip rfl _, rd_step hI.rd (fun _ => rfl), fun h => absurd (n8.symm.trans h) (by simp)⟩
      · have n8 : L 8 = false := not_yet hcl 8 hL rfl (by kernel_rfl)
        have hG := hI.go n8
        have hb := hG.bel
        have h0 : L 0 = true := done_of hw 0 (by kernel_rfl)
        have e94 : b.tmps[94]?.getD undef = vs 0 := hf.new 0 94 rfl h0 (by simp)
        have h2 : L 2 = true := done_of hw 2 (by kernel_rfl)
        have e96 : b.tmps[96]?.getD undef = .slice An s.notes.length cn := (hf.new 2 96 rfl h2 (by simp)).trans (hI.rd 2 rfl h2)
        have n3 : lv own49 con49 L 0 := ⟨rfl, h0, hL⟩
        obtain ⟨v', X', hrun, ho, hg, hv⟩ := append_notes2 rfl (hG.own 0 n3) (HNn.out X (HBY.out.trans ((HBx.out.trans (hb.mono HBx.out.size)).mono HBY.out.size))) (by show (0 + s.notes.length) * 40 ≤ _; have := HSm.out; omega) hG.le
        refine wp_of_run (run_exec_append (.tmp 94) (.tmp 96) 23 rfl (eval_tmp e94) (eval_tmp e96) hrun) ?_
        exact ⟨fun _ => hG.app n3 rfl ho hg hv, rd_step hI.rd (fun h => by cases h), fun h => absurd (n8.symm.trans h) (by simp)⟩
      · have n8 : L 8 = false := not_yet hcl 8 hL rfl (by kernel_rfl)
        have hG := hI.go n8
        have hb := hG.bel
        have e6 := hf.old 6 (by kernel_rfl)
        have d0 := (hb.cell (cell_lt D0.out)).trans D0.out
        have d1 := (hb.cell (cell_lt D1.out)).trans D1.out
        have d2 := (hb.cell (cell_lt D2.out)).trans D2.out
        have d3 := (hb.cell (cell_lt D3.out)).trans D3.out
        have d4 := (hb.cell (cell_lt D4.out)).trans D4.out
        refine wp_of_run (v := noteV x) (w' := X) (by unfold execOp noteV; go_simp) ?_
        exact ⟨fun _ => hG.skip rfl _, rd_step hI.rd (fun _ => rfl), fun h => absurd (n8.symm.trans h) (by simp)⟩
      · have n8 : L 8 = false := not_yet hcl 8 hL rfl (by kernel_rfl)
        have hG := hI.go n8
        have hb := hG.bel
        have h4 : L 4 = true := done_of hw 4 (by kernel_rfl)
        have e98 : b.tmps[98]?.getD undef = noteV x := (hf.new 4 98 rfl h4 (by simp)).trans (hI.rd 4 rfl h4)
        refine wp_of_run (run_exec_bs 23 1 _ rfl (vs := #[(0, noteV x)]) (by simp [eval_tmp e98]) (run_bsN1 x X)) ?_
        exact ⟨fun _ => hG.lit (i := 5) (n := 1) rfl (by omega) rfl, rd_step hI.rd (fun h => by cases h), fun h => absurd (n8.symm.trans h) (by simp)⟩
      · have n8 : L 8 = false := not_yet hcl 8 hL rfl (by kernel_rfl)
        have hG := hI.go n8
        have hb := hG.bel
        have h3 : L 3 = true := done_of hw 3 (by kernel_rfl)
        have e97 : b.tmps[97]?.getD undef = vs 3 := hf.new 3 97 rfl h3 (by simp)
        have h5 : L 5 = true := done_of hw 5 (by kernel_rfl)
        have e99 : b.tmps[99]?.getD undef = vs 5 := hf.new 5 99 rfl h5 (by simp)
        have n3 : lv own49 con49 L 3 := ⟨rfl, h3, hL⟩
        have n5 : lv own49 con49 L 5 := ⟨rfl, h5, hL⟩
        have hr5 := (hG.own 5 n5).rd
        obtain ⟨A5, c5, e5, _, _⟩ := (hG.own 5 n5).form
        rw [e5] at hr5 e99
        obtain ⟨v', X', hrun, ho, hg, hv⟩ := append_notes2 rfl (hG.own 3 n3) hr5 (by show (s.notes.length + 1) * 40 ≤ _; have := HSm.out; omega) hG.le
        refine wp_of_run (run_exec_append (.tmp 97) (.tmp 99) 23 rfl (eval_tmp e97) (eval_tmp e99) hrun) ?_
        exact ⟨fun _ => hG.app n3 rfl ho hg hv, rd_step hI.rd (fun h => by cases h), fun h => absurd (n8.symm.trans h) (by simp)⟩
      · have n8 : L 8 = false := not_yet hcl 8 hL rfl (by kernel_rfl)
        have hG := hI.go n8
        have hb := hG.bel
        have e2 := hf.old 2 (by kernel_rfl)
        refine wp_of_run (v := .pointer (some ⟨w.heap.size, 2, none⟩)) (w' := X) (by unfold execOp; go_simp) ?_
        exact ⟨fun _ => hG.skip rfl _, rd_step hI.rd (fun _ => rfl), fun h => absurd (n8.symm.trans h) (by simp)⟩
      · have h6 : L 6 = true := done_of hw 6 (by kernel_rfl)
        have e100 : b.tmps[100]?.getD undef = vs 6 := hf.new 6 100 rfl h6 (by simp)
        have h7 : L 7 = true := done_of hw 7 (by kernel_rfl)
        have e101 : b.tmps[101]?.getD undef = .pointer (some ⟨w.heap.size, 2, none⟩) := (hf.new 7 101 rfl h7 (by simp)).trans (hI.rd 7 rfl h7)
        have hG := hI.go hL
        have hb := hG.bel
        have n6 : lv own49 con49 L 6 := ⟨rfl, h6, hL⟩
        have ho := hG.own 6 n6
        have rs := ((HBx.out.trans (hb.mono HBx.out.size)).block _ (lt_of_block Hr1.out)).trans Hr1.out
        have q0 := cellOf rs 2 rfl
        have fx : X.frozen? ⟨w.heap.size, 2, none⟩ = false := by simp [World.frozen?, rs]
        obtain ⟨A6, c6, q6, _, _⟩ := ho.form
        rw [q6] at e100
        refine wp_of_skip (w' := X.setCell ⟨w.heap.size, 2, none⟩ (.slice A6 (xs49 s.notes x 6).length c6)) (by unfold execOp; go_simp) ?_
        exact ⟨fun h => (by cases h), rd_step hI.rd (fun h => by cases h), fun _ => ⟨X, hb, ho, by rw [← q6]; rfl⟩⟩
    · intro vs X hI
      obtain ⟨X0, hb, ho, rfl⟩ := hI.st rfl
      obtain ⟨A6, c6, q6, _, _⟩ := ho.form
      have hbW := HBx.out.trans (hb.mono HBx.out.size)
      have rs := (hbW.block _ (lt_of_block Hr1.out)).trans Hr1.out
      have rr := (hbW.block _ (lt_of_block Hr4.out)).trans Hr4.out
      have k1 : (X0.setCell ⟨w.heap.size, 2, none⟩ (vs 6)).heap[w.heap.size]? = some (.cells #[.int .i64 s.iv, .slice Ap s.pts.length cp, vs 6] 25) := (Joins.block_setCell rs _).trans rfl
      have k3 : (X0.setCell ⟨w.heap.size, 2, none⟩ (vs 6)).heap[w.heap.size + 1]? = some (.cells #[.int .i64 0, .slice none 0 0, .slice none 0 0] 25) := (Below.heap_setCell _ _ _ _ (by show w.heap.size + 1 ≠ w.heap.size; omega)).trans rr
      have hb0 := HBY.out.trans (hbW.mono HBY.out.size)
      have hbY : Below w.heap.size w (X0.setCell ⟨w.heap.size, 2, none⟩ (vs 6)) := hb0.setCell (Nat.le_refl _) _
      have hoY := ho.other (p := ⟨w.heap.size, 2, none⟩) (by show w.heap.size < _; have := HLt.out; omega) (vs 6)
      have hpY : Rd StrAt 1 B (X0.setCell ⟨w.heap.size, 2, none⟩ (vs 6)) (.slice Ap s.pts.length cp) s.pts := (HPp.out X0 hb0).setCell hB _
      clear hI ho hb rs rr hbW hb0
      simp [fill, slotOf, Act.put]
      simp only [Exit.inBlock, Exit.then]
      rw [q6] at *
      clear q6
      generalize hn6 : (s.notes ++ [x]).length = n6 at *
      have Hn6 := Lib.hid hn6
      clear hn6
      generalize X0.setCell ⟨w.heap.size, 2, none⟩ (.slice A6 n6 c6) = Y5 at *
      generalize vs 0 = yk0
      generalize vs 1 = yk1
      generalize vs 2 = yk2
      generalize vs 3 = yk3
      generalize vs 4 = yk4
      generalize vs 5 = yk5
      generalize vs 7 = yk7
      generalize vs 8 = yk8
      have K1 := Lib.hid k1
      have K3 := Lib.hid k3
      have HY := Lib.hid hbY
      have HO := Lib.hid hoY
      have HPY := Lib.hid hpY
      have p0 := cellOf k1 0 rfl
      have p1 := cellOf k1 1 rfl
      have p2 := cellOf k1 2 rfl
      clear k1 k3 hbY hoY hpY
      go_wp2_with (refine wpList_store_row rfl 25 (.tmp 4) (.tmp 102) rfl (w.heap.size + 1) #[.int .i64 s.iv, .slice Ap s.pts.length cp, .slice A6 n6 c6] rfl rfl 25 _ K3.out (by kernel_rfl) rfl (by simp [Value.oneCell']) ?_)
      have k4 := setRow_heap Y5 (w.heap.size + 1) _ #[.int .i64 s.iv, .slice Ap s.pts.length cp, .slice A6 n6 c6] 25 (0, 0) K3.out
      have hfin : Below w.heap.size w (Y5.setRow (w.heap.size + 1) #[.int .i64 s.iv, .slice Ap s.pts.length cp, .slice A6 n6 c6]) := HY.out.trans (setRow_below _ (by omega))
      refine bodyPost_ret (results88 k4 rfl rfl) rfl (rowQ_some HR.out ⟨_, _, rfl, ?_, ?_⟩ hfin)
      · exact (HPY.out.keep fun p hp => World.cell?_of_block (setRow_other _ _ _ _ (by omega))).mono (Nat.le_trans hB hfin.size)
      · rw [← HXe.out]
        show Rd NoteAt 5 _ _ _ (s.notes ++ [x])
        exact (Own.keepD HO.out fun b cs f hb hh => (setRow_other _ _ _ _ (by have := HLt.out; omega)).trans hh).rd
set_option maxRecDepth 100000 in
set_option maxHeartbeats 4000000 in
theorem row_wLake_good {B Bw : Nat} {w : World} {Ap An : Option Addr} {cp cn gw cw : Nat} {s : ShR} {ws : List ByteArray} (h : RowIn B Bw w Ap An cp cn gw cw s ws) (hx : wd ws 0 = wLake) (hlen : ws.length = 3) : Calls Tryz.prog 88 #[.agg #[.int .i64 s.iv, .slice Ap s.pts.length cp, .slice An s.notes.length cn], .slice (some ⟨gw, 0, none⟩) ws.length cw] w fun e w' => RowQ s ws w e w' := by
  have hl : 3 ≤ ws.length := by omega
  have hin := Lib.hid h
  obtain ⟨vp', vn', ehs, hp, hno⟩ := h.sh
  have hB := h.hB
  have hone := h.one
  simp at ehs
  obtain ⟨rfl, rfl⟩ := ehs
  have hcw : ws.length ≤ cw := by obtain ⟨A0, c0, e0, h1, _⟩ := h.wsr; cases e0; exact h1
  obtain ⟨W1, hW1, r1, z1, b1⟩ := box_any w #[.int .i64 s.iv, .slice Ap s.pts.length cp, .slice An s.notes.length cn] 25
  obtain ⟨W2, hW2, r2, z2, b2⟩ := box_any W1 #[.int .i64 0, .slice none 0 0, .slice none 0 0] 25
  have b12 := b1.trans (b2.mono b1.size)
  have q1 := (b2.block _ (by omega)).trans r1
  rw [z1] at r2
  have HBY := Lib.hid b12
  have HZ := Lib.hid (show W2.heap.size = w.heap.size + 2 by omega)
  have HC : Hid (∀ Z : World, Below W2.heap.size W2 Z → Z.cell? ⟨w.heap.size, 0, none⟩ = some (.int .i64 s.iv) ∧ Z.cell? ⟨w.heap.size, 1, none⟩ = some (.slice Ap s.pts.length cp) ∧ Z.cell? ⟨w.heap.size, 2, none⟩ = some (.slice An s.notes.length cn) ∧
      Z.heap[w.heap.size]? = some (.cells #[.int .i64 s.iv, .slice Ap s.pts.length cp, .slice An s.notes.length cn] 25) ∧ Z.heap[w.heap.size + 1]? = some (.cells #[.int .i64 0, .slice none 0 0, .slice none 0 0] 25) ∧ Below w.heap.size w Z) :=
    Lib.hid fun Z h => by
      have j1 := (h.block _ (lt_of_block q1)).trans q1
      have j2 := (h.block _ (lt_of_block r2)).trans r2
      exact ⟨cellOf j1 0 rfl, cellOf j1 1 rfl, cellOf j1 2 rfl, j1, j2, HBY.out.trans (h.mono HBY.out.size)⟩
  have HW : Hid (∀ (Z : World), Below w.heap.size w Z → ∀ i, i < ws.length → Z.cell? ⟨gw, i, none⟩ = some (.string (wd ws i))) := Lib.hid fun Z hZ i hi => word_at (hin.out.wsr.below (hZ.mono hin.out.hBw)) hi
  have HPl : Hid (∀ (Z : World), Below w.heap.size w Z → ∀ x, Calls Tryz.prog 93 #[.slice Ap s.pts.length cp, .string x] Z fun e w' => e = .returned (.int .i64 (plcF s.pts x)) ∧ Z = w') := Lib.hid fun Z hZ x => (place_any x (hp.below (hZ.mono hB))).mono fun e w' ⟨h1, h2⟩ => ⟨h1, h2.symm⟩
  have HPp : Hid (∀ (Z : World), Below w.heap.size w Z → Rd StrAt 1 B Z (.slice Ap s.pts.length cp) s.pts) := Lib.hid fun Z hZ => hp.below (hZ.mono hB)
  have HNn : Hid (∀ (Z : World), Below w.heap.size w Z → Rd NoteAt 5 B Z (.slice An s.notes.length cn) s.notes) := Lib.hid fun Z hZ => hno.below (hZ.mono hB)
  have hbx : Below W2.heap.size W2 W2 := Below.refl _ _
  obtain ⟨C0, C1, C2, R1, R4, hb⟩ := HC.out _ hbx
  have X0 := HW.out _ hb 0 (by omega)
  have Hr1 := Lib.hid R1
  have Hr4 := Lib.hid R4
  clear h r1 r2 z1 z2 b1 b2 b12 q1 hp hno R1 R4
  have HR := Lib.hid (show rowF s ws = some (addN s ⟨3, plcF s.pts (wd ws 1), plcF s.pts (wd ws 2), 0, 0⟩) by unfold rowF; rw [if_neg (fun e => by omega), if_neg (by omega), if_neg (by rw [hx]; decide), if_neg (by rw [hx]; decide), if_pos hx, if_pos hlen])
  have HX0 := Lib.hid (show ∀ (Z : World), Below w.heap.size w Z → Z.cell? ⟨gw, 0, none⟩ = some (.string ⟨#[108, 97, 107, 101]⟩) from fun Z hZ => by rw [HW.out Z hZ 0 (by omega), hx]; rfl)
  replace X0 := HX0.out _ hb
  clear hx
  have hc2 : ¬ cw = 2 := by omega
  have Hlen := Lib.hid hlen
  rw [hlen] at hl hcw ⊢
  clear hlen
  go_enter Tryz.func88, Tryz.ntmps88
  go_upto_region 1 with (fail)
  rw [← hW1, ← hW2]
  clear hW1 hW2
  go_upto_region 6 with (fail)
  have X1 := Lib.hid (HW.out _ hb 1 (by have := Hlen.out; omega))
  have HP1 := Lib.hid (show ∀ Z, Below w.heap.size w Z → Calls Tryz.prog 93 #[.slice Ap s.pts.length cp, .string (wd ws 1)] Z fun e w' => e = .returned (.int .i64 (plcF s.pts (wd ws 1))) ∧ Z = w' from fun Z hZ => HPl.out Z hZ _)
  have Hb := Lib.hid hb
  have Q1 := Lib.hid C1
  generalize plcF s.pts (wd ws 1) = pa at *
  generalize wd ws 1 = x1 at *
  have hl1 : True := trivial
  have hl2 : True := trivial
  refine wp_region_ghost (AlI W2 (fun jj => ([.pointer (some ⟨w.heap.size, 1, none⟩), .slice Ap s.pts.length cp, .slice (some ⟨gw, 0, none⟩) 3 cw, .pointer (some ⟨gw, 1, none⟩), .string x1, .int .i64 pa, .agg #[.int .i64 0, .int .i64 pa, .int .i64 0, .int .i64 0, .int .i64 0], undef, undef] : List Value).getD jj undef) 7 8 #[.int .i64 0, .int .i64 0, .int .i64 0, .int .i64 0, .int .i64 0] #[.int .i64 0, .int .i64 pa, .int .i64 0, .int .i64 0, .int .i64 0] 69) (by kernel_rfl) (by kernel_rfl) AlI.start ?_ ?_
  · refine ⟨?_, ?_, ?_, ?_, ?_, ?_, ?_, ?_, ?_, trivial⟩
    all_goals
      intro L vs X b hL hw hcl hI hf
    · have hb := hI.bel
      have e2 := hf.old 2 (by kernel_rfl)
      refine wp_of_run (v := .pointer (some ⟨w.heap.size, 1, none⟩)) (w' := X) (by unfold execOp; go_simp) ?_
      exact hI.read (by omega) (by omega) rfl
    · have hb := hI.bel
      have h0 : L 0 = true := done_of hw 0 (by kernel_rfl)
      have e33 : b.tmps[33]?.getD undef = .pointer (some ⟨w.heap.size, 1, none⟩) := (hf.new 0 33 rfl h0 (by simp)).trans (hI.vals 0 (by omega) (by omega) h0)
      have qQ1 := (hb.cell (cell_lt Q1.out)).trans Q1.out
      refine wp_of_run (v := .slice Ap s.pts.length cp) (w' := X) (by unfold execOp; go_simp) ?_
      exact hI.read (by omega) (by omega) rfl
    · have hb := hI.bel
      have e1 := hf.old 1 (by kernel_rfl)
      refine wp_of_run (v := .slice (some ⟨gw, 0, none⟩) 3 cw) (w' := X) (by unfold execOp; go_simp) ?_
      exact hI.read (by omega) (by omega) rfl
    · have hb := hI.bel
      have h2 : L 2 = true := done_of hw 2 (by kernel_rfl)
      have e35 : b.tmps[35]?.getD undef = .slice (some ⟨gw, 0, none⟩) 3 cw := (hf.new 2 35 rfl h2 (by simp)).trans (hI.vals 2 (by omega) (by omega) h2)
      refine wp_of_run (v := .pointer (some ⟨gw, 1, none⟩)) (w' := X) (by unfold execOp; go_simp) ?_
      exact hI.read (by omega) (by omega) rfl
    · have hb := hI.bel
      have h3 : L 3 = true := done_of hw 3 (by kernel_rfl)
      have e36 : b.tmps[36]?.getD undef = .pointer (some ⟨gw, 1, none⟩) := (hf.new 3 36 rfl h3 (by simp)).trans (hI.vals 3 (by omega) (by omega) h3)
      have qX1 := (hb.cell (cell_lt X1.out)).trans X1.out
      refine wp_of_run (v := .string x1) (w' := X) (by unfold execOp; go_simp) ?_
      exact hI.read (by omega) (by omega) rfl
    · have hb := hI.bel
      have h1 : L 1 = true := done_of hw 1 (by kernel_rfl)
      have e34 : b.tmps[34]?.getD undef = .slice Ap s.pts.length cp := (hf.new 1 34 rfl h1 (by simp)).trans (hI.vals 1 (by omega) (by omega) h1)
      have h4 : L 4 = true := done_of hw 4 (by kernel_rfl)
      have e37 : b.tmps[37]?.getD undef = .string x1 := (hf.new 4 37 rfl h4 (by simp)).trans (hI.vals 4 (by omega) (by omega) h4)
      refine wp_of_call (f := 93) (args := #[.slice Ap s.pts.length cp, .string x1]) (run_call_clo (.func 93) _ _ rfl (c := #[]) rfl renter93 (by simp [eval_tmp e34, eval_tmp e37])) ?_
      refine (HP1.out X (Hb.out.trans (hb.mono Hb.out.size))).mono ?_
      rintro e wz ⟨rfl, hz⟩
      subst hz
      exact ⟨_, rfl, hI.read (by omega) (by omega) rfl⟩
    · have hb := hI.bel
      have h5 : L 5 = true := done_of hw 5 (by kernel_rfl)
      have e38 : b.tmps[38]?.getD undef = .int .i64 pa := (hf.new 5 38 rfl h5 (by simp)).trans (hI.vals 5 (by omega) (by omega) h5)
      refine wp_of_run (v := .agg #[.int .i64 0, .int .i64 pa, .int .i64 0, .int .i64 0, .int .i64 0]) (w' := X) (by unfold execOp; go_simp) ?_
      exact hI.read (by omega) (by omega) rfl
    · have hb := hI.bel
      have n8 : L 8 = false := not_yet hcl 8 hL rfl (by kernel_rfl)
      refine wp_of_run (v := .pointer (some ⟨X.heap.size, 0, none⟩)) (w' := X.alloc (.cells #[.int .i64 0, .int .i64 0, .int .i64 0, .int .i64 0, .int .i64 0] 69)) (by unfold execOp; go_simp) ?_
      exact hI.alloc (by omega) n8
    · have hb := hI.bel
      have h7 : L 7 = true := done_of hw 7 (by kernel_rfl)
      have e6 : b.tmps[6]?.getD undef = vs 7 := hf.new 7 6 rfl h7 (by simp)
      have h6 : L 6 = true := done_of hw 6 (by kernel_rfl)
      have e39 : b.tmps[39]?.getD undef = .agg #[.int .i64 0, .int .i64 pa, .int .i64 0, .int .i64 0, .int .i64 0] := (hf.new 6 39 rfl h6 (by simp)).trans (hI.vals 6 (by omega) (by omega) h6)
      obtain ⟨g, q7, hg, hx⟩ := hI.unstored h7 hL
      rw [q7] at e6
      refine wp_store_row 69 (.tmp 6) (.tmp 39) rfl g #[.int .i64 0, .int .i64 pa, .int .i64 0, .int .i64 0, .int .i64 0] (eval_tmp e6) (eval_tmp e39) 69 _ hx (by kernel_rfl) rfl (by simp [Value.oneCell']) ?_
      exact ⟨_, rfl, hI.store (by omega) q7 hg hx⟩
  · intro vs X hI
    obtain ⟨gx, e6, hgx, rx⟩ := hI.al rfl
    replace rx : X.heap[gx]? = some (.cells #[.int .i64 0, .int .i64 pa, .int .i64 0, .int .i64 0, .int .i64 0] 69) := rx
    have hbX := hI.bel
    clear hI
    simp [fill, slotOf, Act.put]
    simp only [Exit.inBlock, Exit.then]
    rw [e6]
    clear e6
    generalize vs 0 = yg0
    generalize vs 1 = yg1
    generalize vs 2 = yg2
    generalize vs 3 = yg3
    generalize vs 4 = yg4
    generalize vs 5 = yg5
    generalize vs 6 = yg6
    generalize vs 7 = yg7
    generalize vs 8 = yg8
    obtain ⟨wx, rfl⟩ : ∃ wx : World, wx = X := ⟨_, rfl⟩
    replace hbx := hbx.trans (hbX.mono hbx.size)
    clear C0 C1 C2 hb X0 hbX Q1 HP1 Hb X1
    obtain ⟨C0, C1, C2, R1, R4, hb⟩ := HC.out _ hbx
    have X0 := HX0.out _ hb
    have Hr4x := Lib.hid R4
    have Hr1x := Lib.hid R1
    clear R1 R4
    obtain ⟨A9, hA9⟩ : ∃ A9, A9 = (if cw = 3 then (some ⟨gw, 0, none⟩ : Option Addr) else (some ⟨gw, 0, none⟩ : Option Addr).map (·.add (3 * 1))) := ⟨_, rfl⟩
    have HA9 := Lib.hid hA9
    clear hA9
    go_upto_region 9 with (fail)
    have X2 := Lib.hid (HW.out _ hb 2 (by have := Hlen.out; omega))
    have HP2 := Lib.hid (show ∀ Z, Below w.heap.size w Z → Calls Tryz.prog 93 #[.slice Ap s.pts.length cp, .string (wd ws 2)] Z fun e w' => e = .returned (.int .i64 (plcF s.pts (wd ws 2))) ∧ Z = w' from fun Z hZ => HPl.out Z hZ _)
    have Hb := Lib.hid hb
    have Q1 := Lib.hid C1
    generalize plcF s.pts (wd ws 2) = pb at *
    generalize wd ws 2 = x2 at *
    have HRx := Lib.hid rx
    have hl3 : True := trivial
    have hsl := fun X : World => run_slice_lo22 (A := some ⟨gw, 0, none⟩) (k := 3) (c := cw) (a := 3) (by omega) X
    refine wp_region_ghost (StI wx ⟨gx, 2, none⟩ (.int .i64 pb) 9 (fun jj => ([.pointer (some ⟨w.heap.size, 1, none⟩), .slice Ap s.pts.length cp, .slice (some ⟨gw, 0, none⟩) 3 cw, .pointer (some ⟨gw, 2, none⟩), .string x2, .int .i64 pb, .slice (some ⟨gw, 0, none⟩) 3 cw, .slice A9 0 (cw - 3), .pointer (some ⟨gx, 2, none⟩), undef, .slice A9 0 (cw - 3)] : List Value).getD jj undef)) (by kernel_rfl) (by kernel_rfl) StI.start ?_ ?_
    · refine ⟨?_, ?_, ?_, ?_, ?_, ?_, ?_, ?_, ?_, ?_, ?_, trivial⟩
      all_goals
        intro L vs X b hL hw hcl hI hf
      · have e2 := hf.old 2 (by kernel_rfl)
        refine wp_of_run (v := .pointer (some ⟨w.heap.size, 1, none⟩)) (w' := X) (by unfold execOp; go_simp) ?_
        exact hI.read (by omega) rfl
      · have h0 : L 0 = true := done_of hw 0 (by kernel_rfl)
        have e52 : b.tmps[52]?.getD undef = .pointer (some ⟨w.heap.size, 1, none⟩) := (hf.new 0 52 rfl h0 (by simp)).trans (hI.vals 0 (by omega) h0)
        have n9 : L 9 = false := not_yet hcl 9 hL rfl (by kernel_rfl)
        have hw0 := hI.unst n9
        subst hw0
        have q0 := ((Below.refl _ _).drew.cell (cell_lt Q1.out)).trans Q1.out
        refine wp_of_run (v := .slice Ap s.pts.length cp) (w' := World.drew wx) (by unfold execOp; go_simp) ?_
        exact hI.read (by omega) rfl
      · have e1 := hf.old 1 (by kernel_rfl)
        refine wp_of_run (v := .slice (some ⟨gw, 0, none⟩) 3 cw) (w' := X) (by unfold execOp; go_simp) ?_
        exact hI.read (by omega) rfl
      · have h2 : L 2 = true := done_of hw 2 (by kernel_rfl)
        have e54 : b.tmps[54]?.getD undef = .slice (some ⟨gw, 0, none⟩) 3 cw := (hf.new 2 54 rfl h2 (by simp)).trans (hI.vals 2 (by omega) h2)
        refine wp_of_run (v := .pointer (some ⟨gw, 2, none⟩)) (w' := X) (by unfold execOp; go_simp) ?_
        exact hI.read (by omega) rfl
      · have h3 : L 3 = true := done_of hw 3 (by kernel_rfl)
        have e55 : b.tmps[55]?.getD undef = .pointer (some ⟨gw, 2, none⟩) := (hf.new 3 55 rfl h3 (by simp)).trans (hI.vals 3 (by omega) h3)
        have n9 : L 9 = false := not_yet hcl 9 hL rfl (by kernel_rfl)
        have hw0 := hI.unst n9
        subst hw0
        have q0 := ((Below.refl _ _).drew.cell (cell_lt X2.out)).trans X2.out
        refine wp_of_run (v := .string x2) (w' := World.drew wx) (by unfold execOp; go_simp) ?_
        exact hI.read (by omega) rfl
      · have h1 : L 1 = true := done_of hw 1 (by kernel_rfl)
        have e53 : b.tmps[53]?.getD undef = .slice Ap s.pts.length cp := (hf.new 1 53 rfl h1 (by simp)).trans (hI.vals 1 (by omega) h1)
        have h4 : L 4 = true := done_of hw 4 (by kernel_rfl)
        have e56 : b.tmps[56]?.getD undef = .string x2 := (hf.new 4 56 rfl h4 (by simp)).trans (hI.vals 4 (by omega) h4)
        have n9 : L 9 = false := not_yet hcl 9 hL rfl (by kernel_rfl)
        have hw0 := hI.unst n9
        subst hw0
        refine wp_of_call (f := 93) (args := #[.slice Ap s.pts.length cp, .string x2]) (run_call_clo (.func 93) _ _ rfl (c := #[]) rfl renter93 (by simp [eval_tmp e53, eval_tmp e56])) ?_
        refine (HP2.out _ (Hb.out.trans ((Below.refl _ _).drew))).mono ?_
        rintro e wz ⟨rfl, hz⟩
        subst hz
        exact ⟨_, rfl, hI.read (by omega) rfl⟩
      · have e1 := hf.old 1 (by kernel_rfl)
        refine wp_of_run (v := .slice (some ⟨gw, 0, none⟩) 3 cw) (w' := X) (by unfold execOp; go_simp) ?_
        exact hI.read (by omega) rfl
      · have h6 : L 6 = true := done_of hw 6 (by kernel_rfl)
        have e58 : b.tmps[58]?.getD undef = .slice (some ⟨gw, 0, none⟩) 3 cw := (hf.new 6 58 rfl h6 (by simp)).trans (hI.vals 6 (by omega) h6)
        refine wp_of_run (v := .slice A9 0 (cw - 3)) (w' := X) (run_exec_sliceR 22 (.tmp 58) (some (.const (.int .i64 3))) none none rfl (vx := .slice (some ⟨gw, 0, none⟩) 3 cw) (vlo := some (.int .i64 3)) (vhi := none) (vmx := none) (eval_tmp e58) rfl rfl rfl (by rw [HA9.out]; exact hsl X)) ?_
        exact hI.read (by omega) rfl
      · have e6 := hf.old 6 (by kernel_rfl)
        refine wp_of_run (v := .pointer (some ⟨gx, 2, none⟩)) (w' := X) (by unfold execOp; go_simp) ?_
        exact hI.read (by omega) rfl
      · have h8 : L 8 = true := done_of hw 8 (by kernel_rfl)
        have e60 : b.tmps[60]?.getD undef = .pointer (some ⟨gx, 2, none⟩) := (hf.new 8 60 rfl h8 (by simp)).trans (hI.vals 8 (by omega) h8)
        have h5 : L 5 = true := done_of hw 5 (by kernel_rfl)
        have e57 : b.tmps[57]?.getD undef = .int .i64 pb := (hf.new 5 57 rfl h5 (by simp)).trans (hI.vals 5 (by omega) h5)
        have hw0 := hI.unst hL
        subst hw0
        have rx2 := ((Below.refl _ _).drew.block _ (lt_of_block HRx.out)).trans HRx.out
        have q0 := cellOf rx2 2 rfl
        have fx : (World.drew wx).frozen? ⟨gx, 2, none⟩ = false := by simp [World.frozen?, rx2]
        refine wp_of_skip (w' := (World.drew wx).setCell ⟨gx, 2, none⟩ (.int .i64 pb)) (by unfold execOp; go_simp) ?_
        exact hI.store
      · have h7 : L 7 = true := done_of hw 7 (by kernel_rfl)
        have e59 : b.tmps[59]?.getD undef = .slice A9 0 (cw - 3) := (hf.new 7 59 rfl h7 (by simp)).trans (hI.vals 7 (by omega) h7)
        refine wp_of_run (v := .slice A9 0 (cw - 3)) (w' := X) (by unfold execOp; go_simp) ?_
        exact hI.read (by omega) rfl
    · intro vs X hI
      have v10 := hI.vals 10 (by omega) rfl
      have hX := hI.done rfl
      clear hI
      simp [fill, slotOf, Act.put]
      simp only [Exit.inBlock, Exit.then]
      rw [v10]
      simp only [List.getD_cons_succ, List.getD_cons_zero]
      clear v10
      generalize vs 0 = yh0
      generalize vs 1 = yh1
      generalize vs 2 = yh2
      generalize vs 3 = yh3
      generalize vs 4 = yh4
      generalize vs 5 = yh5
      generalize vs 6 = yh6
      generalize vs 7 = yh7
      generalize vs 8 = yh8
      generalize vs 9 = yh9
      generalize vs 10 = yh10
      replace hbx : Below W2.heap.size W2 X := by rw [hX]; exact hbx.drew.setCell hgx _
      have rx : X.heap[gx]? = some (.cells #[.int .i64 0, .int .i64 pa, .int .i64 pb, .int .i64 0, .int .i64 0] 69) := by rw [hX]; exact (heap_setCell_row (w := World.drew wx) HRx.out _).trans rfl
      clear hX C0 C1 C2 hb X0 Q1 X2 HP2 Hb hsl HRx Hr4x Hr1x
      obtain ⟨wx, rfl⟩ : ∃ wx : World, wx = X := ⟨_, rfl⟩
      obtain ⟨C0, C1, C2, R1, R4, hb⟩ := HC.out _ hbx
      have X0 := HX0.out _ hb
      have Hr4x := Lib.hid R4
      have Hr1x := Lib.hid R1
      clear R1 R4
      have fz : wx.frozen? ⟨gx, 0, none⟩ = false := by simp [World.frozen?, rx]
      have gz := cellOf rx 0 rfl
      go_upto_region 21 with (fail)
      obtain ⟨Y, hY⟩ : ∃ Y, Y = wx.setCell ⟨gx, 0, none⟩ (.int .i64 3) := ⟨_, rfl⟩
      rw [← hY]
      have rY : Y.heap[gx]? = some (.cells #[.int .i64 3, .int .i64 pa, .int .i64 pb, .int .i64 0, .int .i64 0] 69) := by rw [hY]; exact (heap_setCell_row rx _).trans rfl
      replace hbx : Below W2.heap.size W2 Y := by rw [hY]; exact hbx.setCell hgx _
      clear hY C0 C1 C2 hb X0
      obtain ⟨C0, C1, C2, R1, R4, hb⟩ := HC.out _ hbx
      have X0 := HX0.out _ hb
      have Hr4Y := Lib.hid R4
      have Hr1Y := Lib.hid R1
      clear R1 R4
      clear fz gz rx
      go_upto_region 25 with (fail)
      obtain ⟨x, hxe⟩ : ∃ x : NoteR, x = (⟨3, pa, pb, 0, 0⟩ : NoteR) := ⟨_, rfl⟩
      have D0 := Lib.hid (show Y.cell? ⟨gx, 0, none⟩ = some (.int .i64 x.kind) by rw [hxe]; exact cellOf rY 0 rfl)
      have D1 := Lib.hid (show Y.cell? ⟨gx, 1, none⟩ = some (.int .i64 x.a) by rw [hxe]; exact cellOf rY 1 rfl)
      have D2 := Lib.hid (show Y.cell? ⟨gx, 2, none⟩ = some (.int .i64 x.b) by rw [hxe]; exact cellOf rY 2 rfl)
      have D3 := Lib.hid (show Y.cell? ⟨gx, 3, none⟩ = some (.int .i64 x.lo) by rw [hxe]; exact cellOf rY 3 rfl)
      have D4 := Lib.hid (show Y.cell? ⟨gx, 4, none⟩ = some (.int .i64 x.hi) by rw [hxe]; exact cellOf rY 4 rfl)
      have HXe := Lib.hid hxe
      clear hxe
      have Q2 := Lib.hid C2
      have HBx := Lib.hid hbx
      have HSm := Lib.hid hin.out.nts
      have HLt := Lib.hid (show w.heap.size + 2 ≤ Y.heap.size by have := hbx.size; have := HZ.out; omega)
      clear C0 C1 C2 X0 hb hbx
      refine wp_region_ghost (WiI Y w.heap.size s.notes x (fun k => if k = 1 ∨ k = 7 then .pointer (some ⟨w.heap.size, 2, none⟩) else if k = 2 then .slice An s.notes.length cn else noteV x)) (by kernel_rfl) (by kernel_rfl) ?_ ?_ ?_
      · exact ⟨fun _ => ⟨(Below.refl _ _).drew, Nat.le_refl _, fun k h => (by cases h.2.1), fun j k h => (by cases h.2.1)⟩, fun _ _ h => (by cases h), fun h => (by cases h)⟩
      · refine ⟨?_, ?_, ?_, ?_, ?_, ?_, ?_, ?_, ?_, trivial⟩
        all_goals
          intro L vs X b hL hw hcl hI hf
        · have n8 : L 8 = false := not_yet hcl 8 hL rfl (by kernel_rfl)
          have hG := hI.go n8
          have hb := hG.bel
          refine wp_of_run (run_exec_bs 23 0 #[] rfl (vs := #[]) rfl (run_bsN0 X)) ?_
          exact ⟨fun _ => hG.lit (i := 0) (n := 0) rfl (by omega) rfl, rd_step hI.rd (fun h => by cases h), fun h => absurd (n8.symm.trans h) (by simp)⟩
        · have n8 : L 8 = false := not_yet hcl 8 hL rfl (by kernel_rfl)
          have hG := hI.go n8
          have hb := hG.bel
          have e2 := hf.old 2 (by kernel_rfl)
          refine wp_of_run (v := .pointer (some ⟨w.heap.size, 2, none⟩)) (w' := X) (by unfold execOp; go_simp) ?_
          exact ⟨fun _ => hG.skip rfl _, rd_step hI.rd (fun _ => rfl), fun h => absurd (n8.symm.trans h) (by simp)⟩
        · have n8 : L 8 = false := not_yet hcl 8 hL rfl (by kernel_rfl)
          have hG := hI.go n8
          have hb := hG.bel
          have h1 : L 1 = true := done_of hw 1 (by kernel_rfl)
          have e95 : b.tmps[95]?.getD undef = .pointer (some ⟨w.heap.size, 2, none⟩) := (hf.new 1 95 rfl h1 (by simp)).trans (hI.rd 1 rfl h1)
          have a0 := (hb.cell (cell_lt Q2.out)).trans Q2.out
          refine wp_of_run (v := .slice An s.notes.length cn) (w' := X) (by unfold execOp; go_simp) ?_
          exact ⟨fun _ => hG.skip rfl _, rd_step hI.rd (fun _ => rfl), fun h => absurd (n8.symm.trans h) (by simp)⟩
        · have n8 : L 8 = false := not_yet hcl 8 hL rfl (by kernel_rfl)
          have hG := hI.go n8
          have hb := hG.bel
          have h0 : L 0 = true := done_of hw 0 (by kernel_rfl)
          have e94 : b.tmps[94]?.getD undef = vs 0 := hf.new 0 94 rfl h0 (by simp)
          have h2 : L 2 = true := done_of hw 2 (by kernel_rfl)
          have e96 : b.tmps[96]?.getD undef = .slice An s.notes.length cn := (hf.new 2 96 rfl h2 (by simp)).trans (hI.rd 2 rfl h2)
          have n3 : lv own49 con49 L 0 := ⟨rfl, h0, hL⟩
          obtain ⟨v', X', hrun, ho, hg, hv⟩ := append_notes2 rfl (hG.own 0 n3) (HNn.out X (HBY.out.trans ((HBx.out.trans (hb.mono HBx.out.size)).mono HBY.out.size))) (by show (0 + s.notes.length) * 40 ≤ _; have := HSm.out; omega) hG.le
          refine wp_of_run (run_exec_append (.tmp 94) (.tmp 96) 23 rfl (eval_tmp e94) (eval_tmp e96) hrun) ?_
          exact ⟨fun _ => hG.app n3 rfl ho hg hv, rd_step hI.rd (fun h => by cases h), fun h => absurd (n8.symm.trans h) (by simp)⟩
        · have n8 : L 8 = false := not_yet hcl 8 hL rfl (by kernel_rfl)
          have hG := hI.go n8
          have hb := hG.bel
          have e6 := hf.old 6 (by kernel_rfl)
          have d0 := (hb.cell (cell_lt D0.out)).trans D0.out
          have d1 := (hb.cell (cell_lt D1.out)).trans D1.out
          have d2 := (hb.cell (cell_lt D2.out)).trans D2.out
          have d3 := (hb.cell (cell_lt D3.out)).trans D3.out
          have d4 := (hb.cell (cell_lt D4.out)).trans D4.out
          refine wp_of_run (v := noteV x) (w' := X) (by unfold execOp noteV; go_simp) ?_
          exact ⟨fun _ => hG.skip rfl _, rd_step hI.rd (fun _ => rfl), fun h => absurd (n8.symm.trans h) (by simp)⟩
        · have n8 : L 8 = false := not_yet hcl 8 hL rfl (by kernel_rfl)
          have hG := hI.go n8
          have hb := hG.bel
          have h4 : L 4 = true := done_of hw 4 (by kernel_rfl)
          have e98 : b.tmps[98]?.getD undef = noteV x := (hf.new 4 98 rfl h4 (by simp)).trans (hI.rd 4 rfl h4)
          refine wp_of_run (run_exec_bs 23 1 _ rfl (vs := #[(0, noteV x)]) (by simp [eval_tmp e98]) (run_bsN1 x X)) ?_
          exact ⟨fun _ => hG.lit (i := 5) (n := 1) rfl (by omega) rfl, rd_step hI.rd (fun h => by cases h), fun h => absurd (n8.symm.trans h) (by simp)⟩
        · have n8 : L 8 = false := not_yet hcl 8 hL rfl (by kernel_rfl)
          have hG := hI.go n8
          have hb := hG.bel
          have h3 : L 3 = true := done_of hw 3 (by kernel_rfl)
          have e97 : b.tmps[97]?.getD undef = vs 3 := hf.new 3 97 rfl h3 (by simp)
          have h5 : L 5 = true := done_of hw 5 (by kernel_rfl)
          have e99 : b.tmps[99]?.getD undef = vs 5 := hf.new 5 99 rfl h5 (by simp)
          have n3 : lv own49 con49 L 3 := ⟨rfl, h3, hL⟩
          have n5 : lv own49 con49 L 5 := ⟨rfl, h5, hL⟩
          have hr5 := (hG.own 5 n5).rd
          obtain ⟨A5, c5, e5, _, _⟩ := (hG.own 5 n5).form
          rw [e5] at hr5 e99
          obtain ⟨v', X', hrun, ho, hg, hv⟩ := append_notes2 rfl (hG.own 3 n3) hr5 (by show (s.notes.length + 1) * 40 ≤ _; have := HSm.out; omega) hG.le
          refine wp_of_run (run_exec_append (.tmp 97) (.tmp 99) 23 rfl (eval_tmp e97) (eval_tmp e99) hrun) ?_
          exact ⟨fun _ => hG.app n3 rfl ho hg hv, rd_step hI.rd (fun h => by cases h), fun h => absurd (n8.symm.trans h) (by simp)⟩
        · have n8 : L 8 = false := not_yet hcl 8 hL rfl (by kernel_rfl)
          have hG := hI.go n8
          have hb := hG.bel
          have e2 := hf.old 2 (by kernel_rfl)
          refine wp_of_run (v := .pointer (some ⟨w.heap.size, 2, none⟩)) (w' := X) (by unfold execOp; go_simp) ?_
          exact ⟨fun _ => hG.skip rfl _, rd_step hI.rd (fun _ => rfl), fun h => absurd (n8.symm.trans h) (by simp)⟩
        · have h6 : L 6 = true := done_of hw 6 (by kernel_rfl)
          have e100 : b.tmps[100]?.getD undef = vs 6 := hf.new 6 100 rfl h6 (by simp)
          have h7 : L 7 = true := done_of hw 7 (by kernel_rfl)
          have e101 : b.tmps[101]?.getD undef = .pointer (some ⟨w.heap.size, 2, none⟩) := (hf.new 7 101 rfl h7 (by simp)).trans (hI.rd 7 rfl h7)
          have hG := hI.go hL
          have hb := hG.bel
          have n6 : lv own49 con49 L 6 := ⟨rfl, h6, hL⟩
          have ho := hG.own 6 n6
          have rs := ((HBx.out.trans (hb.mono HBx.out.size)).block _ (lt_of_block Hr1.out)).trans Hr1.out
          have q0 := cellOf rs 2 rfl
          have fx : X.frozen? ⟨w.heap.size, 2, none⟩ = false := by simp [World.frozen?, rs]
          obtain ⟨A6, c6, q6, _, _⟩ := ho.form
          rw [q6] at e100
          refine wp_of_skip (w' := X.setCell ⟨w.heap.size, 2, none⟩ (.slice A6 (xs49 s.notes x 6).length c6)) (by unfold execOp; go_simp) ?_
          exact ⟨fun h => (by cases h), rd_step hI.rd (fun h => by cases h), fun _ => ⟨X, hb, ho, by rw [← q6]; rfl⟩⟩
      · intro vs X hI
        obtain ⟨X0, hb, ho, rfl⟩ := hI.st rfl
        obtain ⟨A6, c6, q6, _, _⟩ := ho.form
        have hbW := HBx.out.trans (hb.mono HBx.out.size)
        have rs := (hbW.block _ (lt_of_block Hr1.out)).trans Hr1.out
        have rr := (hbW.block _ (lt_of_block Hr4.out)).trans Hr4.out
        have k1 : (X0.setCell ⟨w.heap.size, 2, none⟩ (vs 6)).heap[w.heap.size]? = some (.cells #[.int .i64 s.iv, .slice Ap s.pts.length cp, vs 6] 25) := (Joins.block_setCell rs _).trans rfl
        have k3 : (X0.setCell ⟨w.heap.size, 2, none⟩ (vs 6)).heap[w.heap.size + 1]? = some (.cells #[.int .i64 0, .slice none 0 0, .slice none 0 0] 25) := (Below.heap_setCell _ _ _ _ (by show w.heap.size + 1 ≠ w.heap.size; omega)).trans rr
        have hb0 := HBY.out.trans (hbW.mono HBY.out.size)
        have hbY : Below w.heap.size w (X0.setCell ⟨w.heap.size, 2, none⟩ (vs 6)) := hb0.setCell (Nat.le_refl _) _
        have hoY := ho.other (p := ⟨w.heap.size, 2, none⟩) (by show w.heap.size < _; have := HLt.out; omega) (vs 6)
        have hpY : Rd StrAt 1 B (X0.setCell ⟨w.heap.size, 2, none⟩ (vs 6)) (.slice Ap s.pts.length cp) s.pts := (HPp.out X0 hb0).setCell hB _
        clear hI ho hb rs rr hbW hb0
        simp [fill, slotOf, Act.put]
        simp only [Exit.inBlock, Exit.then]
        rw [q6] at *
        clear q6
        generalize hn6 : (s.notes ++ [x]).length = n6 at *
        have Hn6 := Lib.hid hn6
        clear hn6
        generalize X0.setCell ⟨w.heap.size, 2, none⟩ (.slice A6 n6 c6) = Y5 at *
        generalize vs 0 = yk0
        generalize vs 1 = yk1
        generalize vs 2 = yk2
        generalize vs 3 = yk3
        generalize vs 4 = yk4
        generalize vs 5 = yk5
        generalize vs 7 = yk7
        generalize vs 8 = yk8
        have K1 := Lib.hid k1
        have K3 := Lib.hid k3
        have HY := Lib.hid hbY
        have HO := Lib.hid hoY
        have HPY := Lib.hid hpY
        have p0 := cellOf k1 0 rfl
        have p1 := cellOf k1 1 rfl
        have p2 := cellOf k1 2 rfl
        clear k1 k3 hbY hoY hpY
        go_wp2_with (refine wpList_store_row rfl 25 (.tmp 4) (.tmp 102) rfl (w.heap.size + 1) #[.int .i64 s.iv, .slice Ap s.pts.length cp, .slice A6 n6 c6] rfl rfl 25 _ K3.out (by kernel_rfl) rfl (by simp [Value.oneCell']) ?_)
        have k4 := setRow_heap Y5 (w.heap.size + 1) _ #[.int .i64 s.iv, .slice Ap s.pts.length cp, .slice A6 n6 c6] 25 (0, 0) K3.out
        have hfin : Below w.heap.size w (Y5.setRow (w.heap.size + 1) #[.int .i64 s.iv, .slice Ap s.pts.length cp, .slice A6 n6 c6]) := HY.out.trans (setRow_below _ (by omega))
        refine bodyPost_ret (results88 k4 rfl rfl) rfl (rowQ_some HR.out ⟨_, _, rfl, ?_, ?_⟩ hfin)
        · exact (HPY.out.keep fun p hp => World.cell?_of_block (setRow_other _ _ _ _ (by omega))).mono (Nat.le_trans hB hfin.size)
        · rw [← HXe.out]
          show Rd NoteAt 5 _ _ _ (s.notes ++ [x])
          exact (Own.keepD HO.out fun b cs f hb hh => (setRow_other _ _ _ _ (by have := HLt.out; omega)).trans hh).rd
set_option maxRecDepth 100000 in
set_option maxHeartbeats 4000000 in
theorem row_wSlope_good {B Bw : Nat} {w : World} {Ap An : Option Addr} {cp cn gw cw : Nat} {s : ShR} {ws : List ByteArray} (h : RowIn B Bw w Ap An cp cn gw cw s ws) (hx : wd ws 0 = wSlope) (hlen : ws.length = 5) : Calls Tryz.prog 88 #[.agg #[.int .i64 s.iv, .slice Ap s.pts.length cp, .slice An s.notes.length cn], .slice (some ⟨gw, 0, none⟩) ws.length cw] w fun e w' => RowQ s ws w e w' := by
  have hl : 3 ≤ ws.length := by omega
  have hin := Lib.hid h
  obtain ⟨vp', vn', ehs, hp, hno⟩ := h.sh
  have hB := h.hB
  have hone := h.one
  simp at ehs
  obtain ⟨rfl, rfl⟩ := ehs
  have hcw : ws.length ≤ cw := by obtain ⟨A0, c0, e0, h1, _⟩ := h.wsr; cases e0; exact h1
  obtain ⟨W1, hW1, r1, z1, b1⟩ := box_any w #[.int .i64 s.iv, .slice Ap s.pts.length cp, .slice An s.notes.length cn] 25
  obtain ⟨W2, hW2, r2, z2, b2⟩ := box_any W1 #[.int .i64 0, .slice none 0 0, .slice none 0 0] 25
  have b12 := b1.trans (b2.mono b1.size)
  have q1 := (b2.block _ (by omega)).trans r1
  rw [z1] at r2
  have HBY := Lib.hid b12
  have HZ := Lib.hid (show W2.heap.size = w.heap.size + 2 by omega)
  have HC : Hid (∀ Z : World, Below W2.heap.size W2 Z → Z.cell? ⟨w.heap.size, 0, none⟩ = some (.int .i64 s.iv) ∧ Z.cell? ⟨w.heap.size, 1, none⟩ = some (.slice Ap s.pts.length cp) ∧ Z.cell? ⟨w.heap.size, 2, none⟩ = some (.slice An s.notes.length cn) ∧
      Z.heap[w.heap.size]? = some (.cells #[.int .i64 s.iv, .slice Ap s.pts.length cp, .slice An s.notes.length cn] 25) ∧ Z.heap[w.heap.size + 1]? = some (.cells #[.int .i64 0, .slice none 0 0, .slice none 0 0] 25) ∧ Below w.heap.size w Z) :=
    Lib.hid fun Z h => by
      have j1 := (h.block _ (lt_of_block q1)).trans q1
      have j2 := (h.block _ (lt_of_block r2)).trans r2
      exact ⟨cellOf j1 0 rfl, cellOf j1 1 rfl, cellOf j1 2 rfl, j1, j2, HBY.out.trans (h.mono HBY.out.size)⟩
  have HW : Hid (∀ (Z : World), Below w.heap.size w Z → ∀ i, i < ws.length → Z.cell? ⟨gw, i, none⟩ = some (.string (wd ws i))) := Lib.hid fun Z hZ i hi => word_at (hin.out.wsr.below (hZ.mono hin.out.hBw)) hi
  have HPl : Hid (∀ (Z : World), Below w.heap.size w Z → ∀ x, Calls Tryz.prog 93 #[.slice Ap s.pts.length cp, .string x] Z fun e w' => e = .returned (.int .i64 (plcF s.pts x)) ∧ Z = w') := Lib.hid fun Z hZ x => (place_any x (hp.below (hZ.mono hB))).mono fun e w' ⟨h1, h2⟩ => ⟨h1, h2.symm⟩
  have HPp : Hid (∀ (Z : World), Below w.heap.size w Z → Rd StrAt 1 B Z (.slice Ap s.pts.length cp) s.pts) := Lib.hid fun Z hZ => hp.below (hZ.mono hB)
  have HNn : Hid (∀ (Z : World), Below w.heap.size w Z → Rd NoteAt 5 B Z (.slice An s.notes.length cn) s.notes) := Lib.hid fun Z hZ => hno.below (hZ.mono hB)
  have hbx : Below W2.heap.size W2 W2 := Below.refl _ _
  obtain ⟨C0, C1, C2, R1, R4, hb⟩ := HC.out _ hbx
  have X0 := HW.out _ hb 0 (by omega)
  have Hr1 := Lib.hid R1
  have Hr4 := Lib.hid R4
  clear h r1 r2 z1 z2 b1 b2 b12 q1 hp hno R1 R4
  have HR := Lib.hid (show rowF s ws = some (addN s ⟨4, plcF s.pts (wd ws 1), plcF s.pts (wd ws 2), signedF (wd ws 3), signedF (wd ws 4)⟩) by unfold rowF; rw [if_neg (fun e => by omega), if_neg (by omega), if_neg (by rw [hx]; decide), if_neg (by rw [hx]; decide), if_neg (by rw [hx]; decide), if_pos hx, if_pos hlen])
  have HX0 := Lib.hid (show ∀ (Z : World), Below w.heap.size w Z → Z.cell? ⟨gw, 0, none⟩ = some (.string ⟨#[115, 108, 111, 112, 101]⟩) from fun Z hZ => by rw [HW.out Z hZ 0 (by omega), hx]; rfl)
  replace X0 := HX0.out _ hb
  clear hx
  have Hs1 := Lib.hid (show ∀ Z, Calls Tryz.prog 87 #[.string (wd ws 3)] Z fun e w' => e = .returned (.int .i64 (signedF (wd ws 3))) ∧ w' = Z from fun Z => (signed_any _ (wd_size hin.out _) Z).mono fun e w' ⟨h1, h2⟩ => ⟨h1, h2.symm⟩)
  have Hs2 := Lib.hid (show ∀ Z, Calls Tryz.prog 87 #[.string (wd ws 4)] Z fun e w' => e = .returned (.int .i64 (signedF (wd ws 4))) ∧ w' = Z from fun Z => (signed_any _ (wd_size hin.out _) Z).mono fun e w' ⟨h1, h2⟩ => ⟨h1, h2.symm⟩)
  have HY2 := Lib.hid (fun (Z : World) (hZ : Below w.heap.size w Z) => HW.out Z hZ 3 (by omega))
  have HY3 := Lib.hid (fun (Z : World) (hZ : Below w.heap.size w Z) => HW.out Z hZ 4 (by omega))
  have hc2 : ¬ cw = 2 := by omega
  have hc3 : ¬ cw = 3 := by omega
  have Hlen := Lib.hid hlen
  rw [hlen] at hl hcw ⊢
  clear hlen
  go_enter Tryz.func88, Tryz.ntmps88
  go_upto_region 1 with (fail)
  rw [← hW1, ← hW2]
  clear hW1 hW2
  go_upto_region 6 with (fail)
  have X1 := Lib.hid (HW.out _ hb 1 (by have := Hlen.out; omega))
  have HP1 := Lib.hid (show ∀ Z, Below w.heap.size w Z → Calls Tryz.prog 93 #[.slice Ap s.pts.length cp, .string (wd ws 1)] Z fun e w' => e = .returned (.int .i64 (plcF s.pts (wd ws 1))) ∧ Z = w' from fun Z hZ => HPl.out Z hZ _)
  have Hb := Lib.hid hb
  have Q1 := Lib.hid C1
  generalize plcF s.pts (wd ws 1) = pa at *
  generalize wd ws 1 = x1 at *
  have hl1 : True := trivial
  have hl2 : True := trivial
  refine wp_region_ghost (AlI W2 (fun jj => ([.pointer (some ⟨w.heap.size, 1, none⟩), .slice Ap s.pts.length cp, .slice (some ⟨gw, 0, none⟩) 5 cw, .pointer (some ⟨gw, 1, none⟩), .string x1, .int .i64 pa, .agg #[.int .i64 0, .int .i64 pa, .int .i64 0, .int .i64 0, .int .i64 0], undef, undef] : List Value).getD jj undef) 7 8 #[.int .i64 0, .int .i64 0, .int .i64 0, .int .i64 0, .int .i64 0] #[.int .i64 0, .int .i64 pa, .int .i64 0, .int .i64 0, .int .i64 0] 69) (by kernel_rfl) (by kernel_rfl) AlI.start ?_ ?_
  · refine ⟨?_, ?_, ?_, ?_, ?_, ?_, ?_, ?_, ?_, trivial⟩
    all_goals
      intro L vs X b hL hw hcl hI hf
    · have hb := hI.bel
      have e2 := hf.old 2 (by kernel_rfl)
      refine wp_of_run (v := .pointer (some ⟨w.heap.size, 1, none⟩)) (w' := X) (by unfold execOp; go_simp) ?_
      exact hI.read (by omega) (by omega) rfl
    · have hb := hI.bel
      have h0 : L 0 = true := done_of hw 0 (by kernel_rfl)
      have e33 : b.tmps[33]?.getD undef = .pointer (some ⟨w.heap.size, 1, none⟩) := (hf.new 0 33 rfl h0 (by simp)).trans (hI.vals 0 (by omega) (by omega) h0)
      have qQ1 := (hb.cell (cell_lt Q1.out)).trans Q1.out
      refine wp_of_run (v := .slice Ap s.pts.length cp) (w' := X) (by unfold execOp; go_simp) ?_
      exact hI.read (by omega) (by omega) rfl
    · have hb := hI.bel
      have e1 := hf.old 1 (by kernel_rfl)
      refine wp_of_run (v := .slice (some ⟨gw, 0, none⟩) 5 cw) (w' := X) (by unfold execOp; go_simp) ?_
      exact hI.read (by omega) (by omega) rfl
    · have hb := hI.bel
      have h2 : L 2 = true := done_of hw 2 (by kernel_rfl)
      have e35 : b.tmps[35]?.getD undef = .slice (some ⟨gw, 0, none⟩) 5 cw := (hf.new 2 35 rfl h2 (by simp)).trans (hI.vals 2 (by omega) (by omega) h2)
      refine wp_of_run (v := .pointer (some ⟨gw, 1, none⟩)) (w' := X) (by unfold execOp; go_simp) ?_
      exact hI.read (by omega) (by omega) rfl
    · have hb := hI.bel
      have h3 : L 3 = true := done_of hw 3 (by kernel_rfl)
      have e36 : b.tmps[36]?.getD undef = .pointer (some ⟨gw, 1, none⟩) := (hf.new 3 36 rfl h3 (by simp)).trans (hI.vals 3 (by omega) (by omega) h3)
      have qX1 := (hb.cell (cell_lt X1.out)).trans X1.out
      refine wp_of_run (v := .string x1) (w' := X) (by unfold execOp; go_simp) ?_
      exact hI.read (by omega) (by omega) rfl
    · have hb := hI.bel
      have h1 : L 1 = true := done_of hw 1 (by kernel_rfl)
      have e34 : b.tmps[34]?.getD undef = .slice Ap s.pts.length cp := (hf.new 1 34 rfl h1 (by simp)).trans (hI.vals 1 (by omega) (by omega) h1)
      have h4 : L 4 = true := done_of hw 4 (by kernel_rfl)
      have e37 : b.tmps[37]?.getD undef = .string x1 := (hf.new 4 37 rfl h4 (by simp)).trans (hI.vals 4 (by omega) (by omega) h4)
      refine wp_of_call (f := 93) (args := #[.slice Ap s.pts.length cp, .string x1]) (run_call_clo (.func 93) _ _ rfl (c := #[]) rfl renter93 (by simp [eval_tmp e34, eval_tmp e37])) ?_
      refine (HP1.out X (Hb.out.trans (hb.mono Hb.out.size))).mono ?_
      rintro e wz ⟨rfl, hz⟩
      subst hz
      exact ⟨_, rfl, hI.read (by omega) (by omega) rfl⟩
    · have hb := hI.bel
      have h5 : L 5 = true := done_of hw 5 (by kernel_rfl)
      have e38 : b.tmps[38]?.getD undef = .int .i64 pa := (hf.new 5 38 rfl h5 (by simp)).trans (hI.vals 5 (by omega) (by omega) h5)
      refine wp_of_run (v := .agg #[.int .i64 0, .int .i64 pa, .int .i64 0, .int .i64 0, .int .i64 0]) (w' := X) (by unfold execOp; go_simp) ?_
      exact hI.read (by omega) (by omega) rfl
    · have hb := hI.bel
      have n8 : L 8 = false := not_yet hcl 8 hL rfl (by kernel_rfl)
      refine wp_of_run (v := .pointer (some ⟨X.heap.size, 0, none⟩)) (w' := X.alloc (.cells #[.int .i64 0, .int .i64 0, .int .i64 0, .int .i64 0, .int .i64 0] 69)) (by unfold execOp; go_simp) ?_
      exact hI.alloc (by omega) n8
    · have hb := hI.bel
      have h7 : L 7 = true := done_of hw 7 (by kernel_rfl)
      have e6 : b.tmps[6]?.getD undef = vs 7 := hf.new 7 6 rfl h7 (by simp)
      have h6 : L 6 = true := done_of hw 6 (by kernel_rfl)
      have e39 : b.tmps[39]?.getD undef = .agg #[.int .i64 0, .int .i64 pa, .int .i64 0, .int .i64 0, .int .i64 0] := (hf.new 6 39 rfl h6 (by simp)).trans (hI.vals 6 (by omega) (by omega) h6)
      obtain ⟨g, q7, hg, hx⟩ := hI.unstored h7 hL
      rw [q7] at e6
      refine wp_store_row 69 (.tmp 6) (.tmp 39) rfl g #[.int .i64 0, .int .i64 pa, .int .i64 0, .int .i64 0, .int .i64 0] (eval_tmp e6) (eval_tmp e39) 69 _ hx (by kernel_rfl) rfl (by simp [Value.oneCell']) ?_
      exact ⟨_, rfl, hI.store (by omega) q7 hg hx⟩
  · intro vs X hI
    obtain ⟨gx, e6, hgx, rx⟩ := hI.al rfl
    replace rx : X.heap[gx]? = some (.cells #[.int .i64 0, .int .i64 pa, .int .i64 0, .int .i64 0, .int .i64 0] 69) := rx
    have hbX := hI.bel
    clear hI
    simp [fill, slotOf, Act.put]
    simp only [Exit.inBlock, Exit.then]
    rw [e6]
    clear e6
    generalize vs 0 = yg0
    generalize vs 1 = yg1
    generalize vs 2 = yg2
    generalize vs 3 = yg3
    generalize vs 4 = yg4
    generalize vs 5 = yg5
    generalize vs 6 = yg6
    generalize vs 7 = yg7
    generalize vs 8 = yg8
    obtain ⟨wx, rfl⟩ : ∃ wx : World, wx = X := ⟨_, rfl⟩
    replace hbx := hbx.trans (hbX.mono hbx.size)
    clear C0 C1 C2 hb X0 hbX Q1 HP1 Hb X1
    obtain ⟨C0, C1, C2, R1, R4, hb⟩ := HC.out _ hbx
    have X0 := HX0.out _ hb
    have Hr4x := Lib.hid R4
    have Hr1x := Lib.hid R1
    clear R1 R4
    go_upto_region 9 with (fail)
    have X2 := Lib.hid (HW.out _ hb 2 (by have := Hlen.out; omega))
    have HP2 := Lib.hid (show ∀ Z, Below w.heap.size w Z → Calls Tryz.prog 93 #[.slice Ap s.pts.length cp, .string (wd ws 2)] Z fun e w' => e = .returned (.int .i64 (plcF s.pts (wd ws 2))) ∧ Z = w' from fun Z hZ => HPl.out Z hZ _)
    have Hb := Lib.hid hb
    have Q1 := Lib.hid C1
    generalize plcF s.pts (wd ws 2) = pb at *
    generalize wd ws 2 = x2 at *
    have HRx := Lib.hid rx
    have hl3 : True := trivial
    have hsl := fun X : World => run_slice_lo22 (A := some ⟨gw, 0, none⟩) (k := 5) (c := cw) (a := 3) (by omega) X
    refine wp_region_ghost (StI wx ⟨gx, 2, none⟩ (.int .i64 pb) 9 (fun jj => ([.pointer (some ⟨w.heap.size, 1, none⟩), .slice Ap s.pts.length cp, .slice (some ⟨gw, 0, none⟩) 5 cw, .pointer (some ⟨gw, 2, none⟩), .string x2, .int .i64 pb, .slice (some ⟨gw, 0, none⟩) 5 cw, .slice (some ⟨gw, 3, none⟩) 2 (cw - 3), .pointer (some ⟨gx, 2, none⟩), undef, .slice (some ⟨gw, 3, none⟩) 2 (cw - 3)] : List Value).getD jj undef)) (by kernel_rfl) (by kernel_rfl) StI.start ?_ ?_
    · refine ⟨?_, ?_, ?_, ?_, ?_, ?_, ?_, ?_, ?_, ?_, ?_, trivial⟩
      all_goals
        intro L vs X b hL hw hcl hI hf
      · have e2 := hf.old 2 (by kernel_rfl)
        refine wp_of_run (v := .pointer (some ⟨w.heap.size, 1, none⟩)) (w' := X) (by unfold execOp; go_simp) ?_
        exact hI.read (by omega) rfl
      · have h0 : L 0 = true := done_of hw 0 (by kernel_rfl)
        have e52 : b.tmps[52]?.getD undef = .pointer (some ⟨w.heap.size, 1, none⟩) := (hf.new 0 52 rfl h0 (by simp)).trans (hI.vals 0 (by omega) h0)
        have n9 : L 9 = false := not_yet hcl 9 hL rfl (by kernel_rfl)
        have hw0 := hI.unst n9
        subst hw0
        have q0 := ((Below.refl _ _).drew.cell (cell_lt Q1.out)).trans Q1.out
        refine wp_of_run (v := .slice Ap s.pts.length cp) (w' := World.drew wx) (by unfold execOp; go_simp) ?_
        exact hI.read (by omega) rfl
      · have e1 := hf.old 1 (by kernel_rfl)
        refine wp_of_run (v := .slice (some ⟨gw, 0, none⟩) 5 cw) (w' := X) (by unfold execOp; go_simp) ?_
        exact hI.read (by omega) rfl
      · have h2 : L 2 = true := done_of hw 2 (by kernel_rfl)
        have e54 : b.tmps[54]?.getD undef = .slice (some ⟨gw, 0, none⟩) 5 cw := (hf.new 2 54 rfl h2 (by simp)).trans (hI.vals 2 (by omega) h2)
        refine wp_of_run (v := .pointer (some ⟨gw, 2, none⟩)) (w' := X) (by unfold execOp; go_simp) ?_
        exact hI.read (by omega) rfl
      · have h3 : L 3 = true := done_of hw 3 (by kernel_rfl)
        have e55 : b.tmps[55]?.getD undef = .pointer (some ⟨gw, 2, none⟩) := (hf.new 3 55 rfl h3 (by simp)).trans (hI.vals 3 (by omega) h3)
        have n9 : L 9 = false := not_yet hcl 9 hL rfl (by kernel_rfl)
        have hw0 := hI.unst n9
        subst hw0
        have q0 := ((Below.refl _ _).drew.cell (cell_lt X2.out)).trans X2.out
        refine wp_of_run (v := .string x2) (w' := World.drew wx) (by unfold execOp; go_simp) ?_
        exact hI.read (by omega) rfl
      · have h1 : L 1 = true := done_of hw 1 (by kernel_rfl)
        have e53 : b.tmps[53]?.getD undef = .slice Ap s.pts.length cp := (hf.new 1 53 rfl h1 (by simp)).trans (hI.vals 1 (by omega) h1)
        have h4 : L 4 = true := done_of hw 4 (by kernel_rfl)
        have e56 : b.tmps[56]?.getD undef = .string x2 := (hf.new 4 56 rfl h4 (by simp)).trans (hI.vals 4 (by omega) h4)
        have n9 : L 9 = false := not_yet hcl 9 hL rfl (by kernel_rfl)
        have hw0 := hI.unst n9
        subst hw0
        refine wp_of_call (f := 93) (args := #[.slice Ap s.pts.length cp, .string x2]) (run_call_clo (.func 93) _ _ rfl (c := #[]) rfl renter93 (by simp [eval_tmp e53, eval_tmp e56])) ?_
        refine (HP2.out _ (Hb.out.trans ((Below.refl _ _).drew))).mono ?_
        rintro e wz ⟨rfl, hz⟩
        subst hz
        exact ⟨_, rfl, hI.read (by omega) rfl⟩
      · have e1 := hf.old 1 (by kernel_rfl)
        refine wp_of_run (v := .slice (some ⟨gw, 0, none⟩) 5 cw) (w' := X) (by unfold execOp; go_simp) ?_
        exact hI.read (by omega) rfl
      · have h6 : L 6 = true := done_of hw 6 (by kernel_rfl)
        have e58 : b.tmps[58]?.getD undef = .slice (some ⟨gw, 0, none⟩) 5 cw := (hf.new 6 58 rfl h6 (by simp)).trans (hI.vals 6 (by omega) h6)
        refine wp_of_run (v := .slice (some ⟨gw, 3, none⟩) 2 (cw - 3)) (w' := X) (run_exec_sliceR 22 (.tmp 58) (some (.const (.int .i64 3))) none none rfl (vx := .slice (some ⟨gw, 0, none⟩) 5 cw) (vlo := some (.int .i64 3)) (vhi := none) (vmx := none) (eval_tmp e58) rfl rfl rfl (by have h := hsl X; rw [if_neg hc3] at h; exact h)) ?_
        exact hI.read (by omega) rfl
      · have e6 := hf.old 6 (by kernel_rfl)
        refine wp_of_run (v := .pointer (some ⟨gx, 2, none⟩)) (w' := X) (by unfold execOp; go_simp) ?_
        exact hI.read (by omega) rfl
      · have h8 : L 8 = true := done_of hw 8 (by kernel_rfl)
        have e60 : b.tmps[60]?.getD undef = .pointer (some ⟨gx, 2, none⟩) := (hf.new 8 60 rfl h8 (by simp)).trans (hI.vals 8 (by omega) h8)
        have h5 : L 5 = true := done_of hw 5 (by kernel_rfl)
        have e57 : b.tmps[57]?.getD undef = .int .i64 pb := (hf.new 5 57 rfl h5 (by simp)).trans (hI.vals 5 (by omega) h5)
        have hw0 := hI.unst hL
        subst hw0
        have rx2 := ((Below.refl _ _).drew.block _ (lt_of_block HRx.out)).trans HRx.out
        have q0 := cellOf rx2 2 rfl
        have fx : (World.drew wx).frozen? ⟨gx, 2, none⟩ = false := by simp [World.frozen?, rx2]
        refine wp_of_skip (w' := (World.drew wx).setCell ⟨gx, 2, none⟩ (.int .i64 pb)) (by unfold execOp; go_simp) ?_
        exact hI.store
      · have h7 : L 7 = true := done_of hw 7 (by kernel_rfl)
        have e59 : b.tmps[59]?.getD undef = .slice (some ⟨gw, 3, none⟩) 2 (cw - 3) := (hf.new 7 59 rfl h7 (by simp)).trans (hI.vals 7 (by omega) h7)
        refine wp_of_run (v := .slice (some ⟨gw, 3, none⟩) 2 (cw - 3)) (w' := X) (by unfold execOp; go_simp) ?_
        exact hI.read (by omega) rfl
    · intro vs X hI
      have v10 := hI.vals 10 (by omega) rfl
      have hX := hI.done rfl
      clear hI
      simp [fill, slotOf, Act.put]
      simp only [Exit.inBlock, Exit.then]
      rw [v10]
      simp only [List.getD_cons_succ, List.getD_cons_zero]
      clear v10
      generalize vs 0 = yh0
      generalize vs 1 = yh1
      generalize vs 2 = yh2
      generalize vs 3 = yh3
      generalize vs 4 = yh4
      generalize vs 5 = yh5
      generalize vs 6 = yh6
      generalize vs 7 = yh7
      generalize vs 8 = yh8
      generalize vs 9 = yh9
      generalize vs 10 = yh10
      replace hbx : Below W2.heap.size W2 X := by rw [hX]; exact hbx.drew.setCell hgx _
      have rx : X.heap[gx]? = some (.cells #[.int .i64 0, .int .i64 pa, .int .i64 pb, .int .i64 0, .int .i64 0] 69) := by rw [hX]; exact (heap_setCell_row (w := World.drew wx) HRx.out _).trans rfl
      clear hX C0 C1 C2 hb X0 Q1 X2 HP2 Hb hsl HRx Hr4x Hr1x
      obtain ⟨wx, rfl⟩ : ∃ wx : World, wx = X := ⟨_, rfl⟩
      obtain ⟨C0, C1, C2, R1, R4, hb⟩ := HC.out _ hbx
      have X0 := HX0.out _ hb
      have Hr4x := Lib.hid R4
      have Hr1x := Lib.hid R1
      clear R1 R4
      have fz : wx.frozen? ⟨gx, 0, none⟩ = false := by simp [World.frozen?, rx]
      have gz := cellOf rx 0 rfl
      go_upto_region 21 with (fail)
      obtain ⟨Y, hY⟩ : ∃ Y, Y = wx.setCell ⟨gx, 0, none⟩ (.int .i64 4) := ⟨_, rfl⟩
      rw [← hY]
      have rY : Y.heap[gx]? = some (.cells #[.int .i64 4, .int .i64 pa, .int .i64 pb, .int .i64 0, .int .i64 0] 69) := by rw [hY]; exact (heap_setCell_row rx _).trans rfl
      replace hbx : Below W2.heap.size W2 Y := by rw [hY]; exact hbx.setCell hgx _
      clear hY C0 C1 C2 hb X0
      obtain ⟨C0, C1, C2, R1, R4, hb⟩ := HC.out _ hbx
      have X0 := HX0.out _ hb
      have Hr4Y := Lib.hid R4
      have Hr1Y := Lib.hid R1
      clear R1 R4
      clear fz gz rx
      have Y2 := HY2.out _ hb
      have Y3 := HY3.out _ hb
      clear HY2 HY3
      generalize signedF (wd ws 3) = slo at *
      generalize signedF (wd ws 4) = shi at *
      generalize wd ws 3 = y2 at *
      generalize wd ws 4 = y3 at *
      go_upto_region 24 with (fail)
      have f2 := Aft.cell Y2
      have f3 := Aft.cell Y3
      have RY := Lib.hid rY
      have HBb := Lib.hid hbx
      clear Y2 Y3 rY C0 C1 C2 X0 hb hbx
      refine region_quiet_tail (C := fun w' => ∃ x : Aft Y, w' = x.1) 9 (by kernel_rfl) (by kernel_rfl) ⟨⟨Y.drew, (Below.refl _ _).drew⟩, rfl⟩ ?_
      simp only [List.take_succ_cons, List.take_zero, List.drop_succ_cons, List.drop_zero]
      repeat (first | go_big_quiet_step ((go_at_call 87; first | (with_reducible exact Aft.call_same (Hs1.out _)) | (with_reducible exact Aft.call_same (Hs2.out _)))) | quiet_step ((go_at_call 87; first | (with_reducible exact Aft.call_same (Hs1.out _)) | (with_reducible exact Aft.call_same (Hs2.out _)))))
      refine wpQuiet_nil ?_
      rintro wz ⟨⟨_, hbv⟩, rfl⟩
      have rz := (hbv.block _ (lt_of_block RY.out)).trans RY.out
      have d3 := cellOf rz 3 rfl
      have d4 := cellOf rz 4 rfl
      have z3 : wz.frozen? ⟨gx, 3, none⟩ = false := by simp [World.frozen?, rz]
      have z4 : wz.frozen? ⟨gx, 4, none⟩ = false := by simp [World.frozen?, rz]
      have HBz := Lib.hid (HBb.out.trans (hbv.mono HBb.out.size))
      have RZ := Lib.hid rz
      clear rz hbv f2 f3
      go_upto_region 25 with (fail)
      obtain ⟨Z, hZ⟩ : ∃ Z, Z = (wz.setCell ⟨gx, 3, none⟩ (.int .i64 slo)).setCell ⟨gx, 4, none⟩ (.int .i64 shi) := ⟨_, rfl⟩
      rw [← hZ]
      have rZ : Z.heap[gx]? = some (.cells #[.int .i64 4, .int .i64 pa, .int .i64 pb, .int .i64 slo, .int .i64 shi] 69) := by rw [hZ]; exact (heap_setCell_row (heap_setCell_row RZ.out _) _).trans rfl
      have hbx : Below W2.heap.size W2 Z := by rw [hZ]; exact (HBz.out.setCell hgx _).setCell hgx _
      clear hZ d3 d4 z3 z4
      obtain ⟨C0, C1, C2, R1, R4, hb⟩ := HC.out _ hbx
      have X0 := HX0.out _ hb
      clear R1 R4
      obtain ⟨x, hxe⟩ : ∃ x : NoteR, x = (⟨4, pa, pb, slo, shi⟩ : NoteR) := ⟨_, rfl⟩
      have D0 := Lib.hid (show Z.cell? ⟨gx, 0, none⟩ = some (.int .i64 x.kind) by rw [hxe]; exact cellOf rZ 0 rfl)
      have D1 := Lib.hid (show Z.cell? ⟨gx, 1, none⟩ = some (.int .i64 x.a) by rw [hxe]; exact cellOf rZ 1 rfl)
      have D2 := Lib.hid (show Z.cell? ⟨gx, 2, none⟩ = some (.int .i64 x.b) by rw [hxe]; exact cellOf rZ 2 rfl)
      have D3 := Lib.hid (show Z.cell? ⟨gx, 3, none⟩ = some (.int .i64 x.lo) by rw [hxe]; exact cellOf rZ 3 rfl)
      have D4 := Lib.hid (show Z.cell? ⟨gx, 4, none⟩ = some (.int .i64 x.hi) by rw [hxe]; exact cellOf rZ 4 rfl)
      have HXe := Lib.hid hxe
      clear hxe
      have Q2 := Lib.hid C2
      have HBx := Lib.hid hbx
      have HSm := Lib.hid hin.out.nts
      have HLt := Lib.hid (show w.heap.size + 2 ≤ Z.heap.size by have := hbx.size; have := HZ.out; omega)
      clear C0 C1 C2 X0 hb hbx
      refine wp_region_ghost (WiI Z w.heap.size s.notes x (fun k => if k = 1 ∨ k = 7 then .pointer (some ⟨w.heap.size, 2, none⟩) else if k = 2 then .slice An s.notes.length cn else noteV x)) (by kernel_rfl) (by kernel_rfl) ?_ ?_ ?_
      · exact ⟨fun _ => ⟨(Below.refl _ _).drew, Nat.le_refl _, fun k h => (by cases h.2.1), fun j k h => (by cases h.2.1)⟩, fun _ _ h => (by cases h), fun h => (by cases h)⟩
      · refine ⟨?_, ?_, ?_, ?_, ?_, ?_, ?_, ?_, ?_, trivial⟩
        all_goals
          intro L vs X b hL hw hcl hI hf
        · have n8 : L 8 = false := not_yet hcl 8 hL rfl (by kernel_rfl)
          have hG := hI.go n8
          have hb := hG.bel
          refine wp_of_run (run_exec_bs 23 0 #[] rfl (vs := #[]) rfl (run_bsN0 X)) ?_
          exact ⟨fun _ => hG.lit (i := 0) (n := 0) rfl (by omega) rfl, rd_step hI.rd (fun h => by cases h), fun h => absurd (n8.symm.trans h) (by simp)⟩
        · have n8 : L 8 = false := not_yet hcl 8 hL rfl (by kernel_rfl)
          have hG := hI.go n8
          have hb := hG.bel
          have e2 := hf.old 2 (by kernel_rfl)
          refine wp_of_run (v := .pointer (some ⟨w.heap.size, 2, none⟩)) (w' := X) (by unfold execOp; go_simp) ?_
          exact ⟨fun _ => hG.skip rfl _, rd_step hI.rd (fun _ => rfl), fun h => absurd (n8.symm.trans h) (by simp)⟩
        · have n8 : L 8 = false := not_yet hcl 8 hL rfl (by kernel_rfl)
          have hG := hI.go n8
          have hb := hG.bel
          have h1 : L 1 = true := done_of hw 1 (by kernel_rfl)
          have e95 : b.tmps[95]?.getD undef = .pointer (some ⟨w.heap.size, 2, none⟩) := (hf.new 1 95 rfl h1 (by simp)).trans (hI.rd 1 rfl h1)
          have a0 := (hb.cell (cell_lt Q2.out)).trans Q2.out
          refine wp_of_run (v := .slice An s.notes.length cn) (w' := X) (by unfold execOp; go_simp) ?_
          exact ⟨fun _ => hG.skip rfl _, rd_step hI.rd (fun _ => rfl), fun h => absurd (n8.symm.trans h) (by simp)⟩
        · have n8 : L 8 = false := not_yet hcl 8 hL rfl (by kernel_rfl)
          have hG := hI.go n8
          have hb := hG.bel
          have h0 : L 0 = true := done_of hw 0 (by kernel_rfl)
          have e94 : b.tmps[94]?.getD undef = vs 0 := hf.new 0 94 rfl h0 (by simp)
          have h2 : L 2 = true := done_of hw 2 (by kernel_rfl)
          have e96 : b.tmps[96]?.getD undef = .slice An s.notes.length cn := (hf.new 2 96 rfl h2 (by simp)).trans (hI.rd 2 rfl h2)
          have n3 : lv own49 con49 L 0 := ⟨rfl, h0, hL⟩
          obtain ⟨v', X', hrun, ho, hg, hv⟩ := append_notes2 rfl (hG.own 0 n3) (HNn.out X (HBY.out.trans ((HBx.out.trans (hb.mono HBx.out.size)).mono HBY.out.size))) (by show (0 + s.notes.length) * 40 ≤ _; have := HSm.out; omega) hG.le
          refine wp_of_run (run_exec_append (.tmp 94) (.tmp 96) 23 rfl (eval_tmp e94) (eval_tmp e96) hrun) ?_
          exact ⟨fun _ => hG.app n3 rfl ho hg hv, rd_step hI.rd (fun h => by cases h), fun h => absurd (n8.symm.trans h) (by simp)⟩
        · have n8 : L 8 = false := not_yet hcl 8 hL rfl (by kernel_rfl)
          have hG := hI.go n8
          have hb := hG.bel
          have e6 := hf.old 6 (by kernel_rfl)
          have d0 := (hb.cell (cell_lt D0.out)).trans D0.out
          have d1 := (hb.cell (cell_lt D1.out)).trans D1.out
          have d2 := (hb.cell (cell_lt D2.out)).trans D2.out
          have d3 := (hb.cell (cell_lt D3.out)).trans D3.out
          have d4 := (hb.cell (cell_lt D4.out)).trans D4.out
          refine wp_of_run (v := noteV x) (w' := X) (by unfold execOp noteV; go_simp) ?_
          exact ⟨fun _ => hG.skip rfl _, rd_step hI.rd (fun _ => rfl), fun h => absurd (n8.symm.trans h) (by simp)⟩
        · have n8 : L 8 = false := not_yet hcl 8 hL rfl (by kernel_rfl)
          have hG := hI.go n8
          have hb := hG.bel
          have h4 : L 4 = true := done_of hw 4 (by kernel_rfl)
          have e98 : b.tmps[98]?.getD undef = noteV x := (hf.new 4 98 rfl h4 (by simp)).trans (hI.rd 4 rfl h4)
          refine wp_of_run (run_exec_bs 23 1 _ rfl (vs := #[(0, noteV x)]) (by simp [eval_tmp e98]) (run_bsN1 x X)) ?_
          exact ⟨fun _ => hG.lit (i := 5) (n := 1) rfl (by omega) rfl, rd_step hI.rd (fun h => by cases h), fun h => absurd (n8.symm.trans h) (by simp)⟩
        · have n8 : L 8 = false := not_yet hcl 8 hL rfl (by kernel_rfl)
          have hG := hI.go n8
          have hb := hG.bel
          have h3 : L 3 = true := done_of hw 3 (by kernel_rfl)
          have e97 : b.tmps[97]?.getD undef = vs 3 := hf.new 3 97 rfl h3 (by simp)
          have h5 : L 5 = true := done_of hw 5 (by kernel_rfl)
          have e99 : b.tmps[99]?.getD undef = vs 5 := hf.new 5 99 rfl h5 (by simp)
          have n3 : lv own49 con49 L 3 := ⟨rfl, h3, hL⟩
          have n5 : lv own49 con49 L 5 := ⟨rfl, h5, hL⟩
          have hr5 := (hG.own 5 n5).rd
          obtain ⟨A5, c5, e5, _, _⟩ := (hG.own 5 n5).form
          rw [e5] at hr5 e99
          obtain ⟨v', X', hrun, ho, hg, hv⟩ := append_notes2 rfl (hG.own 3 n3) hr5 (by show (s.notes.length + 1) * 40 ≤ _; have := HSm.out; omega) hG.le
          refine wp_of_run (run_exec_append (.tmp 97) (.tmp 99) 23 rfl (eval_tmp e97) (eval_tmp e99) hrun) ?_
          exact ⟨fun _ => hG.app n3 rfl ho hg hv, rd_step hI.rd (fun h => by cases h), fun h => absurd (n8.symm.trans h) (by simp)⟩
        · have n8 : L 8 = false := not_yet hcl 8 hL rfl (by kernel_rfl)
          have hG := hI.go n8
          have hb := hG.bel
          have e2 := hf.old 2 (by kernel_rfl)
          refine wp_of_run (v := .pointer (some ⟨w.heap.size, 2, none⟩)) (w' := X) (by unfold execOp; go_simp) ?_
          exact ⟨fun _ => hG.skip rfl _, rd_step hI.rd (fun _ => rfl), fun h => absurd (n8.symm.trans h) (by simp)⟩
        · have h6 : L 6 = true := done_of hw 6 (by kernel_rfl)
          have e100 : b.tmps[100]?.getD undef = vs 6 := hf.new 6 100 rfl h6 (by simp)
          have h7 : L 7 = true := done_of hw 7 (by kernel_rfl)
          have e101 : b.tmps[101]?.getD undef = .pointer (some ⟨w.heap.size, 2, none⟩) := (hf.new 7 101 rfl h7 (by simp)).trans (hI.rd 7 rfl h7)
          have hG := hI.go hL
          have hb := hG.bel
          have n6 : lv own49 con49 L 6 := ⟨rfl, h6, hL⟩
          have ho := hG.own 6 n6
          have rs := ((HBx.out.trans (hb.mono HBx.out.size)).block _ (lt_of_block Hr1.out)).trans Hr1.out
          have q0 := cellOf rs 2 rfl
          have fx : X.frozen? ⟨w.heap.size, 2, none⟩ = false := by simp [World.frozen?, rs]
          obtain ⟨A6, c6, q6, _, _⟩ := ho.form
          rw [q6] at e100
          refine wp_of_skip (w' := X.setCell ⟨w.heap.size, 2, none⟩ (.slice A6 (xs49 s.notes x 6).length c6)) (by unfold execOp; go_simp) ?_
          exact ⟨fun h => (by cases h), rd_step hI.rd (fun h => by cases h), fun _ => ⟨X, hb, ho, by rw [← q6]; rfl⟩⟩
      · intro vs X hI
        obtain ⟨X0, hb, ho, rfl⟩ := hI.st rfl
        obtain ⟨A6, c6, q6, _, _⟩ := ho.form
        have hbW := HBx.out.trans (hb.mono HBx.out.size)
        have rs := (hbW.block _ (lt_of_block Hr1.out)).trans Hr1.out
        have rr := (hbW.block _ (lt_of_block Hr4.out)).trans Hr4.out
        have k1 : (X0.setCell ⟨w.heap.size, 2, none⟩ (vs 6)).heap[w.heap.size]? = some (.cells #[.int .i64 s.iv, .slice Ap s.pts.length cp, vs 6] 25) := (Joins.block_setCell rs _).trans rfl
        have k3 : (X0.setCell ⟨w.heap.size, 2, none⟩ (vs 6)).heap[w.heap.size + 1]? = some (.cells #[.int .i64 0, .slice none 0 0, .slice none 0 0] 25) := (Below.heap_setCell _ _ _ _ (by show w.heap.size + 1 ≠ w.heap.size; omega)).trans rr
        have hb0 := HBY.out.trans (hbW.mono HBY.out.size)
        have hbY : Below w.heap.size w (X0.setCell ⟨w.heap.size, 2, none⟩ (vs 6)) := hb0.setCell (Nat.le_refl _) _
        have hoY := ho.other (p := ⟨w.heap.size, 2, none⟩) (by show w.heap.size < _; have := HLt.out; omega) (vs 6)
        have hpY : Rd StrAt 1 B (X0.setCell ⟨w.heap.size, 2, none⟩ (vs 6)) (.slice Ap s.pts.length cp) s.pts := (HPp.out X0 hb0).setCell hB _
        clear hI ho hb rs rr hbW hb0
        simp [fill, slotOf, Act.put]
        simp only [Exit.inBlock, Exit.then]
        rw [q6] at *
        clear q6
        generalize hn6 : (s.notes ++ [x]).length = n6 at *
        have Hn6 := Lib.hid hn6
        clear hn6
        generalize X0.setCell ⟨w.heap.size, 2, none⟩ (.slice A6 n6 c6) = Y5 at *
        generalize vs 0 = yk0
        generalize vs 1 = yk1
        generalize vs 2 = yk2
        generalize vs 3 = yk3
        generalize vs 4 = yk4
        generalize vs 5 = yk5
        generalize vs 7 = yk7
        generalize vs 8 = yk8
        have K1 := Lib.hid k1
        have K3 := Lib.hid k3
        have HY := Lib.hid hbY
        have HO := Lib.hid hoY
        have HPY := Lib.hid hpY
        have p0 := cellOf k1 0 rfl
        have p1 := cellOf k1 1 rfl
        have p2 := cellOf k1 2 rfl
        clear k1 k3 hbY hoY hpY
        go_wp2_with (refine wpList_store_row rfl 25 (.tmp 4) (.tmp 102) rfl (w.heap.size + 1) #[.int .i64 s.iv, .slice Ap s.pts.length cp, .slice A6 n6 c6] rfl rfl 25 _ K3.out (by kernel_rfl) rfl (by simp [Value.oneCell']) ?_)
        have k4 := setRow_heap Y5 (w.heap.size + 1) _ #[.int .i64 s.iv, .slice Ap s.pts.length cp, .slice A6 n6 c6] 25 (0, 0) K3.out
        have hfin : Below w.heap.size w (Y5.setRow (w.heap.size + 1) #[.int .i64 s.iv, .slice Ap s.pts.length cp, .slice A6 n6 c6]) := HY.out.trans (setRow_below _ (by omega))
        refine bodyPost_ret (results88 k4 rfl rfl) rfl (rowQ_some HR.out ⟨_, _, rfl, ?_, ?_⟩ hfin)
        · exact (HPY.out.keep fun p hp => World.cell?_of_block (setRow_other _ _ _ _ (by omega))).mono (Nat.le_trans hB hfin.size)
        · rw [← HXe.out]
          show Rd NoteAt 5 _ _ _ (s.notes ++ [x])
          exact (Own.keepD HO.out fun b cs f hb hh => (setRow_other _ _ _ _ (by have := HLt.out; omega)).trans hh).rd
end Go.Proofs.YtajdgdelhlfniaaGreatDoor
