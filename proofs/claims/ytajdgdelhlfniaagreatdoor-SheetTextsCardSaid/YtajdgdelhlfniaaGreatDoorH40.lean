/- Walks of the reference of the layer sheet: row, of a point; of any line. Around the walk of the reference's Read: what the loop carries; results of two. -/
import Derived.Test.YtajdgdelhlfniaaGreatDoorH39
import Derived.Test.YtajdgdelhlfniaaGreatDoorH37
import Derived.Test.YtajdgdelhlfniaaGreatDoorH38
import Derived.Test.YtajdgdelhlfniaaGreatDoorH34
set_option linter.unusedSimpArgs false
set_option linter.unusedVariables false
namespace Go.Proofs.YtajdgdelhlfniaaGreatDoor
open Go.RowKit

theorem run_bsS0 (w : World) : (Instr.buildSlice 22 0 #[]).run Tryz.prog w = .ok (.slice (some ⟨w.heap.size, 0, none⟩) 0 0) (w.alloc (.cells #[] 9)) := by kernel_rfl
theorem run_bsS1 (x : ByteArray) (w : World) : (Instr.buildSlice 22 1 #[(0, .string x)]).run Tryz.prog w = .ok (.slice (some ⟨w.heap.size, 0, none⟩) 1 1) (w.alloc (.cells #[.string x] 9)) := by kernel_rfl
theorem enc_strs (ys : List ByteArray) : ys.flatMap (Enc.enc (α := ByteArray)) = ys.map Value.string := by
  induction ys with
  | nil => rfl
  | cons y ys ih => rw [List.flatMap_cons, ih]; rfl
theorem flat_strs {B : Nat} {w : World} {A : Option Addr} {n c : Nat} {ys : List ByteArray} (h : Rd StrAt 1 B w (.slice A n c) ys) (ad : Addr) (hA : A = some ad) : ∀ j u, (ys.flatMap (Enc.enc (α := ByteArray)))[j]? = some u → w.cell? (ad.add j) = some u := by
  intro j u hu
  rw [enc_strs, List.getElem?_map] at hu
  obtain ⟨y, hy, rfl⟩ := Option.map_eq_some_iff.1 hu
  obtain ⟨A0, c0, e0, _, _, hcell⟩ := h
  injection e0 with e1 e2 e3
  subst e1
  obtain ⟨ad', e, _, ha⟩ := hcell j y hy
  rw [hA] at e
  injection e with e
  subst e
  rw [Nat.mul_one] at ha
  exact ha
theorem append_strs2 {base B : Nat} {w : World} {v : Value} {xs ys : List ByteArray} {A : Option Addr} {c m : Nat} (hm : m = ys.length) (h : Own base 9 w v xs) (hr : Rd StrAt 1 B w (.slice A ys.length c) ys) (hn : xs.length + ys.length ≤ 1000000) (hbase : base ≤ w.heap.size) :
    ∃ v' w', (Builtin.append_ #[22, 22] 22 #[v, .slice A m c]).run Tryz.prog w = .ok v' w' ∧ Own base 9 w' v' (xs ++ ys) ∧ w.grownBy w' v.ownBlock ∧ (v'.ownBlock = v.ownBlock ∨ v'.ownBlock = some w.heap.size) :=
  append_gen (E := inferInstance) (bytes := 16) (by kernel_rfl) (by kernel_rfl) (by omega) (by intro x u hu; simp [Enc.enc] at hu; subst hu; rfl) hm h (fun e => by subst e; exact rd_none hr) (fun ad e => flat_strs hr ad e) (by unfold maxLen; omega) (by omega) hbase
def own88 (k : Nat) : Bool := k == 0 || k == 3 || k == 7 || k == 8
def con88 (k : Nat) : Nat := if k = 0 then 3 else if k = 3 then 8 else if k = 7 then 8 else 10
def xs88 (l : List ByteArray) (x : ByteArray) (k : Nat) : List ByteArray := if k = 0 then [] else if k = 3 then l else if k = 7 then [x] else l ++ [x]
def rd88 (k : Nat) : Bool := k == 1 || k == 2 || k == 4 || k == 5 || k == 6 || k == 9
structure RpI (W : World) (a : Nat) (l : List ByteArray) (x : ByteArray) (val : Nat → Value) (L : Nat → Bool) (vs : Nat → Value) (X : World) : Prop where
  go : L 10 = false → GO W.heap.size 9 W (lv own88 con88 L) (xs88 l x) vs X
  rd : ∀ k, rd88 k = true → L k = true → vs k = val k
  st : L 10 = true → ∃ X0, Below W.heap.size W X0 ∧ Own W.heap.size 9 X0 (vs 8) (l ++ [x]) ∧ X = X0.setCell ⟨a, 1, none⟩ (vs 8)
set_option maxRecDepth 100000 in
set_option maxHeartbeats 4000000 in
theorem row_point {B Bw : Nat} {w : World} {Ap An : Option Addr} {cp cn gw cw : Nat} {s : ShR} {ws : List ByteArray} (h : RowIn B Bw w Ap An cp cn gw cw s ws) (hx : wd ws 0 = wPoint) (hlen : ws.length = 2) : Calls Tryz.prog 88 #[.agg #[.int .i64 s.iv, .slice Ap s.pts.length cp, .slice An s.notes.length cn], .slice (some ⟨gw, 0, none⟩) ws.length cw] w fun e w' => RowQ s ws w e w' := by
  have hin := Lib.hid h
  obtain ⟨vp', vn', ehs, hp, hno⟩ := h.sh
  have hB := h.hB
  have hone := h.one
  simp at ehs
  obtain ⟨rfl, rfl⟩ := ehs
  have hcw : ws.length ≤ cw := by obtain ⟨A0, c0, e0, h1, _⟩ := h.wsr; cases e0; exact h1
  obtain ⟨W1, hW1, r1, z1, b1⟩ := box_any w #[.int .i64 s.iv, .slice Ap s.pts.length cp, .slice An s.notes.length cn] 25
  obtain ⟨W2, hW2, r2, z2, b2⟩ := box_any W1 #[.int .i64 0, .slice none 0 0, .slice none 0 0] 25
  have b12 := b1.trans (b2.mono b1.size)
  have q1 := (b2.block _ (by omega)).trans r1
  rw [z1] at r2
  have HBY := Lib.hid b12
  have HZ := Lib.hid (show W2.heap.size = w.heap.size + 2 by omega)
  have HC : Hid (∀ Z : World, Below W2.heap.size W2 Z → Z.cell? ⟨w.heap.size, 0, none⟩ = some (.int .i64 s.iv) ∧ Z.cell? ⟨w.heap.size, 1, none⟩ = some (.slice Ap s.pts.length cp) ∧ Z.cell? ⟨w.heap.size, 2, none⟩ = some (.slice An s.notes.length cn) ∧
      Z.heap[w.heap.size]? = some (.cells #[.int .i64 s.iv, .slice Ap s.pts.length cp, .slice An s.notes.length cn] 25) ∧ Z.heap[w.heap.size + 1]? = some (.cells #[.int .i64 0, .slice none 0 0, .slice none 0 0] 25) ∧ Below w.heap.size w Z) :=
    Lib.hid fun Z h => by
      have j1 := (h.block _ (lt_of_block q1)).trans q1
      have j2 := (h.block _ (lt_of_block r2)).trans r2
      exact ⟨cellOf j1 0 rfl, cellOf j1 1 rfl, cellOf j1 2 rfl, j1, j2, HBY.out.trans (h.mono HBY.out.size)⟩
  have HW : Hid (∀ (Z : World), Below w.heap.size w Z → ∀ i, i < ws.length → Z.cell? ⟨gw, i, none⟩ = some (.string (wd ws i))) := Lib.hid fun Z hZ i hi => word_at (hin.out.wsr.below (hZ.mono hin.out.hBw)) hi
  have HPl : Hid (∀ (Z : World), Below w.heap.size w Z → ∀ x, Calls Tryz.prog 93 #[.slice Ap s.pts.length cp, .string x] Z fun e w' => e = .returned (.int .i64 (plcF s.pts x)) ∧ Z = w') := Lib.hid fun Z hZ x => (place_any x (hp.below (hZ.mono hB))).mono fun e w' ⟨h1, h2⟩ => ⟨h1, h2.symm⟩
  have HPp : Hid (∀ (Z : World), Below w.heap.size w Z → Rd StrAt 1 B Z (.slice Ap s.pts.length cp) s.pts) := Lib.hid fun Z hZ => hp.below (hZ.mono hB)
  have HNn : Hid (∀ (Z : World), Below w.heap.size w Z → Rd NoteAt 5 B Z (.slice An s.notes.length cn) s.notes) := Lib.hid fun Z hZ => hno.below (hZ.mono hB)
  have hbx : Below W2.heap.size W2 W2 := Below.refl _ _
  obtain ⟨C0, C1, C2, R1, R4, hb⟩ := HC.out _ hbx
  have X0 := HW.out _ hb 0 (by omega)
  have Hr1 := Lib.hid R1
  have Hr4 := Lib.hid R4
  clear h r1 r2 z1 z2 b1 b2 b12 q1 hp hno R1 R4
  have HR := Lib.hid (show rowF s ws = some (addP s (wd ws 1)) by unfold rowF; rw [if_pos ⟨hx, hlen⟩])
  have HX0 := Lib.hid (show ∀ (Z : World), Below w.heap.size w Z → Z.cell? ⟨gw, 0, none⟩ = some (.string ⟨#[112, 111, 105, 110, 116]⟩) from fun Z hZ => by rw [HW.out Z hZ 0 (by omega), hx]; rfl)
  replace X0 := HX0.out _ hb
  clear hx
  have X1 := Lib.hid (HW.out _ hb 1 (by omega))
  have Hlen := Lib.hid hlen
  rw [hlen] at hcw ⊢
  clear hlen
  generalize wd ws 1 = x at *
  go_enter Tryz.func88, Tryz.ntmps88
  go_upto_region 1 with (fail)
  rw [← hW1, ← hW2]
  clear hW1 hW2
  go_upto_region 2 with (fail)
  have Q1 := Lib.hid C1
  have HSm := Lib.hid hin.out.pts
  clear C0 C1 C2 X0 hb hbx
  refine wp_region_ghost (RpI W2 w.heap.size s.pts x (fun jj => ([undef, .pointer (some ⟨w.heap.size, 1, none⟩), .slice Ap s.pts.length cp, undef, .slice (some ⟨gw, 0, none⟩) 2 cw, .pointer (some ⟨gw, 1, none⟩), .string x, undef, undef, .pointer (some ⟨w.heap.size, 1, none⟩), undef] : List Value).getD jj undef)) (by kernel_rfl) (by kernel_rfl) ?_ ?_ ?_
  · exact ⟨fun _ => ⟨(Below.refl _ _).drew, Nat.le_refl _, fun k h => (by cases h.2.1), fun j k h => (by cases h.2.1)⟩, fun _ _ h => (by cases h), fun h => (by cases h)⟩
  · refine ⟨?_, ?_, ?_, ?_, ?_, ?_, ?_, ?_, ?_, ?_, ?_, trivial⟩
    all_goals
      intro L vs X b hL hw hcl hI hf
    · have n10 : L 10 = false := not_yet hcl 10 hL rfl (by kernel_rfl)
      have hG := hI.go n10
      have hb := hG.bel
      refine wp_of_run (run_exec_bs 22 0 #[] rfl (vs := #[]) rfl (run_bsS0 X)) ?_
      exact ⟨fun _ => hG.lit (i := 0) (n := 0) rfl (by omega) rfl, rd_step hI.rd (fun h => by cases h), fun h => absurd (n10.symm.trans h) (by simp)⟩
    · have n10 : L 10 = false := not_yet hcl 10 hL rfl (by kernel_rfl)
      have hG := hI.go n10
      have hb := hG.bel
      have e2 := hf.old 2 (by kernel_rfl)
      refine wp_of_run (v := .pointer (some ⟨w.heap.size, 1, none⟩)) (w' := X) (by unfold execOp; go_simp) ?_
      exact ⟨fun _ => hG.skip rfl _, rd_step hI.rd (fun _ => rfl), fun h => absurd (n10.symm.trans h) (by simp)⟩
    · have n10 : L 10 = false := not_yet hcl 10 hL rfl (by kernel_rfl)
      have hG := hI.go n10
      have hb := hG.bel
      have h1 : L 1 = true := done_of hw 1 (by kernel_rfl)
      have e19 : b.tmps[19]?.getD undef = .pointer (some ⟨w.heap.size, 1, none⟩) := (hf.new 1 19 rfl h1 (by simp)).trans (hI.rd 1 rfl h1)
      have a0 := (hb.cell (cell_lt Q1.out)).trans Q1.out
      refine wp_of_run (v := .slice Ap s.pts.length cp) (w' := X) (by unfold execOp; go_simp) ?_
      exact ⟨fun _ => hG.skip rfl _, rd_step hI.rd (fun _ => rfl), fun h => absurd (n10.symm.trans h) (by simp)⟩
    · have n10 : L 10 = false := not_yet hcl 10 hL rfl (by kernel_rfl)
      have hG := hI.go n10
      have hb := hG.bel
      have h0 : L 0 = true := done_of hw 0 (by kernel_rfl)
      have e18 : b.tmps[18]?.getD undef = vs 0 := hf.new 0 18 rfl h0 (by simp)
      have h2 : L 2 = true := done_of hw 2 (by kernel_rfl)
      have e20 : b.tmps[20]?.getD undef = .slice Ap s.pts.length cp := (hf.new 2 20 rfl h2 (by simp)).trans (hI.rd 2 rfl h2)
      have m3 : L 3 = false := hL
      have n3 : lv own88 con88 L 0 := ⟨rfl, h0, hL⟩
      obtain ⟨v', X', hrun, ho, hg, hv⟩ := append_strs2 rfl (hG.own 0 n3) (HPp.out X (HBY.out.trans (hb.mono HBY.out.size))) (by show 0 + s.pts.length ≤ _; have := HSm.out; omega) hG.le
      refine wp_of_run (run_exec_append (.tmp 18) (.tmp 20) 22 rfl (eval_tmp e18) (eval_tmp e20) hrun) ?_
      exact ⟨fun _ => hG.app n3 rfl ho hg hv, rd_step hI.rd (fun h => by cases h), fun h => absurd (n10.symm.trans h) (by simp)⟩
    · have n10 : L 10 = false := not_yet hcl 10 hL rfl (by kernel_rfl)
      have hG := hI.go n10
      have hb := hG.bel
      have e1 := hf.old 1 (by kernel_rfl)
      refine wp_of_run (v := .slice (some ⟨gw, 0, none⟩) 2 cw) (w' := X) (by unfold execOp; go_simp) ?_
      exact ⟨fun _ => hG.skip rfl _, rd_step hI.rd (fun _ => rfl), fun h => absurd (n10.symm.trans h) (by simp)⟩
    · have n10 : L 10 = false := not_yet hcl 10 hL rfl (by kernel_rfl)
      have hG := hI.go n10
      have hb := hG.bel
      have h4 : L 4 = true := done_of hw 4 (by kernel_rfl)
      have e22 : b.tmps[22]?.getD undef = .slice (some ⟨gw, 0, none⟩) 2 cw := (hf.new 4 22 rfl h4 (by simp)).trans (hI.rd 4 rfl h4)
      refine wp_of_run (v := .pointer (some ⟨gw, 1, none⟩)) (w' := X) (by unfold execOp; go_simp) ?_
      exact ⟨fun _ => hG.skip rfl _, rd_step hI.rd (fun _ => rfl), fun h => absurd (n10.symm.trans h) (by simp)⟩
    · have n10 : L 10 = false := not_yet hcl 10 hL rfl (by kernel_rfl)
      have hG := hI.go n10
      have hb := hG.bel
      have h5 : L 5 = true := done_of hw 5 (by kernel_rfl)
      have e23 : b.tmps[23]?.getD undef = .pointer (some ⟨gw, 1, none⟩) := (hf.new 5 23 rfl h5 (by simp)).trans (hI.rd 5 rfl h5)
      have a0 := (hb.cell (cell_lt X1.out)).trans X1.out
      refine wp_of_run (v := .string x) (w' := X) (by unfold execOp; go_simp) ?_
      exact ⟨fun _ => hG.skip rfl _, rd_step hI.rd (fun _ => rfl), fun h => absurd (n10.symm.trans h) (by simp)⟩
    · have n10 : L 10 = false := not_yet hcl 10 hL rfl (by kernel_rfl)
      have hG := hI.go n10
      have hb := hG.bel
      have h6 : L 6 = true := done_of hw 6 (by kernel_rfl)
      have e24 : b.tmps[24]?.getD undef = .string x := (hf.new 6 24 rfl h6 (by simp)).trans (hI.rd 6 rfl h6)
      refine wp_of_run (run_exec_bs 22 1 _ rfl (vs := #[(0, .string x)]) (by simp [eval_tmp e24]) (run_bsS1 x X)) ?_
      exact ⟨fun _ => hG.lit (i := 7) (n := 1) rfl (by omega) rfl, rd_step hI.rd (fun h => by cases h), fun h => absurd (n10.symm.trans h) (by simp)⟩
    · have n10 : L 10 = false := not_yet hcl 10 hL rfl (by kernel_rfl)
      have hG := hI.go n10
      have hb := hG.bel
      have h3 : L 3 = true := done_of hw 3 (by kernel_rfl)
      have e21 : b.tmps[21]?.getD undef = vs 3 := hf.new 3 21 rfl h3 (by simp)
      have h7 : L 7 = true := done_of hw 7 (by kernel_rfl)
      have e25 : b.tmps[25]?.getD undef = vs 7 := hf.new 7 25 rfl h7 (by simp)
      have n3 : lv own88 con88 L 3 := ⟨rfl, h3, hL⟩
      have n7 : lv own88 con88 L 7 := ⟨rfl, h7, hL⟩
      have hr7 := (hG.own 7 n7).rd
      obtain ⟨A7, c7, e7, _, _⟩ := (hG.own 7 n7).form
      rw [e7] at hr7 e25
      obtain ⟨v', X', hrun, ho, hg, hv⟩ := append_strs2 rfl (hG.own 3 n3) hr7 (by show s.pts.length + 1 ≤ _; have := HSm.out; omega) hG.le
      refine wp_of_run (run_exec_append (.tmp 21) (.tmp 25) 22 rfl (eval_tmp e21) (eval_tmp e25) hrun) ?_
      exact ⟨fun _ => hG.app n3 rfl ho hg hv, rd_step hI.rd (fun h => by cases h), fun h => absurd (n10.symm.trans h) (by simp)⟩
    · have n10 : L 10 = false := not_yet hcl 10 hL rfl (by kernel_rfl)
      have hG := hI.go n10
      have hb := hG.bel
      have e2 := hf.old 2 (by kernel_rfl)
      refine wp_of_run (v := .pointer (some ⟨w.heap.size, 1, none⟩)) (w' := X) (by unfold execOp; go_simp) ?_
      exact ⟨fun _ => hG.skip rfl _, rd_step hI.rd (fun _ => rfl), fun h => absurd (n10.symm.trans h) (by simp)⟩
    · have h8 : L 8 = true := done_of hw 8 (by kernel_rfl)
      have e26 : b.tmps[26]?.getD undef = vs 8 := hf.new 8 26 rfl h8 (by simp)
      have h9 : L 9 = true := done_of hw 9 (by kernel_rfl)
      have e27 : b.tmps[27]?.getD undef = .pointer (some ⟨w.heap.size, 1, none⟩) := (hf.new 9 27 rfl h9 (by simp)).trans (hI.rd 9 rfl h9)
      have hG := hI.go hL
      have hb := hG.bel
      have n8 : lv own88 con88 L 8 := ⟨rfl, h8, hL⟩
      have ho := hG.own 8 n8
      have rs := (hb.block _ (lt_of_block Hr1.out)).trans Hr1.out
      have q0 := cellOf rs 1 rfl
      have fx : X.frozen? ⟨w.heap.size, 1, none⟩ = false := by simp [World.frozen?, rs]
      obtain ⟨A6, c6, q6, _, _⟩ := ho.form
      rw [q6] at e26
      refine wp_of_skip (w' := X.setCell ⟨w.heap.size, 1, none⟩ (.slice A6 (xs88 s.pts x 8).length c6)) (by unfold execOp; go_simp) ?_
      exact ⟨fun h => (by cases h), rd_step hI.rd (fun h => by cases h), fun _ => ⟨X, hb, ho, by rw [← q6]; rfl⟩⟩
  · intro vs X hI
    obtain ⟨X0, hb, ho, rfl⟩ := hI.st rfl
    obtain ⟨A6, c6, q6, _, _⟩ := ho.form
    have rs := (hb.block _ (lt_of_block Hr1.out)).trans Hr1.out
    have rr := (hb.block _ (lt_of_block Hr4.out)).trans Hr4.out
    have k1 : (X0.setCell ⟨w.heap.size, 1, none⟩ (vs 8)).heap[w.heap.size]? = some (.cells #[.int .i64 s.iv, vs 8, .slice An s.notes.length cn] 25) := (Joins.block_setCell rs _).trans rfl
    have k3 : (X0.setCell ⟨w.heap.size, 1, none⟩ (vs 8)).heap[w.heap.size + 1]? = some (.cells #[.int .i64 0, .slice none 0 0, .slice none 0 0] 25) := (Below.heap_setCell _ _ _ _ (by show w.heap.size + 1 ≠ w.heap.size; omega)).trans rr
    have hb0 := HBY.out.trans (hb.mono HBY.out.size)
    have hbY : Below w.heap.size w (X0.setCell ⟨w.heap.size, 1, none⟩ (vs 8)) := hb0.setCell (Nat.le_refl _) _
    have hoY := ho.other (p := ⟨w.heap.size, 1, none⟩) (by show w.heap.size < _; have := HZ.out; omega) (vs 8)
    have hpY : Rd NoteAt 5 B (X0.setCell ⟨w.heap.size, 1, none⟩ (vs 8)) (.slice An s.notes.length cn) s.notes := (HNn.out X0 hb0).setCell hB _
    clear hI ho hb rs rr hb0
    simp [fill, slotOf, Act.put]
    simp only [Exit.inBlock, Exit.then]
    rw [q6] at *
    clear q6
    generalize hn6 : (s.pts ++ [x]).length = n6 at *
    have Hn6 := Lib.hid hn6
    clear hn6
    generalize X0.setCell ⟨w.heap.size, 1, none⟩ (.slice A6 n6 c6) = Y5 at *
    generalize vs 0 = yk0
    generalize vs 1 = yk1
    generalize vs 2 = yk2
    generalize vs 3 = yk3
    generalize vs 4 = yk4
    generalize vs 5 = yk5
    generalize vs 6 = yk6
    generalize vs 7 = yk7
    generalize vs 9 = yk9
    generalize vs 10 = yk10
    have K1 := Lib.hid k1
    have K3 := Lib.hid k3
    have HY := Lib.hid hbY
    have HO := Lib.hid hoY
    have HPY := Lib.hid hpY
    have p0 := cellOf k1 0 rfl
    have p1 := cellOf k1 1 rfl
    have p2 := cellOf k1 2 rfl
    clear k1 k3 hbY hoY hpY
    go_wp2_with (refine wpList_store_row rfl 25 (.tmp 4) (.tmp 28) rfl (w.heap.size + 1) #[.int .i64 s.iv, .slice A6 n6 c6, .slice An s.notes.length cn] rfl rfl 25 _ K3.out (by kernel_rfl) rfl (by simp [Value.oneCell']) ?_)
    have k4 := setRow_heap Y5 (w.heap.size + 1) _ #[.int .i64 s.iv, .slice A6 n6 c6, .slice An s.notes.length cn] 25 (0, 0) K3.out
    have hfin : Below w.heap.size w (Y5.setRow (w.heap.size + 1) #[.int .i64 s.iv, .slice A6 n6 c6, .slice An s.notes.length cn]) := HY.out.trans (setRow_below _ (by omega))
    refine bodyPost_ret (results88 k4 rfl rfl) rfl (rowQ_some HR.out ⟨_, _, rfl, ?_, ?_⟩ hfin)
    · show Rd StrAt 1 _ _ _ (s.pts ++ [x])
      exact (Own.keepD HO.out fun b cs f hb hh => (setRow_other _ _ _ _ (by have := HZ.out; omega)).trans hh).rd
    · exact (HPY.out.keep fun p hp => World.cell?_of_block (setRow_other _ _ _ _ (by omega))).mono (Nat.le_trans hB hfin.size)
theorem row_any {B Bw : Nat} {w : World} {Ap An : Option Addr} {cp cn gw cw : Nat} {s : ShR} {ws : List ByteArray} (h : RowIn B Bw w Ap An cp cn gw cw s ws) : Calls Tryz.prog 88 #[.agg #[.int .i64 s.iv, .slice Ap s.pts.length cp, .slice An s.notes.length cn], .slice (some ⟨gw, 0, none⟩) ws.length cw] w fun e w' => RowQ s ws w e w' := by
  by_cases hp : wd ws 0 = wPoint ∧ ws.length = 2
  · exact row_point h hp.1 hp.2
  by_cases hl : ws.length < 3
  · exact row_short h hp hl
  by_cases h1 : wd ws 0 = wSpot
  · by_cases hn : ws.length = 4
    · exact row_wSpot_good h h1 hn
    · exact row_wSpot_bad h (by omega) h1 hn
  by_cases h2 : wd ws 0 = wContour
  · by_cases hn : ws.length = 4
    · exact row_wContour_good h h2 hn
    · exact row_wContour_bad h (by omega) h2 hn
  by_cases h3 : wd ws 0 = wLake
  · by_cases hn : ws.length = 3
    · exact row_wLake_good h h3 hn
    · exact row_wLake_bad h (by omega) h3 hn
  by_cases h4 : wd ws 0 = wSlope
  · by_cases hn : ws.length = 5
    · exact row_wSlope_good h h4 hn
    · exact row_wSlope_bad h (by omega) h4 hn
  exact row_nokey h (by omega) h1 h2 h3 h4
end Go.Proofs.YtajdgdelhlfniaaGreatDoor
namespace Go.Proofs.YtajdgdelhlfniaaGreatDoor
open Go.RowKit

/-! ### what is read stays where a block that holds a sheet is written anew -/
theorem cell_in3 {w : World} {p : Addr} {v x y z : Value} {T : TypeId} {f : Nat × Nat} (h : w.cell? p = some v) (hg : w.heap[p.block]? = some (.cells #[x, y, z] T f)) : (p.off = 0 ∧ v = x) ∨ (p.off = 1 ∧ v = y) ∨ (p.off = 2 ∧ v = z) := by
  unfold World.cell? at h
  rw [hg] at h
  simp only at h
  split at h
  · cases h
  · obtain ⟨b, o, sp⟩ := p
    simp only at h ⊢
    match o, h with
    | 0, h => exact .inl ⟨rfl, (by simpa using h : x = v).symm⟩
    | 1, h => exact .inr (.inl ⟨rfl, (by simpa using h : y = v).symm⟩)
    | 2, h => exact .inr (.inr ⟨rfl, (by simpa using h : z = v).symm⟩)
    | n + 3, h => simp at h
theorem RdSh.setRow25 {B : Nat} {w : World} {v : Value} {s : ShR} {g : Nat} {a : Int} {A1 A2 : Option Addr} {n1 c1 n2 c2 : Nat} (h : RdSh B w v s) (hg : w.heap[g]? = some (.cells #[.int .i64 a, .slice A1 n1 c1, .slice A2 n2 c2] 25)) (cs : Array Value) : RdSh B (w.setRow g cs) v s := by
  obtain ⟨vp, vn, e, ⟨A, cap, e1, h1, h2, h3⟩, ⟨A', cap', e1', h1', h2', h3'⟩⟩ := h
  refine ⟨vp, vn, e, ⟨A, cap, e1, h1, h2, fun i x hx => ?_⟩, ⟨A', cap', e1', h1', h2', fun i x hx => ?_⟩⟩
  · obtain ⟨ad, e2, hb, ha⟩ := h3 i x hx
    refine ⟨ad, e2, hb, ?_⟩
    have hne : (ad.add (i * 1)).block ≠ g := by
      intro e
      rw [← e] at hg
      rcases cell_in3 ha hg with h | h | h <;> cases h.2
    exact (World.cell?_of_block (setRow_other _ _ _ _ hne)).trans ha
  · obtain ⟨ad, e2, hb, ha⟩ := h3' i x hx
    refine ⟨ad, e2, hb, ?_⟩
    have hne : (ad.add (i * 5)).block ≠ g := by
      intro e
      rw [← e] at hg
      rcases cell_in3 (p := ⟨(ad.add (i * 5)).block, (ad.add (i * 5)).off + 1, none⟩) ha.2.1 hg with h | h | h
      · exact absurd h.1 (by simp)
      · cases h.2
      · cases h.2
    exact AtKeep.keep w _ _ x (fun p hp => World.cell?_of_block (setRow_other _ _ _ _ (by rw [hp]; exact hne))) ha

/-! ### what the loop carries -/
theorem rowsF_none {s : ShR} {l : List (List ByteArray)} {k : Nat} (h : rowsF s (l.take k) = none) : rowsF s l = none := by
  conv => lhs; rw [← List.take_append_drop k l]
  rw [rowsF_append, h]
  rfl
theorem rowsF_next {s t : ShR} {l : List (List ByteArray)} {k : Nat} (hk : k < l.length) (h : rowsF s (l.take k) = some t) : rowsF s (l.take (k + 1)) = rowF t (l.getD k []) := by
  have e : l.take (k + 1) = l.take k ++ [l.getD k []] := by
    rw [List.take_add_one, List.getD_eq_getElem?_getD, List.getElem?_eq_getElem hk]
    rfl
  rw [e, rowsF_append, h]
  show (rowF t (l.getD k [])).bind (fun u => some u) = _
  cases rowF t (l.getD k []) <;> rfl
structure RowsB (k : Nat) (s : ShR) : Prop where
  pts : s.pts.length ≤ k
  nts : s.notes.length ≤ k
  names : ∀ p ∈ s.pts, p.size ≤ 10000
theorem rowF_b {k : Nat} {s t : ShR} {ws : List ByteArray} (hs : RowsB k s) (hw : ∀ x ∈ ws, x.size ≤ 10000) (h : rowF s ws = some t) : RowsB (k + 1) t := by
  obtain ⟨h1, h2, h3⟩ := hs
  have hn : ∀ x : NoteR, some (addN s x) = some t → RowsB (k + 1) t := by
    intro x e
    cases e
    exact ⟨Nat.le_succ_of_le h1, by show (s.notes ++ [x]).length ≤ _; simp; omega, h3⟩
  unfold rowF at h
  split at h
  · rename_i hc
    cases h
    refine ⟨by show (s.pts ++ [_]).length ≤ _; simp; omega, Nat.le_succ_of_le h2, fun p hp => ?_⟩
    rcases List.mem_append.1 (show p ∈ s.pts ++ [wd ws 1] from hp) with hp | hp
    · exact h3 p hp
    · simp at hp
      subst hp
      unfold wd
      rw [List.getElem?_eq_getElem (by omega)]
      exact hw _ (List.getElem_mem _)
  · repeat' (first | (cases h; done) | exact hn _ h | split at h)
theorem cutB_len (t : ByteArray) (c : UInt8) : 1 ≤ (cutB t c).length ∧ (cutB t c).length ≤ t.size + 1 := by
  unfold cutB
  rw [List.length_map]
  have h1 := cutL_len (c := c) t.data.toList
  have h2 := cutL_ne (c := c) t.data.toList
  have h3 : t.data.toList.length = t.size := by simp
  refine ⟨?_, by omega⟩
  cases h : cutL c t.data.toList with
  | nil => exact absurd h h2
  | cons x l => simp
theorem cutB_small {t : ByteArray} {c : UInt8} {p : ByteArray} (h : p ∈ cutB t c) : p.size ≤ t.size := by
  unfold cutB at h
  obtain ⟨x, hx, rfl⟩ := List.mem_map.1 h
  rw [toB_size]
  have h3 : t.data.toList.length = t.size := by simp
  have := cutL_small hx
  omega
theorem wd_cut {t : ByteArray} {c : UInt8} (i : Nat) : (wd (cutB t c) i).size ≤ t.size := by
  unfold wd
  cases hi : (cutB t c)[i]? with
  | none => simp
  | some x => exact cutB_small (List.mem_of_getElem? hi)
theorem mids_len (t : ByteArray) : (midsOf t).length = (cutB t 10).length - 2 := by
  unfold midsOf
  simp
  omega
theorem mids_at {t : ByteArray} {k : Nat} (hk : k < (midsOf t).length) : (midsOf t).getD k [] = cutB (wd (cutB t 10) (k + 1)) 32 := by
  have hl := mids_len t
  have h1 : k + 1 < (cutB t 10).length := by omega
  rw [List.getD_eq_getElem?_getD]
  unfold midsOf wd
  rw [List.getElem?_map, List.getElem?_take, if_pos (by omega), List.getElem?_drop, Nat.add_comm 1 k, List.getElem?_eq_getElem h1]
  rfl

/-! ### two results, the first in a cell -/
theorem results40 {w : World} {g : Nat} {x y z : Value} {n : Int} {tmps : Array Value} (h1 : w.heap[g]? = some (.cells #[x, y, z] 25)) (t1 : tmps[2]?.getD undef = .pointer (some ⟨g, 0, none⟩)) (t2 : tmps[3]?.getD undef = .int .i64 n) :
    (results Tryz.f40 tmps).run Tryz.prog w = .ok (.tuple #[.agg #[x, y, z], .int .i64 n]) w := by
  have hl := load25 h1
  clear h1
  simp [results, Tryz.results40, t1, t2, asAddr, hl]

theorem RdSh.shV {B : Nat} {w : World} {iv : Int} {A1 A2 : Option Addr} {n1 c1 n2 c2 : Nat} {t : ShR} (h : RdSh B w (shV iv A1 n1 c1 A2 n2 c2) t) : iv = t.iv ∧ n1 = t.pts.length ∧ n2 = t.notes.length := by
  obtain ⟨vp, vn, e, ⟨A, cap, e1, _⟩, ⟨A', cap', e2, _⟩⟩ := h
  subst e1 e2
  unfold Go.Proofs.YtajdgdelhlfniaaGreatDoor.shV at e
  simp at e
  exact ⟨e.1, e.2.1.2.1, e.2.2.2.1⟩
theorem RowsB.named {k : Nat} {s : ShR} (h : RowsB k s) : Named s := fun p hp => Nat.le_trans (h.names p hp) (by omega)
theorem beq_false40 {x y : ByteArray} (h : ¬ x = y) : (x.toList == y.toList) = false := ne_list (fun e => h (by rw [e]; exact ByteArray.ext (by rw [ByteArray.toList_eq])))
theorem eval_cst40 (b : Act) (v : Value) : b.eval (.const v) = v := rfl

/-! ### the drawn region -/
def RowV (s : ShR) (ws : List ByteArray) (v : Value) : Prop := ∃ iv A1 n1 c1 A2 n2 c2, v = .tuple #[shV iv A1 n1 c1 A2 n2 c2, .bool (rowF s ws).isSome]
def F40 (B : Nat) (s : ShR) (ws : List ByteArray) (val : Nat → Value) (k : Nat) (v : Value) (X : World) : Prop :=
  match k with
  | 5 => ∃ g c, v = .slice (some ⟨g, 0, none⟩) ws.length c ∧ Rd StrAt 1 X.heap.size X (.slice (some ⟨g, 0, none⟩) ws.length c) ws
  | 6 | 7 => ∃ iv A1 n1 c1 A2 n2 c2, v = .tuple #[shV iv A1 n1 c1 A2 n2 c2, .bool (rowF s ws).isSome] ∧ ∀ t, rowF s ws = some t → RdSh X.heap.size X (shV iv A1 n1 c1 A2 n2 c2) t
  | 8 => ∃ iv A1 n1 c1 A2 n2 c2, v = shV iv A1 n1 c1 A2 n2 c2 ∧ ∀ t, rowF s ws = some t → RdSh X.heap.size X (shV iv A1 n1 c1 A2 n2 c2) t
  | 10 => ∃ g, v = .pointer (some ⟨g, 0, none⟩) ∧ B ≤ g ∧ X.heap[g]? = some (.cells #[.int .i64 0, .slice none 0 0, .slice none 0 0] 25)
  | _ => v = val k
theorem F40.keeps (B : Nat) (s : ShR) (ws : List ByteArray) (val : Nat → Value) : Keeps (F40 B s ws val) := by
  intro k v X X' hF hb
  match k, hF with
  | 5, hF => obtain ⟨A, c, e, hr⟩ := hF; exact ⟨A, c, e, (hr.below hb).mono hb.size⟩
  | 6, hF | 7, hF | 8, hF => obtain ⟨iv, A1, n1, c1, A2, n2, c2, e, h⟩ := hF; exact ⟨iv, A1, n1, c1, A2, n2, c2, e, fun t ht => ((h t ht).below hb).mono hb.size⟩
  | 10, hF => obtain ⟨g, e, hg, hx⟩ := hF; exact ⟨g, e, hg, (hb.block _ (lt_of_block hx)).trans hx⟩
  | 0, hF | 1, hF | 2, hF | 3, hF | 4, hF | 9, hF => exact hF
  | n + 11, hF => exact hF
structure T40I (W : World) (s : ShR) (ws : List ByteArray) (val : Nat → Value) (L : Nat → Bool) (vs : Nat → Value) (X : World) : Prop where
  p7 : L 7 = true → RowV s ws (vs 7)
  p9 : L 9 = true → vs 9 = .bool (rowF s ws).isSome
  p12 : L 12 = true → vs 12 = .bool (rowF s ws).isSome
  go : L 11 = false → BlI W (F40 W.heap.size s ws val) L vs X
  st : L 11 = true → ∃ (X0 : World) (g : Nat) (iv : Int) (A1 : Option Addr) (n1 c1 : Nat) (A2 : Option Addr) (n2 c2 : Nat), Below W.heap.size W X0 ∧ (∀ t, rowF s ws = some t → RdSh X0.heap.size X0 (shV iv A1 n1 c1 A2 n2 c2) t) ∧
    vs 10 = .pointer (some ⟨g, 0, none⟩) ∧ W.heap.size ≤ g ∧ X0.heap[g]? = some (.cells #[.int .i64 0, .slice none 0 0, .slice none 0 0] 25) ∧ X = X0.setRow g #[.int .i64 iv, .slice A1 n1 c1, .slice A2 n2 c2]
section
variable {W : World} {s : ShR} {ws : List ByteArray} {val : Nat → Value} {L : Nat → Bool} {vs : Nat → Value} {X X' : World} {i : Nat} {v : Value}
theorem T40I.start : T40I W s ws val (fun _ => false) (fun _ => undef) W.drew := ⟨fun h => (by cases h), fun h => (by cases h), fun h => (by cases h), fun _ => BlI.start, fun h => (by cases h)⟩
theorem T40I.step (h : T40I W s ws val L vs X) (hn : L 11 = false) (h7 : i ≠ 7) (h9 : i ≠ 9) (h12 : i ≠ 12) (h11 : i ≠ 11) (hb : Below X.heap.size X X') (hv : F40 W.heap.size s ws val i v X') : T40I W s ws val (updB L i) (updV vs i v) X' :=
  ⟨fun a => by rw [updV_other _ _ (Ne.symm h7)]; rw [updB_other _ (Ne.symm h7)] at a; exact h.p7 a,
   fun a => by rw [updV_other _ _ (Ne.symm h9)]; rw [updB_other _ (Ne.symm h9)] at a; exact h.p9 a,
   fun a => by rw [updV_other _ _ (Ne.symm h12)]; rw [updB_other _ (Ne.symm h12)] at a; exact h.p12 a,
   fun _ => (h.go hn).step (F40.keeps _ _ _ _) hb hv,
   fun a => by rw [updB_other _ (Ne.symm h11), hn] at a; cases a⟩
theorem T40I.step7 (h : T40I W s ws val L vs X) (hn : L 11 = false) (hv : F40 W.heap.size s ws val 7 v X) : T40I W s ws val (updB L 7) (updV vs 7 v) X :=
  ⟨fun _ => by rw [updV_self]; obtain ⟨iv, A1, n1, c1, A2, n2, c2, e, _⟩ := hv; exact ⟨iv, A1, n1, c1, A2, n2, c2, e⟩,
   fun a => by rw [updV_other _ _ (by omega)]; rw [updB_other _ (by omega)] at a; exact h.p9 a,
   fun a => by rw [updV_other _ _ (by omega)]; rw [updB_other _ (by omega)] at a; exact h.p12 a,
   fun _ => (h.go hn).read (F40.keeps _ _ _ _) hv,
   fun a => by rw [updB_other _ (by omega), hn] at a; cases a⟩
theorem T40I.late (h : T40I W s ws val L vs X) (hi : i = 9 ∨ i = 12) (hv : val i = .bool (rowF s ws).isSome) : T40I W s ws val (updB L i) (updV vs i (.bool (rowF s ws).isSome)) X := by
  have h7 : 7 ≠ i := by omega
  have h10 : 10 ≠ i := by omega
  have h11 : 11 ≠ i := by omega
  refine ⟨fun a => ?_, fun a => ?_, fun a => ?_, fun a => ?_, fun a => ?_⟩
  · rw [updV_other _ _ h7]; rw [updB_other _ h7] at a; exact h.p7 a
  · by_cases e : 9 = i
    · subst e; exact updV_self _ _ _
    · rw [updV_other _ _ e]; rw [updB_other _ e] at a; exact h.p9 a
  · by_cases e : 12 = i
    · subst e; exact updV_self _ _ _
    · rw [updV_other _ _ e]; rw [updB_other _ e] at a; exact h.p12 a
  · rw [updB_other _ h11] at a
    refine (h.go a).read (F40.keeps _ _ _ _) ?_
    rcases hi with rfl | rfl <;> exact hv.symm
  · rw [updB_other _ h11] at a
    rw [updV_other _ _ h10]
    exact h.st a
theorem T40I.store (h : T40I W s ws val L vs X) (hn : L 11 = false) {g : Nat} {iv : Int} {A1 A2 : Option Addr} {n1 c1 n2 c2 : Nat} (hr : ∀ t, rowF s ws = some t → RdSh X.heap.size X (shV iv A1 n1 c1 A2 n2 c2) t) (h10 : vs 10 = .pointer (some ⟨g, 0, none⟩)) (hg : W.heap.size ≤ g) (hx : X.heap[g]? = some (.cells #[.int .i64 0, .slice none 0 0, .slice none 0 0] 25)) :
    T40I W s ws val (updB L 11) (updV vs 11 v) (X.setRow g #[.int .i64 iv, .slice A1 n1 c1, .slice A2 n2 c2]) :=
  ⟨fun a => by rw [updV_other _ _ (by omega)]; rw [updB_other _ (by omega)] at a; exact h.p7 a,
   fun a => by rw [updV_other _ _ (by omega)]; rw [updB_other _ (by omega)] at a; exact h.p9 a,
   fun a => by rw [updV_other _ _ (by omega)]; rw [updB_other _ (by omega)] at a; exact h.p12 a,
   fun a => (by rw [updB_self] at a; cases a),
   fun _ => ⟨X, g, iv, A1, n1, c1, A2, n2, c2, (h.go hn).bel, hr, by rw [updV_other _ _ (by omega)]; exact h10, hg, hx, rfl⟩⟩
end
end Go.Proofs.YtajdgdelhlfniaaGreatDoor
