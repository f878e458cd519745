/- The law SheetWider: its walk. -/
import Derived.Test.YtajdgdelhlfniaaGreatDoorGTo
import Derived.Test.YtajdgdelhlfniaaGreatDoorAtW
import Derived.Test.YtajdgdelhlfniaaGreatDoorGSl
set_option linter.unusedSimpArgs false
set_option linter.unusedVariables false
namespace Go.Proofs.YtajdgdelhlfniaaGreatDoor
open Go.RowKit

theorem enter45 : ∀ args w, (callFunc 45 args).run Tryz.prog w = .ok (.enter 45 args) w := enters_of Tryz.func45 (by kernel_rfl) rfl
theorem enter46 : ∀ args w, (callFunc 46 args).run Tryz.prog w = .ok (.enter 46 args) w := enters_of Tryz.func46 (by kernel_rfl) rfl
theorem eval_cst (b : Act) (v : Value) : b.eval (.const v) = v := rfl
/-- what each operation of the region that tells has yielded -/
def F13 (B : Nat) (s : ShR) (vp : Value) (h : List Int) (l : List NoteR) (val : Nat → Value) (k : Nat) (v : Value) (X : World) : Prop :=
  match k with
  | 4 => ∃ A c, v = .slice A s.pts.length c ∧ Rd IntAt 1 X.heap.size X v h
  | 5 => ∃ A2 c2, v = .agg #[.int .i64 s.iv, vp, .slice A2 l.length c2] ∧ Own B 69 X (.slice A2 l.length c2) l
  | 6 => ∃ g, v = .pointer (some ⟨g, 0, none⟩) ∧ B ≤ g ∧ X.heap[g]? = some (.cells #[.int .i64 0, .slice none 0 0, .slice none 0 0] 25)
  | _ => v = val k
theorem F13.keeps (B : Nat) (s : ShR) (vp : Value) (h : List Int) (l : List NoteR) (val : Nat → Value) : Keeps (F13 B s vp h l val) := by
  intro k v X X' hF hb
  match k, hF with
  | 4, hF => obtain ⟨A, c, e, hr⟩ := hF; exact ⟨A, c, e, (hr.below hb).mono hb.size⟩
  | 5, hF => obtain ⟨A2, c2, e, ho⟩ := hF; exact ⟨A2, c2, e, ho.below hb⟩
  | 6, hF => obtain ⟨g, e, hg, hx⟩ := hF; exact ⟨g, e, hg, (hb.block _ (lt_of_block hx)).trans hx⟩
  | 0, hF | 1, hF | 2, hF | 3, hF => exact hF
  | n + 7, hF => exact hF
theorem movL_keep {off : List Int} {b : Int} {l : List NoteR} {k : Nat} {x : NoteR} (hx : l.getD k default = x) (h1 : x.kind ≠ 1) (h4 : x.kind ≠ 4) : movL off b l (k + 1) = movL off b l k := by
  apply List.ext_getElem?
  intro i
  by_cases hi : i < l.length
  · rw [movL_at hi, movL_at hi]
    by_cases e : i = k
    · subst e
      rw [if_pos (by omega), if_neg (by omega), hx]
      simp [movN, h1, h4]
    · by_cases e2 : i < k
      · rw [if_pos (by omega), if_pos e2]
      · rw [if_neg (by omega), if_neg e2]
  · rw [List.getElem?_eq_none (by rw [movL_len]; omega), List.getElem?_eq_none (by rw [movL_len]; omega)]
structure T13I (W : World) (s : ShR) (vp : Value) (h : List Int) (l : List NoteR) (val : Nat → Value) (L : Nat → Bool) (vs : Nat → Value) (X : World) : Prop where
  go : L 7 = false → BlI W (F13 W.heap.size s vp h l val) L vs X
  st : L 7 = true → ∃ (X0 : World) (g : Nat) (A2 : Option Addr) (c2 : Nat), Below W.heap.size W X0 ∧ vs 5 = .agg #[.int .i64 s.iv, vp, .slice A2 l.length c2] ∧ Own W.heap.size 69 X0 (.slice A2 l.length c2) l ∧
    vs 6 = .pointer (some ⟨g, 0, none⟩) ∧ W.heap.size ≤ g ∧ X0.heap[g]? = some (.cells #[.int .i64 0, .slice none 0 0, .slice none 0 0] 25) ∧ X = X0.setRow g #[.int .i64 s.iv, vp, .slice A2 l.length c2]

theorem enter21w : ∀ args w, (callFunc 21 args).run Tryz.prog w = .ok (.enter 21 args) w := enters_of Tryz.func21 (by kernel_rfl) rfl
theorem enter55 : ∀ args w, (callFunc 55 args).run Tryz.prog w = .ok (.enter 55 args) w := enters_of Tryz.func55 (by kernel_rfl) rfl
theorem wider_err {B : Nat} {w : World} {v : Value} {s : ShR} (he : errOf s ≠ 0) (hs : RdSh B w v s) (hn : Named s) (hB : B ≤ w.heap.size) :
    Calls Tryz.prog 35 #[v] w fun e w' => e = .returned (.tuple #[.int .i64 0, .int .i64 (errOf s)]) ∧ Below w.heap.size w w' := by
  refine (wider_any hs hn hB).mono ?_
  rintro e w' ⟨n, rfl, h0, _, hb⟩
  rw [h0 he]
  exact ⟨rfl, hb⟩

set_option maxRecDepth 100000 in
set_option maxHeartbeats 4000000 in
theorem wide_any {B B0 B1 : Nat} {w : World} {v v0 v1 : Value} {s : ShR} {l0 l1 : List Int} {u : Int} (hs : RdSh B w v s) (hn : Named s) (hB : B ≤ w.heap.size) (h0 : Rd U16At 1 B0 w v0 l0) (hl0 : ∀ x ∈ l0, 0 ≤ x ∧ x ≤ 65535) (hB0 : B0 ≤ w.heap.size) (h1 : Rd U16At 1 B1 w v1 l1) (hl1 : ∀ x ∈ l1, 0 ≤ x ∧ x ≤ 65535) (hB1 : B1 ≤ w.heap.size)
    (hu0 : 0 ≤ u) (hu1 : u ≤ 65535) (hgl : Glob w) :
    Calls Tryz.prog 13 #[v, .agg #[v0, v1], .int .u16 u] w fun e w' => e = .returned (.bool true) ∧ Below w.heap.size w w' := by
  have HSR := Lib.hid (fun (X : World) (hb : Below w.heap.size w X) => hs.below (hb.mono hB))
  have HX0 := Lib.hid (fun (X : World) (hb : Below w.heap.size w X) => h0.below (hb.mono hB0))
  have HX1 := Lib.hid (fun (X : World) (hb : Below w.heap.size w X) => h1.below (hb.mono hB1))
  have HA := Lib.hid (fun (X : World) (hb : Below w.heap.size w X) => awake_any (w := X) (hgl.below hb))
  have HN := Lib.hid hn
  have HL0 := Lib.hid hl0
  have HL1 := Lib.hid hl1
  have HBd := Lib.hid (turnF_bounds hl1)
  obtain ⟨vp, vn, rfl, hpp, hnn⟩ := hs
  obtain ⟨Ap, cp, rfl, _⟩ := id hpp
  obtain ⟨An, cn, rfl, _⟩ := id hnn
  obtain ⟨A0, c0, rfl, _⟩ := id h0
  obtain ⟨A1, c1, rfl, _⟩ := id h1
  obtain ⟨W1, hW1, r1, z1, b1⟩ := box_any w #[.int .i64 s.iv, .slice Ap s.pts.length cp, .slice An s.notes.length cn] 25
  obtain ⟨W2, hW2, r2, z2, b2⟩ := box_any W1 #[.slice A0 l0.length c0, .slice A1 l1.length c1] 59
  have b12 := b1.trans (b2.mono b1.size)
  have q1 := (b2.block _ (by omega)).trans r1
  rw [z1] at r2
  have HBY := Lib.hid b12
  have HC : Hid (∀ Z : World, Below W2.heap.size W2 Z → Z.cell? ⟨w.heap.size, 0, none⟩ = some (.int .i64 s.iv) ∧ Z.cell? ⟨w.heap.size, 1, none⟩ = some (.slice Ap s.pts.length cp) ∧ Z.cell? ⟨w.heap.size, 2, none⟩ = some (.slice An s.notes.length cn) ∧
      Z.cell? ⟨w.heap.size + 1, 0, none⟩ = some (.slice A0 l0.length c0) ∧ Z.cell? ⟨w.heap.size + 1, 1, none⟩ = some (.slice A1 l1.length c1) ∧ Below w.heap.size w Z) :=
    Lib.hid fun Z h => by
      have j1 := (h.block _ (lt_of_block q1)).trans q1
      have j2 := (h.block _ (lt_of_block r2)).trans r2
      exact ⟨cellOf j1 0 rfl, cellOf j1 1 rfl, cellOf j1 2 rfl, cellOf j2 0 rfl, cellOf j2 1 rfl, HBY.out.trans (h.mono HBY.out.size)⟩
  clear r1 r2 z1 z2 b1 b2 b12 q1 hn hgl hpp hnn h0 h1 hl0 hl1
  go_enter Tryz.func13, Tryz.ntmps13
  go_upto_region 1 with (fail)
  rw [← hW1, ← hW2]
  clear hW1 hW2
  have hbx : Below W2.heap.size W2 W2 := Below.refl _ _
  obtain ⟨C0, C1, C2, D0, D1, hb⟩ := HC.out _ hbx
  have HV := Lib.hid (fun (Z : World) (h : Below w.heap.size w Z) => valid_any (HSR.out Z h) HN.out (Nat.le_trans hB h.size))
  by_cases hv : errOf s = 0
  · have hd : decide (errOf s = 0) = true := decide_eq_true hv
    rw [hd] at HV
    have hg := good_of_valid hv
    have HD := Lib.hid (fun (Z : World) (h : Below w.heap.size w Z) => wider_atW hv (HSR.out Z h) HN.out (Nat.le_trans hB h.size))
    go_upto_region 2 with (go_at_call 35; (with_reducible refine Calls.mono (HD.out _ hb) ?_); rintro e X ⟨n, rfl, hiw, h4⟩; replace hbx := hbx.trans (h4.mono hbx.size); clear C0 C1 C2 D0 D1 hb h4; obtain ⟨C0, C1, C2, D0, D1, hb⟩ := HC.out _ hbx)
    have HF := Lib.hid (fun (Z : World) (h : Below w.heap.size w Z) => fits_atW (f := decide (n = 0)) (by rw [Bool.eq_iff_iff, decide_eq_true_iff]; exact (wider_zero hg hiw).symm) hv (HSR.out Z h) HN.out (Nat.le_trans hB h.size))
    have hn0 := hiw.ge
    have hn9 := hiw.le
    have t1 : ¬ n < 0 := by omega
    have t2 : ¬ 9000 < n := by omega
    have t3 : (!decide (n = 0) == (n == 0)) = false := by by_cases n = 0 <;> simp [*]
    have HIw := Lib.hid hiw
    have HGd := Lib.hid hg
    have HVd := Lib.hid hv
    have hpl := hg.plen
    have hT := mov_wider hg (off := l1) (truthL_len l0 s.pts.length) (fun x hx => truthL_mem hx) (b := u % 40) (by omega)
    have HTr := Lib.hid (fun (Z : World) (h : Below w.heap.size w Z) => truth_atW (HSR.out Z h) (HX0.out Z h) HL0.out (Nat.le_trans hB h.size) (Nat.le_trans hB0 h.size) (by omega))
    have HTo := Lib.hid (fun (Z : World) (h : Below w.heap.size w Z) (vh : Value) (hh : Rd IntAt 1 Z.heap.size Z vh (truthL l0 s.pts.length)) => told_own (HSR.out Z h) hg HN.out (Nat.le_trans hB h.size) hh (Nat.le_refl _) (truthL_len l0 s.pts.length) (fun x hx => truthL_mem hx) (Rd.nil (At := U16At) (sz := 1) 0 Z) (Nat.zero_le _) (fun x hx => by cases hx))
    clear hd hv hg hiw
    generalize hhh : truthL l0 s.pts.length = h at *
    have HTl := Lib.hid hT
    have HTok := Lib.hid (fun (x : NoteR) (hx : x ∈ toldL s h [] s.notes.length) => (by obtain ⟨j, _, ho, _⟩ := mem_toldL hx; exact okN_ok ho : NoteOK s.pts.length s.iv x))
    have htl : (toldL s h [] s.notes.length).length ≤ 12 := by have := toldL_len s h [] s.notes.length; have := HGd.out.nlen; omega
    generalize htt : toldL s h [] s.notes.length = t at *
    clear hhh htt hT
    go_upto_region 7 with (first | (go_at_call 44; (with_reducible refine Calls.mono (HV.out _ hb) ?_); rintro e X ⟨rfl, h4⟩; replace hbx := hbx.trans (h4.mono hbx.size); clear C0 C1 C2 D0 D1 hb h4; obtain ⟨C0, C1, C2, D0, D1, hb⟩ := HC.out _ hbx) | (go_at_call 21; (with_reducible refine Calls.mono (HF.out _ hb) ?_); rintro e X ⟨rfl, h4⟩; replace hbx := hbx.trans (h4.mono hbx.size); clear C0 C1 C2 D0 D1 hb h4; obtain ⟨C0, C1, C2, D0, D1, hb⟩ := HC.out _ hbx))
    have QC0 := Lib.hid C0
    have QC1 := Lib.hid C1
    have QC2 := Lib.hid C2
    have QD0 := Lib.hid D0
    have Hb := Lib.hid hb
    have Hbx := Lib.hid hbx
    have HWX := Lib.hid hbx.size
    have hF := F13.keeps X.heap.size s (.slice Ap s.pts.length cp) h t (fun jj => ([.agg #[.int .i64 s.iv, .slice Ap s.pts.length cp, .slice An s.notes.length cn], .agg #[.int .i64 s.iv, .slice Ap s.pts.length cp, .slice An s.notes.length cn], .pointer (some ⟨w.heap.size + 1, 0, none⟩), .slice A0 l0.length c0] : List Value).getD jj undef)
    refine wp_region_ghost (T13I X s (.slice Ap s.pts.length cp) h t (fun jj => ([.agg #[.int .i64 s.iv, .slice Ap s.pts.length cp, .slice An s.notes.length cn], .agg #[.int .i64 s.iv, .slice Ap s.pts.length cp, .slice An s.notes.length cn], .pointer (some ⟨w.heap.size + 1, 0, none⟩), .slice A0 l0.length c0] : List Value).getD jj undef)) (by kernel_rfl) (by kernel_rfl) ⟨fun _ => BlI.start, fun h => by cases h⟩ ?_ ?_
    · refine ⟨?_, ?_, ?_, ?_, ?_, ?_, ?_, ?_, trivial⟩
      all_goals
        intro L vs X b hL hw hcl hI hf
      · have n7 : L 7 = false := not_yet hcl 7 hL rfl (by kernel_rfl)
        have hG := hI.go n7
        have hb := hG.bel
        have e3 := hf.old 3 (by kernel_rfl)
        have qC0 := (hb.cell (cell_lt QC0.out)).trans QC0.out
        have qC1 := (hb.cell (cell_lt QC1.out)).trans QC1.out
        have qC2 := (hb.cell (cell_lt QC2.out)).trans QC2.out
        have qD0 := (hb.cell (cell_lt QD0.out)).trans QD0.out
        refine wp_of_run (v := .agg #[.int .i64 s.iv, .slice Ap s.pts.length cp, .slice An s.notes.length cn]) (w' := X) (by unfold execOp; go_simp) ?_
        exact ⟨fun _ => hG.read hF rfl, fun h => absurd (n7.symm.trans h) (by simp)⟩
      · have n7 : L 7 = false := not_yet hcl 7 hL rfl (by kernel_rfl)
        have hG := hI.go n7
        have hb := hG.bel
        have e3 := hf.old 3 (by kernel_rfl)
        have qC0 := (hb.cell (cell_lt QC0.out)).trans QC0.out
        have qC1 := (hb.cell (cell_lt QC1.out)).trans QC1.out
        have qC2 := (hb.cell (cell_lt QC2.out)).trans QC2.out
        have qD0 := (hb.cell (cell_lt QD0.out)).trans QD0.out
        refine wp_of_run (v := .agg #[.int .i64 s.iv, .slice Ap s.pts.length cp, .slice An s.notes.length cn]) (w' := X) (by unfold execOp; go_simp) ?_
        exact ⟨fun _ => hG.read hF rfl, fun h => absurd (n7.symm.trans h) (by simp)⟩
      · have n7 : L 7 = false := not_yet hcl 7 hL rfl (by kernel_rfl)
        have hG := hI.go n7
        have hb := hG.bel
        have e4 := hf.old 4 (by kernel_rfl)
        refine wp_of_run (v := .pointer (some ⟨w.heap.size + 1, 0, none⟩)) (w' := X) (by unfold execOp; go_simp) ?_
        exact ⟨fun _ => hG.read hF rfl, fun h => absurd (n7.symm.trans h) (by simp)⟩
      · have n7 : L 7 = false := not_yet hcl 7 hL rfl (by kernel_rfl)
        have hG := hI.go n7
        have hb := hG.bel
        have h2 : L 2 = true := done_of hw 2 (by kernel_rfl)
        have e67 : b.tmps[67]?.getD undef = .pointer (some ⟨w.heap.size + 1, 0, none⟩) := (hf.new 2 67 rfl h2 (by simp)).trans (hG.fs 2 h2)
        have qC0 := (hb.cell (cell_lt QC0.out)).trans QC0.out
        have qC1 := (hb.cell (cell_lt QC1.out)).trans QC1.out
        have qC2 := (hb.cell (cell_lt QC2.out)).trans QC2.out
        have qD0 := (hb.cell (cell_lt QD0.out)).trans QD0.out
        refine wp_of_run (v := .slice A0 l0.length c0) (w' := X) (by unfold execOp; go_simp) ?_
        exact ⟨fun _ => hG.read hF rfl, fun h => absurd (n7.symm.trans h) (by simp)⟩
      · have n7 : L 7 = false := not_yet hcl 7 hL rfl (by kernel_rfl)
        have hG := hI.go n7
        have hb := hG.bel
        have h1 : L 1 = true := done_of hw 1 (by kernel_rfl)
        have e66 : b.tmps[66]?.getD undef = .agg #[.int .i64 s.iv, .slice Ap s.pts.length cp, .slice An s.notes.length cn] := (hf.new 1 66 rfl h1 (by simp)).trans (hG.fs 1 h1)
        have h3 : L 3 = true := done_of hw 3 (by kernel_rfl)
        have e68 : b.tmps[68]?.getD undef = .slice A0 l0.length c0 := (hf.new 3 68 rfl h3 (by simp)).trans (hG.fs 3 h3)
        refine wp_of_call (f := 45) (args := #[.agg #[.int .i64 s.iv, .slice Ap s.pts.length cp, .slice An s.notes.length cn], .slice A0 l0.length c0]) (run_call_clo (.func 45) _ _ rfl (c := #[]) rfl enter45 (by simp [eval_tmp e66, eval_tmp e68])) ?_
        refine (HTr.out X (Hb.out.trans (hb.mono Hb.out.size))).mono ?_
        rintro e wz ⟨A, c, rfl, hrd, hbz⟩
        exact ⟨_, rfl, fun _ => hG.step hF hbz ⟨A, c, rfl, hrd⟩, fun h => absurd (n7.symm.trans h) (by simp)⟩
      · have n7 : L 7 = false := not_yet hcl 7 hL rfl (by kernel_rfl)
        have hG := hI.go n7
        have hb := hG.bel
        have h0 : L 0 = true := done_of hw 0 (by kernel_rfl)
        have e65 : b.tmps[65]?.getD undef = .agg #[.int .i64 s.iv, .slice Ap s.pts.length cp, .slice An s.notes.length cn] := (hf.new 0 65 rfl h0 (by simp)).trans (hG.fs 0 h0)
        have h4 : L 4 = true := done_of hw 4 (by kernel_rfl)
        have e69 : b.tmps[69]?.getD undef = vs 4 := hf.new 4 69 rfl h4 (by simp)
        obtain ⟨A4, c4, q4, hr4⟩ := hG.fs 4 h4
        refine wp_of_call (f := 46) (args := #[.agg #[.int .i64 s.iv, .slice Ap s.pts.length cp, .slice An s.notes.length cn], vs 4, .slice none 0 0]) (run_call_clo (.func 46) _ _ rfl (c := #[]) rfl enter46 (by simp [eval_cst, eval_tmp e65, eval_tmp e69])) ?_
        refine (HTo.out X (Hb.out.trans (hb.mono Hb.out.size)) (vs 4) hr4).mono ?_
        rintro e wz ⟨A2', c2', rfl, ho', hbz⟩
        exact ⟨_, rfl, fun _ => hG.step hF hbz ⟨A2', c2', rfl, ho'.mono hb.size⟩, fun h => absurd (n7.symm.trans h) (by simp)⟩
      · have n7 : L 7 = false := not_yet hcl 7 hL rfl (by kernel_rfl)
        have hG := hI.go n7
        have hb := hG.bel
        refine wp_of_run (v := .pointer (some ⟨X.heap.size, 0, none⟩)) (w' := X.alloc (.cells #[.int .i64 0, .slice none 0 0, .slice none 0 0] 25)) (by unfold execOp; go_simp) ?_
        exact ⟨fun _ => hG.step hF ((Below.refl _ _).alloc (Nat.le_refl _) _) ⟨_, rfl, hb.size, heap_alloc_new X _⟩, fun h => absurd (n7.symm.trans h) (by simp)⟩
      · have hG := hI.go hL
        have hb := hG.bel
        have h5 : L 5 = true := done_of hw 5 (by kernel_rfl)
        have e70 : b.tmps[70]?.getD undef = vs 5 := hf.new 5 70 rfl h5 (by simp)
        have h6 : L 6 = true := done_of hw 6 (by kernel_rfl)
        have e11 : b.tmps[11]?.getD undef = vs 6 := hf.new 6 11 rfl h6 (by simp)
        obtain ⟨A2', c2', q5, ho'⟩ := hG.fs 5 h5
        obtain ⟨g, q6, hg, hx⟩ := hG.fs 6 h6
        rw [q5] at e70
        rw [q6] at e11
        refine wp_store_row 25 (.tmp 11) (.tmp 70) rfl g #[.int .i64 s.iv, .slice Ap s.pts.length cp, .slice A2' t.length c2'] (eval_tmp e11) (eval_tmp e70) 25 _ hx (by kernel_rfl) rfl (by simp [Value.oneCell']) ?_
        exact ⟨_, rfl, fun h => (by cases h), fun _ => ⟨X, g, A2', c2', hb, q5, ho', q6, hg, hx, rfl⟩⟩
    · intro vs Y hI
      obtain ⟨Y0, g, A2', c2', hbY, q5, ho', q6, hgX, hx, hY⟩ := hI.st rfl
      clear hI
      simp [fill, slotOf, Act.put]
      simp only [Exit.inBlock, Exit.then]
      rw [q5, q6]
      clear q5 q6 hF
      generalize vs 0 = u0 at *
      generalize vs 1 = u1 at *
      generalize vs 2 = u2 at *
      generalize vs 3 = u3 at *
      generalize vs 4 = u4 at *
      have hYX : Below X.heap.size X Y := by rw [hY]; exact hbY.trans (setRow_below _ hgX)
      have r11 : Y.heap[g]? = some (.cells #[.int .i64 s.iv, .slice Ap s.pts.length cp, .slice A2' t.length c2'] 25) := by rw [hY]; exact setRow_heap _ _ _ _ _ _ hx
      have hoY : Own X.heap.size 69 Y (.slice A2' t.length c2') t := by
        rw [hY]
        refine Own.keepD ho' fun b cs f hb hh => (setRow_other _ _ _ _ ?_).trans hh
        rintro rfl
        rw [hx] at hh
        cases hh
      clear hY hbY hx ho'
      replace hbx := hbx.trans (hYX.mono hbx.size)
      clear C0 C1 C2 D0 D1 hb
      obtain ⟨C0, C1, C2, D0, D1, hb⟩ := HC.out _ hbx
      have w1 : IntKind.i64.wrap u = u := IntWalk.i64_in _ (by omega)
      have w2 : u.tmod 40 = u % 40 := Int.tmod_eq_emod_of_nonneg hu0
      have w3 : IntKind.i64.wrap (u % 40) = u % 40 := IntWalk.i64_in _ (by omega)
      go_upto_region 9 with (fail)
      clear w1 w2 w3
      have HR11 := Lib.hid r11
      have HoY := Lib.hid hoY
      have HYX := Lib.hid hYX
      clear r11 hoY hYX
      have hd0 : 0 ≤ u % 40 ∧ u % 40 < 40 := by omega
      generalize hdd : u % 40 = d at *
      have Hgx := Lib.hid hgX
      go_wp2
      go_loopw [13] (fun i wr => ∃ k : Nat, k ≤ t.length ∧ i = .int .i64 k ∧ wr.heap[g]? = some (.cells #[.int .i64 s.iv, .slice Ap s.pts.length cp, .slice A2' t.length c2'] 25) ∧ Own X.heap.size 69 wr (.slice A2' t.length c2') (movL l1 d t k) ∧ Below X.heap.size X wr ∧ Below W2.heap.size W2 wr) (fun i _ => t.length - (intOf i).toNat)
      case atStart => exact ⟨0, Nat.zero_le _, rfl, HR11.out, by rw [movL_zero]; exact HoY.out, HYX.out, hbx⟩
      case round =>
        clear C0 C1 C2 D0 D1 hb hbx
        obtain ⟨k, hk, rfl, hrow, hown, hXr, hbx⟩ := hrel
        obtain ⟨C0, C1, C2, D0, D1, hb⟩ := HC.out _ hbx
        have HRow := Lib.hid hrow
        have HOwn := Lib.hid hown
        have HXr := Lib.hid hXr
        have E2 := cellOf hrow 2 (v := .slice A2' t.length c2') rfl
        clear hXr
        by_cases hlt : k < t.length
        · obtain ⟨gn, hAe, hgn, hgX2⟩ : ∃ gn, A2' = some ⟨gn, 0, none⟩ ∧ g ≠ gn ∧ X.heap.size ≤ gn := by
            rcases id hown with ⟨_, ⟨e, h0⟩ | ⟨g', cap, cur, e, hbb, hh, _⟩⟩
            · rw [movL_len] at h0; omega
            · exact ⟨g', (Value.slice.inj e).1, (by rintro rfl; rw [hrow] at hh; cases hh), hbb⟩
          subst hAe
          have hat := hown.rd.note (i := k) (by rw [movL_len]; exact hlt)
          obtain ⟨ad, had, _, hat⟩ := hat
          cases had
          rw [movL_at hlt, if_neg (Nat.lt_irrefl k)] at hat
          have hadd : (⟨gn, 0, none⟩ : Addr).add (k * 5) = ⟨gn, k * 5, none⟩ := by unfold Addr.add; split <;> simp_all
          rw [hadd] at hat
          have hok := HTok.out _ (getD_mem hlt default)
          have HSet := Lib.hid (movL_set (off := l1) (b := d) hlt)
          have HKp := Lib.hid (fun (x : NoteR) (hx : t.getD k default = x) => movL_keep (off := l1) (b := d) hx)
          have HSpan := Lib.hid (show ∀ (Z : World) (hz : Below wr.heap.size wr Z) (lo hi : Int), _ from fun Z hz lo hi => (hown.below hz).span (movL_len _ _ _ _).symm (k := k) (by rw [movL_len]; exact hlt) lo hi)
          have HOk := Lib.hid (HKp.out _ rfl)
          clear HKp hrow hown
          have hx0 : (movL l1 d t k).getD k default = t.getD k default := by rw [List.getD_eq_getElem?_getD, movL_at hlt, if_neg (Nat.lt_irrefl k)]; rfl
          rw [hx0] at HSpan
          clear hx0
          simp only [Option.getD_some] at hat
          generalize t.getD k default = x at *
          obtain ⟨x0, x1, x2, x3, x4⟩ := x
          obtain ⟨a0, a1, a2, a3, a4⟩ := hat
          simp only [Addr.add] at a0 a1 a2 a3 a4
          have hkind := hok.kind
          have hends := noteOK_ends hok HGd.out.iv.1
          simp only at hkind
          rcases (show x0 = 1 ∨ x0 = 2 ∨ x0 = 3 ∨ x0 = 4 by omega) with h0 | h0 | h0 | h0
          · subst h0
            have hD : movD l1 d k = turnF l1 k % (2 * d + 1) - d := rfl
            have HTn := Lib.hid (show ∀ Z, Below w.heap.size w Z → Calls Tryz.prog 54 #[.slice A1 l1.length c1, .int .i64 k] Z fun e w' => e = .returned (.int .i64 (turnF l1 k)) ∧ w' = Z from fun Z hb => turn_any k (HX1.out Z hb) (by omega) HL1.out)
            have hb0 := HBd.out k
            rw [hD] at HSet
            clear hD
            generalize turnF l1 k = tv at *
            have w1 : IntKind.i64.wrap (2 * d) = 2 * d := IntWalk.i64_in _ (by omega)
            have w2 : IntKind.i64.wrap (2 * d + 1) = 2 * d + 1 := IntWalk.i64_in _ (by omega)
            have w3 : tv.tmod (2 * d + 1) = tv % (2 * d + 1) := Int.tmod_eq_emod_of_nonneg hb0.1
            have b1 : 0 ≤ tv % (2 * d + 1) := Int.emod_nonneg _ (by omega)
            have b2 : tv % (2 * d + 1) < 2 * d + 1 := Int.emod_lt_of_pos _ (by omega)
            have w4 : IntKind.i64.wrap (tv % (2 * d + 1)) = tv % (2 * d + 1) := IntWalk.i64_in _ (by omega)
            have w5 : IntKind.i64.wrap (tv % (2 * d + 1) - d) = tv % (2 * d + 1) - d := IntWalk.i64_in _ (by omega)
            have w6 : ((2 * d + 1 == 0) : Bool) = false := by simp; omega
            have w7 : ¬ (2 * d + 1 = 0) := by omega
            go_upto_region 14 with (go_at_call 54; (with_reducible refine Calls.mono (HTn.out _ hb) ?_); rintro e wx ⟨rfl, hwx⟩; subst wx)
            have hdd0 : -40 ≤ tv % (2 * d + 1) - d ∧ tv % (2 * d + 1) - d ≤ 40 := by omega
            generalize tv % (2 * d + 1) - d = dd at *
            clear w1 w2 w3 w4 w5 w6 w7 b1 b2 hb0
            go_upto_region 18 with (refine wpList_store_row rfl 40 (.tmp 16) (.tmp 119) rfl wr.heap.size #[.int .i64 x3, .int .i64 x4] rfl rfl 40 _ (heap_alloc_new _ _) (by kernel_rfl) rfl (by simp [Value.oneCell']) ?_)
            obtain ⟨V, hV⟩ : ∃ V, V = (wr.alloc (.cells #[.int .i64 0, .int .i64 0] 40)).setRow wr.heap.size #[.int .i64 x3, .int .i64 x4] := ⟨_, rfl⟩
            rw [← hV]
            have yV : Below wr.heap.size wr V := by rw [hV]; exact ((Below.refl _ _).alloc (Nat.le_refl _) _).trans (setRow_below _ (Nat.le_refl _))
            have rV : V.heap[wr.heap.size]? = some (.cells #[.int .i64 x3, .int .i64 x4] 40) := by rw [hV]; exact setRow_heap _ _ _ _ _ _ (heap_alloc_new _ _)
            clear hV
            have rg := (yV.block _ (lt_of_block HRow.out)).trans HRow.out
            have G2 := cellOf rg 2 (v := .slice (some ⟨gn, 0, none⟩) t.length c2') rfl
            have S0 := cellOf rV 0 (v := .int .i64 x3) rfl
            have S1 := cellOf rV 1 (v := .int .i64 x4) rfl
            have e1 := Aft.cell G2
            have e2 := Aft.cell S0
            have e3 := Aft.cell S1
            have YV := Lib.hid yV
            have RV := Lib.hid rV
            have RG := Lib.hid rg
            have A3 := Lib.hid a3
            have A4 := Lib.hid a4
            clear rV rg G2 S0 S1 a0 a1 a2 a3 a4 E2 C0 C1 C2 D0 D1
            have w1 : IntKind.i64.wrap (x3 + dd) = x3 + dd := IntWalk.i64_in _ (by simp [nlo, nhi] at hends; omega)
            have w2 : IntKind.i64.wrap (x4 + dd) = x4 + dd := IntWalk.i64_in _ (by simp [nlo, nhi] at hends; omega)
            refine region_quiet_tail (C := fun w' => ∃ x : Aft V, w' = x.1) 18 (by kernel_rfl) (by kernel_rfl) ⟨⟨V.drew, (Below.refl _ _).drew⟩, rfl⟩ ?_
            simp only [List.take_succ_cons, List.take_zero, List.drop_succ_cons, List.drop_zero]
            repeat (first | go_big_quiet_step ((go_at_call 43; exact Aft.call (span_any _ _ _))) | quiet_step ((go_at_call 43; exact Aft.call (span_any _ _ _))))
            refine wpQuiet_nil ?_
            rintro wx ⟨⟨_, hbv⟩, rfl⟩
            have yx := YV.out.trans (hbv.mono YV.out.size)
            have d3 := (yx.cell (cell_lt A3.out)).trans A3.out
            have d4 := (yx.cell (cell_lt A4.out)).trans A4.out
            have f3 : wx.frozen? ⟨gn, k * 5 + 3, none⟩ = false := by have h := HOwn.out.below yx; unfold Own at h; rw [movL_len] at h; exact World.ownsRow.frozenAt h _
            have f4 : wx.frozen? ⟨gn, k * 5 + 4, none⟩ = false := by have h := HOwn.out.below yx; unfold Own at h; rw [movL_len] at h; exact World.ownsRow.frozenAt h _
            go_wp2
            go_roundw
            case rel =>
              refine ⟨k + 1, by omega, by go_num, ?_, ?_, ?_, ?_⟩
              · exact (Below.heap_setCell _ _ _ _ (by show g ≠ gn; exact hgn)).trans ((Below.heap_setCell _ _ _ _ (by show g ≠ gn; exact hgn)).trans ((yx.block _ (lt_of_block HRow.out)).trans HRow.out))
              · rw [HSet.out]
                exact HSpan.out wx yx _ _
              · exact ((HXr.out.trans (yx.mono HXr.out.size)).setCell hgX2 _).setCell hgX2 _
              · exact ((hbx.trans (yx.mono hbx.size)).setCell (Nat.le_trans HWX.out hgX2) _).setCell (Nat.le_trans HWX.out hgX2) _
            case measure => simp [intOf]; omega
          · subst h0
            have HK := Lib.hid (HOk.out (by simp) (by simp))
            go_wp2
            go_roundw
            case rel => exact ⟨k + 1, by omega, by go_num, HRow.out, by rw [HK.out]; exact HOwn.out, HXr.out, hbx⟩
            case measure => simp [intOf]; omega
          · subst h0
            have HK := Lib.hid (HOk.out (by simp) (by simp))
            go_wp2
            go_roundw
            case rel => exact ⟨k + 1, by omega, by go_num, HRow.out, by rw [HK.out]; exact HOwn.out, HXr.out, hbx⟩
            case measure => simp [intOf]; omega
          · subst h0
            have hD : movD l1 d k = turnF l1 k % (2 * d + 1) - d := rfl
            have HTn := Lib.hid (show ∀ Z, Below w.heap.size w Z → Calls Tryz.prog 54 #[.slice A1 l1.length c1, .int .i64 k] Z fun e w' => e = .returned (.int .i64 (turnF l1 k)) ∧ w' = Z from fun Z hb => turn_any k (HX1.out Z hb) (by omega) HL1.out)
            have hb0 := HBd.out k
            rw [hD] at HSet
            clear hD
            generalize turnF l1 k = tv at *
            have w1 : IntKind.i64.wrap (2 * d) = 2 * d := IntWalk.i64_in _ (by omega)
            have w2 : IntKind.i64.wrap (2 * d + 1) = 2 * d + 1 := IntWalk.i64_in _ (by omega)
            have w3 : tv.tmod (2 * d + 1) = tv % (2 * d + 1) := Int.tmod_eq_emod_of_nonneg hb0.1
            have b1 : 0 ≤ tv % (2 * d + 1) := Int.emod_nonneg _ (by omega)
            have b2 : tv % (2 * d + 1) < 2 * d + 1 := Int.emod_lt_of_pos _ (by omega)
            have w4 : IntKind.i64.wrap (tv % (2 * d + 1)) = tv % (2 * d + 1) := IntWalk.i64_in _ (by omega)
            have w5 : IntKind.i64.wrap (tv % (2 * d + 1) - d) = tv % (2 * d + 1) - d := IntWalk.i64_in _ (by omega)
            have w6 : ((2 * d + 1 == 0) : Bool) = false := by simp; omega
            have w7 : ¬ (2 * d + 1 = 0) := by omega
            go_upto_region 14 with (go_at_call 54; (with_reducible refine Calls.mono (HTn.out _ hb) ?_); rintro e wx ⟨rfl, hwx⟩; subst wx)
            have hdd0 : -40 ≤ tv % (2 * d + 1) - d ∧ tv % (2 * d + 1) - d ≤ 40 := by omega
            generalize tv % (2 * d + 1) - d = dd at *
            clear w1 w2 w3 w4 w5 w6 w7 b1 b2 hb0
            go_upto_region 18 with (refine wpList_store_row rfl 40 (.tmp 16) (.tmp 119) rfl wr.heap.size #[.int .i64 x3, .int .i64 x4] rfl rfl 40 _ (heap_alloc_new _ _) (by kernel_rfl) rfl (by simp [Value.oneCell']) ?_)
            obtain ⟨V, hV⟩ : ∃ V, V = (wr.alloc (.cells #[.int .i64 0, .int .i64 0] 40)).setRow wr.heap.size #[.int .i64 x3, .int .i64 x4] := ⟨_, rfl⟩
            rw [← hV]
            have yV : Below wr.heap.size wr V := by rw [hV]; exact ((Below.refl _ _).alloc (Nat.le_refl _) _).trans (setRow_below _ (Nat.le_refl _))
            have rV : V.heap[wr.heap.size]? = some (.cells #[.int .i64 x3, .int .i64 x4] 40) := by rw [hV]; exact setRow_heap _ _ _ _ _ _ (heap_alloc_new _ _)
            clear hV
            have rg := (yV.block _ (lt_of_block HRow.out)).trans HRow.out
            have G2 := cellOf rg 2 (v := .slice (some ⟨gn, 0, none⟩) t.length c2') rfl
            have S0 := cellOf rV 0 (v := .int .i64 x3) rfl
            have S1 := cellOf rV 1 (v := .int .i64 x4) rfl
            have e1 := Aft.cell G2
            have e2 := Aft.cell S0
            have e3 := Aft.cell S1
            have YV := Lib.hid yV
            have RV := Lib.hid rV
            have RG := Lib.hid rg
            have A3 := Lib.hid a3
            have A4 := Lib.hid a4
            clear rV rg G2 S0 S1 a0 a1 a2 a3 a4 E2 C0 C1 C2 D0 D1
            have w1 : IntKind.i64.wrap (x3 + dd) = x3 + dd := IntWalk.i64_in _ (by simp [nlo, nhi] at hends; omega)
            have w2 : IntKind.i64.wrap (x4 + dd) = x4 + dd := IntWalk.i64_in _ (by simp [nlo, nhi] at hends; omega)
            refine region_quiet_tail (C := fun w' => ∃ x : Aft V, w' = x.1) 18 (by kernel_rfl) (by kernel_rfl) ⟨⟨V.drew, (Below.refl _ _).drew⟩, rfl⟩ ?_
            simp only [List.take_succ_cons, List.take_zero, List.drop_succ_cons, List.drop_zero]
            repeat (first | go_big_quiet_step ((go_at_call 43; exact Aft.call (span_any _ _ _))) | quiet_step ((go_at_call 43; exact Aft.call (span_any _ _ _))))
            refine wpQuiet_nil ?_
            rintro wx ⟨⟨_, hbv⟩, rfl⟩
            have yx := YV.out.trans (hbv.mono YV.out.size)
            have d3 := (yx.cell (cell_lt A3.out)).trans A3.out
            have d4 := (yx.cell (cell_lt A4.out)).trans A4.out
            have f3 : wx.frozen? ⟨gn, k * 5 + 3, none⟩ = false := by have h := HOwn.out.below yx; unfold Own at h; rw [movL_len] at h; exact World.ownsRow.frozenAt h _
            have f4 : wx.frozen? ⟨gn, k * 5 + 4, none⟩ = false := by have h := HOwn.out.below yx; unfold Own at h; rw [movL_len] at h; exact World.ownsRow.frozenAt h _
            go_wp2
            go_roundw
            case rel =>
              refine ⟨k + 1, by omega, by go_num, ?_, ?_, ?_, ?_⟩
              · exact (Below.heap_setCell _ _ _ _ (by show g ≠ gn; exact hgn)).trans ((Below.heap_setCell _ _ _ _ (by show g ≠ gn; exact hgn)).trans ((yx.block _ (lt_of_block HRow.out)).trans HRow.out))
              · rw [HSet.out]
                exact HSpan.out wx yx _ _
              · exact ((HXr.out.trans (yx.mono HXr.out.size)).setCell hgX2 _).setCell hgX2 _
              · exact ((hbx.trans (yx.mono hbx.size)).setCell (Nat.le_trans HWX.out hgX2) _).setCell (Nat.le_trans HWX.out hgX2) _
            case measure => simp [intOf]; omega
        · have hke : k = t.length := by omega
          have E0 := cellOf hrow 0 (v := .int .i64 s.iv) rfl
          have E1 := cellOf hrow 1 (v := .slice Ap s.pts.length cp) rfl
          have HT : Hid (∀ Z : World, Below wr.heap.size wr Z → RdSh wr.heap.size Z (.agg #[.int .i64 s.iv, .slice Ap s.pts.length cp, .slice A2' t.length c2']) (withN s (movL l1 d t t.length))) := by
            refine Lib.hid fun Z hZ => RdSh.below ?_ hZ
            obtain ⟨vp', vn', ehs, hp', _⟩ := HSR.out wr hb
            simp at ehs
            obtain ⟨rfl, rfl⟩ := ehs
            refine ⟨_, _, rfl, hp'.mono (Nat.le_trans hB hb.size), ?_⟩
            have h := hown.rd
            rw [hke] at h
            exact h
          have HD2 := Lib.hid (fun (Z : World) (h : Below wr.heap.size wr Z) => wider_atW (valid_of_good HTl.out.1) (HT.out Z h) (show Named (withN s _) from HN.out) h.size)
          have hb2 : Below wr.heap.size wr wr := Below.refl _ _
          clear hke hown hrow HOwn HRow HT
          go_upto_region 20 with (go_at_call 35; (with_reducible refine Calls.mono (HD2.out _ hb2) ?_); rintro e X ⟨m, rfl, him, h4⟩; replace hbx := hbx.trans (h4.mono hbx.size); clear C0 C1 C2 D0 D1 hb h4; obtain ⟨C0, C1, C2, D0, D1, hb⟩ := HC.out _ hbx)
          have t4 : ¬ d < m := by have := HTl.out.2 m him; omega
          clear him E0 E1 E2
          have HLo := Lib.hid (fun (Z : World) (h : Below w.heap.size w Z) (b : Int) (hb : 0 ≤ b ∧ b ≤ 100000) => looser_any (HSR.out Z h) HGd.out (Nat.le_trans hB h.size) hb)
          by_cases h00 : n = 0
          · have tz : (n == 0) = true := by simp [h00]
            clear h00
            go_wp2_with (go_at_call 20; (with_reducible refine Calls.mono (HA.out _ hb) ?_); rintro e X ⟨rfl, h4⟩; replace hbx := hbx.trans (h4.mono hbx.size); clear C0 C1 C2 D0 D1 hb h4; obtain ⟨C0, C1, C2, D0, D1, hb⟩ := HC.out _ hbx)
            go_ret
            exact ⟨rfl, hb⟩
          · have tz : (n == 0) = false := by simp [h00]
            have HLn := Lib.hid (show 0 ≤ n ∧ n ≤ 100000 by omega)
            have k1 : 0 ≤ u % n := Int.emod_nonneg _ h00
            have k2 : u % n < n := Int.emod_lt_of_pos _ (by omega)
            have HLb := Lib.hid (show 0 ≤ u % n ∧ u % n ≤ 100000 by omega)
            have HF1 := Lib.hid (fun (Z : World) (v' : Value) (hr : RdSh Z.heap.size Z v' (looS s n)) => fits_atW (f := true) ((loo_fits HGd.out hn0).trans (wider_good HGd.out HIw.out)) (valid_of_good (loo_good HGd.out hn0)) hr (show Named (looS s n) from HN.out) (Nat.le_refl _))
            have HF2 := Lib.hid (fun (Z : World) (v' : Value) (hr : RdSh Z.heap.size Z v' (looS s (u % n))) => fits_atW (f := false) ((loo_fits HGd.out k1).trans (wider_bad HGd.out HIw.out k2 k1)) (valid_of_good (loo_good HGd.out k1)) hr (show Named (looS s (u % n)) from HN.out) (Nat.le_refl _))
            clear k1 k2
            go_upto_region 25 with (first | (go_at_call 55; (with_reducible refine Calls.mono (HLo.out _ hb n HLn.out) ?_); rintro e X ⟨v', rfl, hs1, h4⟩; have HS1 := Lib.hid hs1; clear hs1; replace hbx := hbx.trans (h4.mono hbx.size); clear C0 C1 C2 D0 D1 hb h4; obtain ⟨C0, C1, C2, D0, D1, hb⟩ := HC.out _ hbx) | (revert HS1; intro HS1; go_at_call 21; (with_reducible refine Calls.mono (HF1.out _ _ HS1.out) ?_); rintro e X ⟨rfl, h4⟩; replace hbx := hbx.trans (h4.mono hbx.size); clear C0 C1 C2 D0 D1 hb h4; obtain ⟨C0, C1, C2, D0, D1, hb⟩ := HC.out _ hbx))
            obtain ⟨wv, rfl⟩ : ∃ wv : World, wv = X := ⟨_, rfl⟩
            have HWr := Lib.hid hb
            have w0 : IntKind.i64.wrap u = u := IntWalk.i64_in _ (by omega)
            have w1 : u.tmod n = u % n := Int.tmod_eq_emod_of_nonneg hu0
            have w2 : IntKind.i64.wrap (u % n) = u % n := IntWalk.i64_in _ (by have := HLb.out; omega)
            have QC0 := Lib.hid C0
            have QC1 := Lib.hid C1
            have QC2 := Lib.hid C2
            have hF := FS.keeps (fun k => k == 5) (looS s (u % n)) (fun jj => ([.agg #[.int .i64 s.iv, .slice Ap s.pts.length cp, .slice An s.notes.length cn], .int .u16 u, .int .i64 u, .int .i64 n, .int .i64 (u % n), undef, .tuple #[.bool false, .int .i64 0], .tuple #[.bool false, .int .i64 0], .bool false, .int .i64 0, .bool false, .int .i64 0] : List Value).getD jj undef)
            refine wp_region_ghost (BlI wv (FS (fun k => k == 5) (looS s (u % n)) (fun jj => ([.agg #[.int .i64 s.iv, .slice Ap s.pts.length cp, .slice An s.notes.length cn], .int .u16 u, .int .i64 u, .int .i64 n, .int .i64 (u % n), undef, .tuple #[.bool false, .int .i64 0], .tuple #[.bool false, .int .i64 0], .bool false, .int .i64 0, .bool false, .int .i64 0] : List Value).getD jj undef))) (by kernel_rfl) (by kernel_rfl) BlI.start ?_ ?_
            · refine ⟨?_, ?_, ?_, ?_, ?_, ?_, ?_, ?_, ?_, ?_, ?_, ?_, trivial⟩
              all_goals
                intro L vs X b hL hw hcl hI hf
              · have hb := hI.bel
                have e3 := hf.old 3 (by kernel_rfl)
                have qC0 := (hb.cell (cell_lt QC0.out)).trans QC0.out
                have qC1 := (hb.cell (cell_lt QC1.out)).trans QC1.out
                have qC2 := (hb.cell (cell_lt QC2.out)).trans QC2.out
                refine wp_of_run (v := .agg #[.int .i64 s.iv, .slice Ap s.pts.length cp, .slice An s.notes.length cn]) (w' := X) (by unfold execOp; go_simp) ?_
                exact hI.read hF (FS.known rfl)
              · have hb := hI.bel
                have e2 := hf.old 2 (by kernel_rfl)
                refine wp_of_run (v := .int .u16 u) (w' := X) (by unfold execOp; go_simp) ?_
                exact hI.read hF (FS.known rfl)
              · have hb := hI.bel
                have h1 : L 1 = true := done_of hw 1 (by kernel_rfl)
                have e164 : b.tmps[164]?.getD undef = .int .u16 u := (hf.new 1 164 rfl h1 (by simp)).trans ((hI.fs 1 h1).2 rfl)
                refine wp_of_run (v := .int .i64 u) (w' := X) (by unfold execOp; go_simp) ?_
                exact hI.read hF (FS.known rfl)
              · have hb := hI.bel
                have e7 := hf.old 7 (by kernel_rfl)
                refine wp_of_run (v := .int .i64 n) (w' := X) (by unfold execOp; go_simp) ?_
                exact hI.read hF (FS.known rfl)
              · have hb := hI.bel
                have h2 : L 2 = true := done_of hw 2 (by kernel_rfl)
                have e165 : b.tmps[165]?.getD undef = .int .i64 u := (hf.new 2 165 rfl h2 (by simp)).trans ((hI.fs 2 h2).2 rfl)
                have h3 : L 3 = true := done_of hw 3 (by kernel_rfl)
                have e166 : b.tmps[166]?.getD undef = .int .i64 n := (hf.new 3 166 rfl h3 (by simp)).trans ((hI.fs 3 h3).2 rfl)
                refine wp_of_run (v := .int .i64 (u % n)) (w' := X) (by unfold execOp; go_simp) ?_
                exact hI.read hF (FS.known rfl)
              · have hb := hI.bel
                have h0 : L 0 = true := done_of hw 0 (by kernel_rfl)
                have e163 : b.tmps[163]?.getD undef = .agg #[.int .i64 s.iv, .slice Ap s.pts.length cp, .slice An s.notes.length cn] := (hf.new 0 163 rfl h0 (by simp)).trans ((hI.fs 0 h0).2 rfl)
                have h4 : L 4 = true := done_of hw 4 (by kernel_rfl)
                have e167 : b.tmps[167]?.getD undef = .int .i64 (u % n) := (hf.new 4 167 rfl h4 (by simp)).trans ((hI.fs 4 h4).2 rfl)
                refine wp_of_call (f := 55) (args := #[.agg #[.int .i64 s.iv, .slice Ap s.pts.length cp, .slice An s.notes.length cn], .int .i64 (u % n)]) (run_call_clo (.func 55) _ _ rfl (c := #[]) rfl enter55 (by simp [eval_tmp e163, eval_tmp e167])) ?_
                refine (HLo.out X (HWr.out.trans (hb.mono HWr.out.size)) (u % n) HLb.out).mono ?_
                rintro e wz ⟨v', rfl, hs', hbz⟩
                exact ⟨v', rfl, hI.step hF hbz ⟨fun _ => hs', fun h => by cases h⟩⟩
              · have hb := hI.bel
                have h5 : L 5 = true := done_of hw 5 (by kernel_rfl)
                have e168 : b.tmps[168]?.getD undef = vs 5 := hf.new 5 168 rfl h5 (by simp)
                refine wp_of_call (f := 21) (args := #[vs 5]) (run_call_clo (.func 21) _ _ rfl (c := #[]) rfl enter21w (by simp [eval_tmp e168])) ?_
                refine (HF2.out X (vs 5) ((hI.fs 5 h5).1 rfl)).mono ?_
                rintro e wz ⟨rfl, hbz⟩
                exact ⟨_, rfl, hI.step hF hbz (FS.known rfl)⟩
              · have hb := hI.bel
                have h6 : L 6 = true := done_of hw 6 (by kernel_rfl)
                have e169 : b.tmps[169]?.getD undef = .tuple #[.bool false, .int .i64 0] := (hf.new 6 169 rfl h6 (by simp)).trans ((hI.fs 6 h6).2 rfl)
                refine wp_of_run (v := .tuple #[.bool false, .int .i64 0]) (w' := X) (by unfold execOp; go_simp) ?_
                exact hI.read hF (FS.known rfl)
              · have hb := hI.bel
                have h7 : L 7 = true := done_of hw 7 (by kernel_rfl)
                have e162 : b.tmps[162]?.getD undef = .tuple #[.bool false, .int .i64 0] := (hf.new 7 162 rfl h7 (by simp)).trans ((hI.fs 7 h7).2 rfl)
                refine wp_of_run (v := .bool false) (w' := X) (by unfold execOp; go_simp) ?_
                exact hI.read hF (FS.known rfl)
              · have hb := hI.bel
                have h7 : L 7 = true := done_of hw 7 (by kernel_rfl)
                have e162 : b.tmps[162]?.getD undef = .tuple #[.bool false, .int .i64 0] := (hf.new 7 162 rfl h7 (by simp)).trans ((hI.fs 7 h7).2 rfl)
                refine wp_of_run (v := .int .i64 0) (w' := X) (by unfold execOp; go_simp) ?_
                exact hI.read hF (FS.known rfl)
              · have hb := hI.bel
                have h8 : L 8 = true := done_of hw 8 (by kernel_rfl)
                have e170 : b.tmps[170]?.getD undef = .bool false := (hf.new 8 170 rfl h8 (by simp)).trans ((hI.fs 8 h8).2 rfl)
                refine wp_of_run (v := .bool false) (w' := X) (by unfold execOp; go_simp) ?_
                exact hI.read hF (FS.known rfl)
              · have hb := hI.bel
                have h9 : L 9 = true := done_of hw 9 (by kernel_rfl)
                have e171 : b.tmps[171]?.getD undef = .int .i64 0 := (hf.new 9 171 rfl h9 (by simp)).trans ((hI.fs 9 h9).2 rfl)
                refine wp_of_run (v := .int .i64 0) (w' := X) (by unfold execOp; go_simp) ?_
                exact hI.read hF (FS.known rfl)
            · intro vs X hI
              have e21 := (hI.fs 10 rfl).2 rfl
              have e22 := (hI.fs 11 rfl).2 rfl
              have hbX := hI.bel
              clear hI hF
              simp [fill, slotOf, Act.put]
              simp only [Exit.inBlock, Exit.then]
              rw [e21, e22]
              simp only [List.getD_cons_succ, List.getD_cons_zero]
              clear e21 e22
              generalize vs 0 = uu0
              generalize vs 1 = uu1
              generalize vs 2 = uu2
              generalize vs 3 = uu3
              generalize vs 4 = uu4
              generalize vs 5 = uu5
              generalize vs 6 = uu6
              generalize vs 7 = uu7
              generalize vs 8 = uu8
              generalize vs 9 = uu9
              generalize vs 10 = uu10
              generalize vs 11 = uu11
              replace hbx := hbx.trans (hbX.mono hbx.size)
              clear C0 C1 C2 D0 D1 hb
              obtain ⟨C0, C1, C2, D0, D1, hb⟩ := HC.out _ hbx
              go_wp2_with (go_at_call 20; (with_reducible refine Calls.mono (HA.out _ hb) ?_); rintro e X ⟨rfl, h4⟩; replace hbx := hbx.trans (h4.mono hbx.size); clear C0 C1 C2 D0 D1 hb h4; obtain ⟨C0, C1, C2, D0, D1, hb⟩ := HC.out _ hbx)
              go_ret
              exact ⟨rfl, hb⟩

  · have hd : decide (errOf s = 0) = false := decide_eq_false hv
    rw [hd] at HV
    have HE := Lib.hid (fun (Z : World) (h : Below w.heap.size w Z) => wider_err hv (HSR.out Z h) HN.out (Nat.le_trans hB h.size))
    have hne : (errOf s != 0) = true := by simp [hv]
    clear hd hv
    generalize errOf s = er at *
    go_wp2_with (first | (go_at_call 35; (with_reducible refine Calls.mono (HE.out _ hb) ?_); rintro e X ⟨rfl, h4⟩; replace hbx := hbx.trans (h4.mono hbx.size); clear C0 C1 C2 D0 D1 hb h4; obtain ⟨C0, C1, C2, D0, D1, hb⟩ := HC.out _ hbx) | (go_at_call 44; (with_reducible refine Calls.mono (HV.out _ hb) ?_); rintro e X ⟨rfl, h4⟩; replace hbx := hbx.trans (h4.mono hbx.size); clear C0 C1 C2 D0 D1 hb h4; obtain ⟨C0, C1, C2, D0, D1, hb⟩ := HC.out _ hbx) | (go_at_call 20; (with_reducible refine Calls.mono (HA.out _ hb) ?_); rintro e X ⟨rfl, h4⟩; replace hbx := hbx.trans (h4.mono hbx.size); clear C0 C1 C2 D0 D1 hb h4; obtain ⟨C0, C1, C2, D0, D1, hb⟩ := HC.out _ hbx))
    go_ret
    exact ⟨rfl, hb⟩
end Go.Proofs.YtajdgdelhlfniaaGreatDoor
