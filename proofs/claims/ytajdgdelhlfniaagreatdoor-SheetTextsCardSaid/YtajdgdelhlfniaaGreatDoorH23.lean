/- Walks of the layer sheet: take of a line of a point. Walks of the layer sheet: take of a line of a lake. Walks of the layer sheet: what the lines with numbers have in common. -/
import Derived.Test.YtajdgdelhlfniaaGreatDoorH22
import Derived.WalkKit
import Derived.Deep.Quiet
set_option linter.unusedSimpArgs false
set_option linter.unusedVariables false
namespace Go.Proofs.YtajdgdelhlfniaaGreatDoor
open Go.RowKit

set_option maxRecDepth 100000 in
set_option maxHeartbeats 1000000 in
theorem take_point_any {w : World} {base H gw cw : Nat} {vp vn : Value} {s : ShR} {ws : List ByteArray} (h : TakeIn base H gw cw vp vn s ws w) (hk : wd ws 0 = wPoint) :
    Calls Tryz.prog 82 #[.pointer (some ⟨H, 0, none⟩), .slice (some ⟨gw, 0, none⟩) ws.length cw] w fun e w' => TakeQ base H vp vn s ws w e w' := by
  have hn1 : ¬ wd ws 0 = wSheet := by rw [hk]; decide
  obtain ⟨W2, hW2, hT⟩ := takeW_made w H gw cw ws.length
  have x0 := wd_at h.wd (i := 0) (by have := h.one; omega)
  rw [hk] at x0
  have x0 := (hT.below.cell (cell_lt x0)).trans x0
  have p0 := cellOf hT.b0 0 rfl
  have p1 := cellOf hT.b1 0 rfl
  have HT := Lib.hid hT
  have HS := Lib.hid h
  have HFin := Lib.hid (fin_of h hT)
  unfold wPoint at x0
  by_cases hl : ws.length = 2
  · have x1 := wd_at h.wd (i := 1) (by omega)
    have x1 := (hT.below.cell (cell_lt x1)).trans x1
    have HTk := Lib.hid (show takeF s ws = some (addP s (wd ws 1)) by unfold takeF; rw [if_neg hn1, if_pos hk, if_pos hl])
    have hs2 := h.sh.below hT.below
    have hle2 : base ≤ W2.heap.size := Nat.le_trans h.le hT.below.size
    obtain ⟨A, c, w', hrun, ho', hg'⟩ := append_str2 (w := W2.drew) (hs2.pts.qt ⟨1, rfl⟩) (wd ws 1) (by have := h.few; omega) hle2
    obtain ⟨w0, hw0⟩ : ∃ w0, W2.drew = w0 := ⟨_, rfl⟩
    obtain ⟨w1, hw1⟩ : ∃ w1, w0.alloc (.cells #[.string (wd ws 1)] 9) = w1 := ⟨_, rfl⟩
    rw [hw0, hw1] at hrun
    rw [hw0, hw1] at hg'
    obtain ⟨m1, m2, m3, m4, m5⟩ := pts_more hs2 hle2 h.hb (x := wd ws 1) (w1 := w1) (by rw [← hw1, ← hw0]) hg'
    have bw0 : Below W2.heap.size W2 w0 := by rw [← hw0]; exact (Below.refl _ _).drew
    have bw1 : Below W2.heap.size W2 w1 := by rw [← hw1, ← hw0]; exact (Below.refl _ _).drew.alloc (Nat.le_refl _) _
    -- what the reads find
    have key : ∀ (a : Addr) (v : Value), W2.cell? a = some v → vp.ownBlock ≠ some a.block → ∀ x : Tr w0 w1 w', x.1.cell? a = some v := fun a v hv hne =>
      Tr.cell ((bw0.cell (cell_lt hv)).trans hv) ((bw1.cell (cell_lt hv)).trans hv) ((World.cell?_of_block (m1 _ (cell_lt hv) hne)).trans hv)
    have nb : ∀ b, W2.heap.size ≤ b + 2 → vp.ownBlock ≠ some b := fun b hb e => by
      obtain ⟨_, h2, _⟩ := h.sh.pts.ownBlock e
      have := hT.size
      omega
    have C0 := key _ _ (cellOf hT.b0 0 (v := .pointer (some ⟨H, 0, none⟩)) rfl) (nb _ (by rw [hT.size]; exact Nat.le_refl _))
    have C1 := key _ _ (cellOf hT.b1 0 (v := .slice (some ⟨gw, 0, none⟩) ws.length cw) rfl) (nb _ (by rw [hT.size]; show w.heap.size + 2 ≤ w.heap.size + 1 + 2; omega))
    have nH : vp.ownBlock ≠ some H := fun e => by
      have := (h.sh.pts.ownBlock e).1
      have := h.hb
      omega
    have C2 := key _ _ (cellOf hs2.row 1 (v := vp) rfl) nH
    have C3 := key _ _ x1 h.gw
    have rH := (m1 H (lt_of_block hs2.row) nH).trans hs2.row
    have C4 := cellOf rH 1 (v := vp) rfl
    have f4 : w'.frozen? ⟨H, 1, none⟩ = false := by simp [World.frozen?, rH]
    have hcd : W2.heap.size = w0.heap.size := by rw [← hw0]; rfl
    have hbs := run_bs1 (wd ws 1) w0
    rw [hw1] at hbs
    have hend : TakeQ base H vp vn s ws w (.returned (.tuple #[])) (w'.setCell ⟨H, 1, none⟩ (.slice A (s.pts.length + 1) c)) := by
      refine .inl ⟨_, HTk.out, rfl, .slice A (s.pts.length + 1) c, vn, ⟨?_, ?_, ?_⟩, ⟨fun k hk hne => ?_, ?_, ?_⟩⟩
      · exact (row3 rH 1 _).trans (by simp [addP])
      · exact ho'.setOther rH (by decide) 1 _
      · exact m5.setOther rH (by decide) 1 _
      · refine (Below.heap_setCell _ _ _ _ hne).trans ((m1 k (by have := hT.below.size; have := h.le; omega) fun e => ?_).trans (hT.below.block k (Nat.lt_of_lt_of_le hk h.le)))
        have := (h.sh.pts.ownBlock e).1
        omega
      · exact ((((NC.refl w).of_below hT.below).trans m3).setCell _ _)
      · exact ((hT.below.mono (Nat.zero_le _)).trans (m2.mono (Nat.zero_le _))).setCell (Nat.zero_le _) _
    have HE := Lib.hid hend
    have HR := Lib.hid hrun
    have HBs := Lib.hid hbs
    rw [hl] at hW2 p1 C1 ⊢
    generalize wd ws 1 = x at *
    clear hT h hk x1 hn1 hs2 hrun ho' hg' m1 m2 m3 m4 m5 bw0 bw1 key nb nH hw1 hend hbs HTk hcd hle2
    go_enter Tryz.func82, Tryz.ntmps82
    go_upto_region 1 with (fail)
    rw [← hW2]
    clear hW2
    go_upto_region 9 with (first | (refine wpList_mkfn2 rfl _ _ rfl (cs := #[.pointer (some ⟨w.heap.size + 1, 0, none⟩), .pointer (some ⟨w.heap.size, 0, none⟩)]) rfl ?_; simp only [Act.put, List.setIfInBounds_toArray, List.set_cons_succ, List.set_cons_zero]) | (go_at_call 85; refine (must_true _).mono ?_; rintro e wm ⟨rfl, hw⟩; subst wm; dsimp only))
    refine region_make2 (w1 := w1) (w2 := w') 8 hw0 (by kernel_rfl) (by kernel_rfl) (by kernel_rfl) (by kernel_rfl) ?_
    simp only [List.take_succ_cons, List.take_zero, List.drop_succ_cons, List.drop_zero]
    repeat (first | go_big_quiet_step (fail) | quiet_step (fail))
    refine wpQuiet_nil ?_
    refine mk_bs _ rfl rfl 22 1 _ rfl (vs := #[(0, .string x)]) rfl HBs.out ?_
    simp only [Act.put, List.setIfInBounds_toArray, List.set_cons_succ, List.set_cons_zero]
    refine mk_append _ rfl rfl _ _ 22 rfl rfl rfl HR.out ?_
    simp only [Act.put, List.setIfInBounds_toArray, List.set_cons_succ, List.set_cons_zero]
    clear C0 C1 C2 C3 x0 p0 p1
    go_wp2
    go_end0
    exact HE.out
  · have HTk := Lib.hid (show takeF s ws = none by unfold takeF; rw [if_neg hn1, if_pos hk, if_neg hl])
    have hne : ((ws.length : Int) == 2) = false := by simp; omega
    have hpos : 0 < ws.length := by have := h.one; omega
    have HE := Lib.hid (show TakeQ base H vp vn s ws w (.panicked chE) W2 from .inr ⟨HTk.out, rfl, HFin.out W2 (Below.refl _ _)⟩)
    clear hT h hk hl hn1
    go_enter Tryz.func82, Tryz.ntmps82
    go_upto_region 1 with (fail)
    rw [← hW2]
    clear hW2
    go_wp2_with (first | (refine wpList_mkfn2 rfl _ _ rfl (cs := #[.pointer (some ⟨w.heap.size + 1, 0, none⟩), .pointer (some ⟨w.heap.size, 0, none⟩)]) rfl ?_; simp only [Act.put, List.setIfInBounds_toArray, List.set_cons_succ, List.set_cons_zero]) | (go_at_call 85; refine (must_false _).mono ?_; rintro e wm ⟨rfl, hw⟩; subst wm; exact ⟨rfl, HE.out⟩))
end Go.Proofs.YtajdgdelhlfniaaGreatDoor
namespace Go.Proofs.YtajdgdelhlfniaaGreatDoor
open Go.RowKit

/-- a call through a value that dies -/
theorem wpList_call_die {P : Program} {ops : Array Oper} {rest : List Oper} {o : Oper} {a : Act} {w : World} {Q : Exit → Act → World → Prop} (hgd : o.guard = none) (x : Operand) (args : Array Operand) (ts : Array TypeId) (ho : o.op = .call { callee := .value x, args := args, argTypes := ts })
    {f : FuncId} {c ws : Array Value} {ch : List PanicEntry} {R : World → Prop} (hx : a.eval x = .func (.func f) #[] c) (he : ∀ args w, (callFunc f args).run P w = .ok (.enter f args) w)
    (hc : Calls P f ws w fun e w' => e = .panicked ch ∧ R w') (hv : args.toList.map a.eval ++ c.toList = ws.toList) (h : ∀ w', R w' → Q (.panic ch) a w') : wpList P ops Q (o :: rest) a w := by
  refine wpList_plain hgd fun K hK => ?_
  unfold Oper.wp
  rw [run_call_clo x args ts ho hx he hv]
  refine Calls.mono hc ?_
  rintro e w' ⟨rfl, hr⟩
  exact h w' hr
theorem run_bsN (x : NoteR) (w : World) : (Instr.buildSlice 23 1 #[(0, noteV x)]).run Tryz.prog w = .ok (.slice (some ⟨w.heap.size, 0, none⟩) 1 1) (w.alloc (.cells #[.int .i64 x.kind, .int .i64 x.a, .int .i64 x.b, .int .i64 x.lo, .int .i64 x.hi] 69)) := by
  unfold noteV
  exact run_bsn _ _ _ _ _ w
/-- a note more: what the statement that appends it does -/
theorem note_end {w W : World} {base H gw cw : Nat} {vp vn : Value} {s : ShR} {ws : List ByteArray} (h : TakeIn base H gw cw vp vn s ws w) (hb : Below w.heap.size w W) (x : NoteR) (htk : takeF s ws = some (addN s x)) :
    ∃ A c w0 w1 w', W.drew = w0 ∧ (Instr.buildSlice 23 1 #[(0, noteV x)]).run Tryz.prog w0 = .ok (.slice (some ⟨w0.heap.size, 0, none⟩) 1 1) w1 ∧
      (Builtin.append_ #[23, 23] 23 #[vn, .slice (some ⟨w0.heap.size, 0, none⟩) 1 1]).run Tryz.prog w1 = .ok (.slice A (s.notes.length + 1) c) w' ∧
      (∀ (a : Addr) (v : Value), W.cell? a = some v → (w.heap.size ≤ a.block ∨ a.block = H) → ∀ y : Tr w0 w1 w', y.1.cell? a = some v) ∧ w'.heap[H]? = some (.cells #[.int .i64 s.iv, vp, vn] 25) ∧
      TakeQ base H vp vn s ws w (.returned (.tuple #[])) (w'.setCell ⟨H, 2, none⟩ (.slice A (s.notes.length + 1) c)) := by
  have hs2 := h.sh.below hb
  have hle2 : base ≤ W.heap.size := Nat.le_trans h.le hb.size
  obtain ⟨A, c, w', hrun, ho', hg'⟩ := append_note2 (w := W.drew) (hs2.nts.qt ⟨1, rfl⟩) x (by have := h.few; omega) hle2
  obtain ⟨w0, hw0⟩ : ∃ w0, W.drew = w0 := ⟨_, rfl⟩
  obtain ⟨w1, hw1⟩ : ∃ w1, w0.alloc (.cells #[.int .i64 x.kind, .int .i64 x.a, .int .i64 x.b, .int .i64 x.lo, .int .i64 x.hi] 69) = w1 := ⟨_, rfl⟩
  rw [hw0, hw1] at hrun
  rw [hw0, hw1] at hg'
  obtain ⟨m1, m2, m3, m4, m5⟩ := nts_more hs2 hle2 h.hb (w1 := w1) (by rw [← hw1, ← hw0]) hg'
  have bw0 : Below W.heap.size W w0 := by rw [← hw0]; exact (Below.refl _ _).drew
  have bw1 : Below W.heap.size W w1 := by rw [← hw1, ← hw0]; exact (Below.refl _ _).drew.alloc (Nat.le_refl _) _
  have nb : ∀ b, (w.heap.size ≤ b ∨ b = H) → vn.ownBlock ≠ some b := fun b hbb e => by
    obtain ⟨h1, h2, _⟩ := h.sh.nts.ownBlock e
    have := h.hb
    omega
  have rH := (m1 H (lt_of_block hs2.row) (nb H (.inr rfl))).trans hs2.row
  refine ⟨A, c, w0, w1, w', hw0, ?_, hrun, ?_, rH, ?_⟩
  · have := run_bsN x w0
    rwa [hw1] at this
  · intro a v hv hne
    exact Tr.cell ((bw0.cell (cell_lt hv)).trans hv) ((bw1.cell (cell_lt hv)).trans hv) ((World.cell?_of_block (m1 _ (cell_lt hv) (nb _ hne))).trans hv)
  · refine .inl ⟨_, htk, rfl, vp, .slice A (s.notes.length + 1) c, ⟨?_, ?_, ?_⟩, ⟨fun k hk hne => ?_, ?_, ?_⟩⟩
    · exact (row3 rH 2 _).trans (by simp [addN])
    · exact m5.setOther rH (by decide) 2 _
    · exact ho'.setOther rH (by decide) 2 _
    · refine (Below.heap_setCell _ _ _ _ hne).trans ((m1 k (by have := hb.size; have := h.le; omega) fun e => ?_).trans (hb.block k (Nat.lt_of_lt_of_le hk h.le)))
      have := (h.sh.nts.ownBlock e).1
      omega
    · exact ((((NC.refl w).of_below hb).trans m3).setCell _ _)
    · exact ((hb.mono (Nat.zero_le _)).trans (m2.mono (Nat.zero_le _))).setCell (Nat.zero_le _) _

set_option maxRecDepth 100000 in
set_option maxHeartbeats 1000000 in
theorem take_lake_any {w : World} {base H gw cw : Nat} {vp vn : Value} {s : ShR} {ws : List ByteArray} (h : TakeIn base H gw cw vp vn s ws w) (hk : wd ws 0 = wLake) :
    Calls Tryz.prog 82 #[.pointer (some ⟨H, 0, none⟩), .slice (some ⟨gw, 0, none⟩) ws.length cw] w fun e w' => TakeQ base H vp vn s ws w e w' := by
  have hn1 : ¬ wd ws 0 = wSheet := by rw [hk]; decide
  have hn2 : ¬ wd ws 0 = wPoint := by rw [hk]; decide
  obtain ⟨W2, hW2, hT⟩ := takeW_made w H gw cw ws.length
  have x0 := wd_at h.wd (i := 0) (by have := h.one; omega)
  rw [hk] at x0
  have x0 := (hT.below.cell (cell_lt x0)).trans x0
  have p0 := cellOf hT.b0 0 (v := .pointer (some ⟨H, 0, none⟩)) rfl
  have p1 := cellOf hT.b1 0 (v := .slice (some ⟨gw, 0, none⟩) ws.length cw) rfl
  have HT := Lib.hid hT
  have HS := Lib.hid h
  have HFin := Lib.hid (fin_of h hT)
  unfold wLake at x0
  by_cases hl : ws.length = 3
  · have HTk := Lib.hid (show takeF s ws = (pointF s.pts ws 1).bind fun a => (pointF s.pts ws 2).map fun b => addN s ⟨3, a, b, 0, 0⟩ by unfold takeF; rw [if_neg hn1, if_neg hn2, if_pos hk, if_pos hl])
    have HPt := Lib.hid (fun (i : Nat) (hi : i ≤ 1000) (X : World) (hX : Below W2.heap.size W2 X) => point_any (w := X) (a := ⟨w.heap.size + 1, 0, none⟩) (b := ⟨w.heap.size, 0, none⟩) (h := H) (vp := vp) (xs := s.pts) i ((hX.cell (cell_lt p0)).trans p0)
      ((hX.cell (by have := hT.below.size; have := h.hb; have := h.le; show H < _; omega)).trans (cellOf (h.sh.below hT.below).row 1 rfl)) ((hX.cell (cell_lt p1)).trans p1) (h.sh.pts.below (hT.below.trans (hX.mono hT.below.size)))
      ((h.wd.below (hT.below.trans (hX.mono hT.below.size))).mono (Nat.le_trans hT.below.size hX.size)) hi (by have := h.one; omega))
    have HP1 := Lib.hid (HPt.out 1 (by omega) W2 (Below.refl _ _))
    rw [hl] at hW2 p1 ⊢
    cases h1 : pointF s.pts ws 1 with
    | none =>
      have hfin : ∀ wz, Below W2.heap.size W2 wz → TakeQ base H vp vn s ws w (.panicked chE) wz := fun wz hz => .inr ⟨by rw [HTk.out, h1]; rfl, rfl, HFin.out wz hz⟩
      have HF2 := Lib.hid hfin
      have HC : Hid (Calls Tryz.prog 110 #[.int .i64 1, .pointer (some ⟨w.heap.size + 1, 0, none⟩), .pointer (some ⟨w.heap.size, 0, none⟩)] W2 fun e w' => e = .panicked chE ∧ Below W2.heap.size W2 w') := Lib.hid (HP1.out.mono fun e w' hq => by
        obtain ⟨(⟨r, hr, _⟩ | ⟨_, he⟩), hbz⟩ := hq
        · rw [h1] at hr; cases hr
        · exact ⟨he, hbz⟩)
      clear hT h hk hl hn1 hn2 h1 hfin HPt HP1
      go_enter Tryz.func82, Tryz.ntmps82
      go_upto_region 1 with (fail)
      rw [← hW2]
      clear hW2
      go_wp2_with (first | (refine wpList_mkfn2 rfl _ _ rfl (cs := #[.pointer (some ⟨w.heap.size + 1, 0, none⟩), .pointer (some ⟨w.heap.size, 0, none⟩)]) rfl ?_; simp only [Act.put, List.setIfInBounds_toArray, List.set_cons_succ, List.set_cons_zero]) | (go_at_call 85; refine (must_true _).mono ?_; rintro e wm ⟨rfl, hw⟩; subst wm; dsimp only) | (refine wpList_call_die rfl _ _ _ rfl rfl enter110 (ch := chE) (ws := #[.int .i64 1, .pointer (some ⟨w.heap.size + 1, 0, none⟩), .pointer (some ⟨w.heap.size, 0, none⟩)]) (R := fun w' => Below W2.heap.size W2 w') HC.out rfl ?_; intro wz hz; exact ⟨rfl, HF2.out wz hz⟩))
    | some a =>
      have HC : Hid (Calls Tryz.prog 110 #[.int .i64 1, .pointer (some ⟨w.heap.size + 1, 0, none⟩), .pointer (some ⟨w.heap.size, 0, none⟩)] W2 fun e w' => e = .returned (.int .i64 a) ∧ Below W2.heap.size W2 w') := Lib.hid (HP1.out.mono fun e w' hq => by
        obtain ⟨(⟨r, hr, he⟩ | ⟨hr, _⟩), hbz⟩ := hq
        · rw [h1] at hr; cases hr; exact ⟨he, hbz⟩
        · rw [h1] at hr; cases hr)
      cases h2 : pointF s.pts ws 2 with
      | none =>
        have hfin : ∀ wz, Below W2.heap.size W2 wz → TakeQ base H vp vn s ws w (.panicked chE) wz := fun wz hz => .inr ⟨by rw [HTk.out, h1, h2]; rfl, rfl, HFin.out wz hz⟩
        have HF2 := Lib.hid hfin
        have HC2 : Hid (∀ X, Below W2.heap.size W2 X → Calls Tryz.prog 110 #[.int .i64 2, .pointer (some ⟨w.heap.size + 1, 0, none⟩), .pointer (some ⟨w.heap.size, 0, none⟩)] X fun e w' => e = .panicked chE ∧ Below W2.heap.size W2 w') := Lib.hid fun X hX => ((HPt.out 2 (by omega) X hX).mono fun e w' hq => by
          obtain ⟨(⟨r, hr, _⟩ | ⟨_, he⟩), hbz⟩ := hq
          · rw [h2] at hr; cases hr
          · exact ⟨he, hX.trans (hbz.mono hX.size)⟩)
        clear hT h hk hl hn1 hn2 h1 h2 hfin HPt HP1
        go_enter Tryz.func82, Tryz.ntmps82
        go_upto_region 1 with (fail)
        rw [← hW2]
        clear hW2
        go_wp2_with (first | (refine wpList_mkfn2 rfl _ _ rfl (cs := #[.pointer (some ⟨w.heap.size + 1, 0, none⟩), .pointer (some ⟨w.heap.size, 0, none⟩)]) rfl ?_; simp only [Act.put, List.setIfInBounds_toArray, List.set_cons_succ, List.set_cons_zero]) | (go_at_call 85; refine (must_true _).mono ?_; rintro e wm ⟨rfl, hw⟩; subst wm; dsimp only) | (refine wpList_call_clo rfl _ _ _ rfl rfl enter110 (v := .int .i64 a) (ws := #[.int .i64 1, .pointer (some ⟨w.heap.size + 1, 0, none⟩), .pointer (some ⟨w.heap.size, 0, none⟩)]) (R := fun w' => Below W2.heap.size W2 w') HC.out rfl ?_; intro w5 hb5; simp only [Act.put, List.setIfInBounds_toArray, List.set_cons_succ, List.set_cons_zero]) | (refine wpList_call_die rfl _ _ _ rfl rfl enter110 (ch := chE) (ws := #[.int .i64 2, .pointer (some ⟨w.heap.size + 1, 0, none⟩), .pointer (some ⟨w.heap.size, 0, none⟩)]) (R := fun w' => Below W2.heap.size W2 w') (HC2.out _ hb5) rfl ?_; intro wz hz; exact ⟨rfl, HF2.out wz hz⟩))
      | some d =>
        have HC2 : Hid (∀ X, Below W2.heap.size W2 X → Calls Tryz.prog 110 #[.int .i64 2, .pointer (some ⟨w.heap.size + 1, 0, none⟩), .pointer (some ⟨w.heap.size, 0, none⟩)] X fun e w' => e = .returned (.int .i64 d) ∧ Below W2.heap.size W2 w') := Lib.hid fun X hX => ((HPt.out 2 (by omega) X hX).mono fun e w' hq => by
          obtain ⟨(⟨r, hr, he⟩ | ⟨hr, _⟩), hbz⟩ := hq
          · rw [h2] at hr; cases hr; exact ⟨he, hX.trans (hbz.mono hX.size)⟩
          · rw [h2] at hr; cases hr)
        have HEnd := Lib.hid (fun (X : World) (hX : Below W2.heap.size W2 X) => note_end h (hT.below.trans (hX.mono hT.below.size)) ⟨3, a, d, 0, 0⟩ (by rw [HTk.out, h1, h2]; rfl))
        have HR2 := Lib.hid (h.sh.below hT.below).row
        clear hT h hk hl hn1 hn2 h1 h2 HPt HP1
        go_enter Tryz.func82, Tryz.ntmps82
        go_upto_region 1 with (fail)
        rw [← hW2]
        clear hW2
        go_upto_region 13 with (first | (refine wpList_mkfn2 rfl _ _ rfl (cs := #[.pointer (some ⟨w.heap.size + 1, 0, none⟩), .pointer (some ⟨w.heap.size, 0, none⟩)]) rfl ?_; simp only [Act.put, List.setIfInBounds_toArray, List.set_cons_succ, List.set_cons_zero]) | (go_at_call 85; refine (must_true _).mono ?_; rintro e wm ⟨rfl, hw⟩; subst wm; dsimp only) | (refine wpList_call_clo rfl _ _ _ rfl rfl enter110 (v := .int .i64 a) (ws := #[.int .i64 1, .pointer (some ⟨w.heap.size + 1, 0, none⟩), .pointer (some ⟨w.heap.size, 0, none⟩)]) (R := fun w' => Below W2.heap.size W2 w') HC.out rfl ?_; intro w5 hb5; simp only [Act.put, List.setIfInBounds_toArray, List.set_cons_succ, List.set_cons_zero]) | (refine wpList_call_clo rfl _ _ _ rfl rfl enter110 (v := .int .i64 d) (ws := #[.int .i64 2, .pointer (some ⟨w.heap.size + 1, 0, none⟩), .pointer (some ⟨w.heap.size, 0, none⟩)]) (R := fun w' => Below W2.heap.size W2 w') (HC2.out _ hb5) rfl ?_; intro w6 hb6; simp only [Act.put, List.setIfInBounds_toArray, List.set_cons_succ, List.set_cons_zero]))
        obtain ⟨A, c, w0, w1, w', hw0, hbs, hap, hkey, hrow, hend⟩ := HEnd.out w6 hb6
        have C0 := hkey ⟨w.heap.size, 0, none⟩ (.pointer (some ⟨H, 0, none⟩)) ((hb6.cell (cell_lt p0)).trans p0) (.inl (Nat.le_refl _))
        have C2 := hkey ⟨H, 2, none⟩ vn (cellOf ((hb6.block _ (lt_of_block HR2.out)).trans HR2.out) 2 rfl) (.inr rfl)
        have q2 := cellOf hrow 2 (v := vn) rfl
        have f2 : w'.frozen? ⟨H, 2, none⟩ = false := by simp [World.frozen?, hrow]
        have HBs := Lib.hid hbs
        have HAp := Lib.hid hap
        have HE := Lib.hid hend
        clear hbs hap hend hkey hrow x0 p0 p1 hb5 hb6
        refine region_make2 (w1 := w1) (w2 := w') 8 hw0 (by kernel_rfl) (by kernel_rfl) (by kernel_rfl) (by kernel_rfl) ?_
        simp only [List.take_succ_cons, List.take_zero, List.drop_succ_cons, List.drop_zero]
        repeat (first | go_big_quiet_step (fail) | quiet_step (fail))
        refine wpQuiet_nil ?_
        refine mk_bs _ rfl rfl 23 1 _ rfl (vs := #[(0, noteV ⟨3, a, d, 0, 0⟩)]) rfl HBs.out ?_
        simp only [Act.put, List.setIfInBounds_toArray, List.set_cons_succ, List.set_cons_zero]
        refine mk_append _ rfl rfl _ _ 23 rfl rfl rfl HAp.out ?_
        simp only [Act.put, List.setIfInBounds_toArray, List.set_cons_succ, List.set_cons_zero]
        clear C0 C2 hw0
        go_wp2
        go_end0
        exact HE.out
  · have HTk := Lib.hid (show takeF s ws = none by unfold takeF; rw [if_neg hn1, if_neg hn2, if_pos hk, if_neg hl])
    have hne : ((ws.length : Int) == 3) = false := by simp; omega
    have hpos : 0 < ws.length := by have := h.one; omega
    have HE := Lib.hid (show TakeQ base H vp vn s ws w (.panicked chE) W2 from .inr ⟨HTk.out, rfl, HFin.out W2 (Below.refl _ _)⟩)
    clear hT h hk hl hn1 hn2
    go_enter Tryz.func82, Tryz.ntmps82
    go_upto_region 1 with (fail)
    rw [← hW2]
    clear hW2
    go_wp2_with (first | (refine wpList_mkfn2 rfl _ _ rfl (cs := #[.pointer (some ⟨w.heap.size + 1, 0, none⟩), .pointer (some ⟨w.heap.size, 0, none⟩)]) rfl ?_; simp only [Act.put, List.setIfInBounds_toArray, List.set_cons_succ, List.set_cons_zero]) | (go_at_call 85; refine (must_false _).mono ?_; rintro e wm ⟨rfl, hw⟩; subst wm; exact ⟨rfl, HE.out⟩))
end Go.Proofs.YtajdgdelhlfniaaGreatDoor
namespace Go.Proofs.YtajdgdelhlfniaaGreatDoor
open Go.RowKit

/-- what holds within the statement that makes a note out of words: m reads and calls, then a new box, then the store -/
structure TnI (W : World) (m : Nat) (val : Nat → Value) (ok : Nat → Prop) (cs : Array Value) (L : Nat → Bool) (vs : Nat → Value) (X : World) : Prop where
  bel : Below W.heap.size W X
  rd : ∀ k, k < m → L k = true → vs k = val k
  ok : ∀ k, k < m → L k = true → ok k
  al : L m = true → ∃ g, W.heap.size ≤ g ∧ vs m = .pointer (some ⟨g, 0, none⟩) ∧ X.heap[g]? = some (.cells (if L (m + 1) = true then cs else #[.int .i64 0, .int .i64 0, .int .i64 0, .int .i64 0, .int .i64 0]) 69)
theorem ok_step {P : Nat → Prop} {ok : Nat → Prop} {L : Nat → Bool} (h : ∀ k, P k → L k = true → ok k) {i : Nat} (hv : P i → ok i) : ∀ k, P k → updB L i k = true → ok k := by
  intro k hk hu
  by_cases e : k = i
  · subst e; exact hv hk
  · exact h k hk (by rwa [updB_other _ e] at hu)
theorem TnI.al_next {W : World} {m : Nat} {val : Nat → Value} {ok : Nat → Prop} {cs : Array Value} {L : Nat → Bool} {vs : Nat → Value} {X X' : World} (h : TnI W m val ok cs L vs X) (hb : Below X.heap.size X X') :
    L m = true → ∃ g, W.heap.size ≤ g ∧ vs m = .pointer (some ⟨g, 0, none⟩) ∧ X'.heap[g]? = some (.cells (if L (m + 1) = true then cs else #[.int .i64 0, .int .i64 0, .int .i64 0, .int .i64 0, .int .i64 0]) 69) := fun hl => by
  obtain ⟨g, h1, h2, h3⟩ := h.al hl
  exact ⟨g, h1, h2, (hb.block _ (lt_of_block h3)).trans h3⟩
theorem setRow_below {w : World} {g B : Nat} (cs : Array Value) (hg : B ≤ g) : Below B w (w.setRow g cs) := ⟨rfl, rfl, rfl, by simp, fun k hk => setRow_other _ _ _ _ (by omega)⟩
theorem hid_point {w W2 : World} {base H gw cw : Nat} {vp vn : Value} {s : ShR} {ws : List ByteArray} (h : TakeIn base H gw cw vp vn s ws w) (hT : TakeW w W2 H gw cw ws.length) (i : Nat) (hi : i ≤ 1000) :
    ∃ r, Hid (∀ X, Below W2.heap.size W2 X → Calls Tryz.prog 110 #[.int .i64 i, .pointer (some ⟨w.heap.size + 1, 0, none⟩), .pointer (some ⟨w.heap.size, 0, none⟩)] X fun e w' => ((pointF s.pts ws i = some r ∧ e = .returned (.int .i64 r)) ∨ (pointF s.pts ws i = none ∧ e = .panicked chE)) ∧ Below X.heap.size X w') := by
  refine ⟨(pointF s.pts ws i).getD 0, Lib.hid fun X hX => ?_⟩
  have p0 := cellOf hT.b0 0 (v := .pointer (some ⟨H, 0, none⟩)) rfl
  have p1 := cellOf hT.b1 0 (v := .slice (some ⟨gw, 0, none⟩) ws.length cw) rfl
  refine (point_any (w := X) (a := ⟨w.heap.size + 1, 0, none⟩) (b := ⟨w.heap.size, 0, none⟩) (h := H) (vp := vp) (xs := s.pts) i ((hX.cell (cell_lt p0)).trans p0)
      ((hX.cell (by have := hT.below.size; have := h.hb; have := h.le; show H < _; omega)).trans (cellOf (h.sh.below hT.below).row 1 rfl)) ((hX.cell (cell_lt p1)).trans p1) (h.sh.pts.below (hT.below.trans (hX.mono hT.below.size)))
      ((h.wd.below (hT.below.trans (hX.mono hT.below.size))).mono (Nat.le_trans hT.below.size hX.size)) hi (by have := h.one; omega)).mono ?_
  rintro e w' ⟨(⟨r, hr, rfl⟩ | ⟨hn, rfl⟩), hb⟩
  · exact ⟨.inl ⟨by rw [hr]; rfl, by rw [hr]; rfl⟩, hb⟩
  · exact ⟨.inr ⟨hn, rfl⟩, hb⟩
theorem hid_num {w W2 : World} {base H gw cw : Nat} {vp vn : Value} {s : ShR} {ws : List ByteArray} (h : TakeIn base H gw cw vp vn s ws w) (hT : TakeW w W2 H gw cw ws.length) (i : Nat) :
    ∃ r, Hid (∀ X, Below W2.heap.size W2 X → Calls Tryz.prog 112 #[.string (wd ws i)] X fun e w' => ((numF (wd ws i) = some r ∧ e = .returned (.int .i64 r)) ∨ (numF (wd ws i) = none ∧ e = .panicked chE)) ∧ Below X.heap.size X w') := by
  refine ⟨(numF (wd ws i)).getD 0, Lib.hid fun X hX => ?_⟩
  refine (number_any (wd ws i) (wd_small h.small i) (w := X) (h.gl.below (hT.below.trans (hX.mono hT.below.size)))).mono ?_
  rintro e w' ⟨(⟨r, hr, rfl⟩ | ⟨hn, rfl⟩), hb⟩
  · exact ⟨.inl ⟨by rw [hr]; rfl, by rw [hr]; rfl⟩, hb⟩
  · exact ⟨.inr ⟨hn, rfl⟩, hb⟩
end Go.Proofs.YtajdgdelhlfniaaGreatDoor
