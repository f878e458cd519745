/- Parts of the proof of TpP: Tk4, Tk4b, Tk5. -/
import Derived.Test.YthnimhnlnddnoaaGreatDoorH24
import Derived.WalkKit
import Derived.Deep.Quiet
set_option linter.unusedSimpArgs false
set_option linter.unusedVariables false
set_option maxRecDepth 100000
set_option maxHeartbeats 8000000
namespace Go.Proofs.YthnimhnlnddnoaaGreatDoor
open Go.RowKit
theorem wpList_call_die {P : Program} {ops : Array Oper} {rest : List Oper} {o : Oper} {a : Act} {w : World} {Q : Exit → Act → World → Prop} (hgd : o.guard = none) (x : Operand) (args : Array Operand) (ts : Array TypeId) (ho : o.op = .call { callee := .value x, args := args, argTypes := ts })
  {f : FuncId} {c ws : Array Value} {ch : List PanicEntry} {R : World → Prop} (hx : a.eval x = .func (.func f) #[] c) (he : ∀ args w, (callFunc f args).run P w = .ok (.enter f args) w)
  (hc : Calls P f ws w fun e w' => e = .panicked ch ∧ R w') (hv : args.toList.map a.eval ++ c.toList = ws.toList) (h : ∀ w', R w' → Q (.panic ch) a w') : wpList P ops Q (o :: rest) a w := by
 refine wpList_plain hgd fun K hK => ?_
 unfold Oper.wp
 rw [run_call_clo x args ts ho hx he hv]
 refine Calls.mono hc ?_
 rintro e w' ⟨rfl, hr⟩
 exact h w' hr
theorem run_bsN (x : NoteR) (w : World) : (Instr.buildSlice 36 1 #[(0, noteV x)]).run Tryz.prog w = .ok (.slice (some ⟨w.heap.size, 0, none⟩) 1 1) (w.alloc (.cells #[.int .i64 x.kind, .int .i64 x.a, .int .i64 x.b, .int .i64 x.lo, .int .i64 x.hi] 86)) := by
 unfold noteV
 exact run_bsn _ _ _ _ _ w
theorem note_end {w W : World} {base H gw cw : Nat} {vp vn : Value} {s : ShR} {ws : List ByteArray} (h : TakeIn base H gw cw vp vn s ws w) (hb : Below w.heap.size w W) (x : NoteR) (htk : takeF s ws = some (addN s x)) :
  ∃ A c w0 w1 w', W.drew = w0 ∧ (Instr.buildSlice 36 1 #[(0, noteV x)]).run Tryz.prog w0 = .ok (.slice (some ⟨w0.heap.size, 0, none⟩) 1 1) w1 ∧
   (Builtin.append_ #[36, 36] 36 #[vn, .slice (some ⟨w0.heap.size, 0, none⟩) 1 1]).run Tryz.prog w1 = .ok (.slice A (s.notes.length + 1) c) w' ∧
   (∀ (a : Addr) (v : Value), W.cell? a = some v → (w.heap.size ≤ a.block ∨ a.block = H) → ∀ y : Tr w0 w1 w', y.1.cell? a = some v) ∧ w'.heap[H]? = some (.cells #[.int .i64 s.iv, vp, vn] 38) ∧
   TakeQ base H vp vn s ws w (.returned (.tuple #[])) (w'.setCell ⟨H, 2, none⟩ (.slice A (s.notes.length + 1) c)) := by
 have hs2 := h.sh.below hb
 have hle2 : base ≤ W.heap.size := Nat.le_trans h.le hb.size
 obtain ⟨A, c, w', hrun, ho', hg'⟩ := append_note2 (w := W.drew) (hs2.nts.qt ⟨1, rfl⟩) x (by have := h.few; omega) hle2
 obtain ⟨w0, hw0⟩ : ∃ w0, W.drew = w0 := ⟨_, rfl⟩
 obtain ⟨w1, hw1⟩ : ∃ w1, w0.alloc (.cells #[.int .i64 x.kind, .int .i64 x.a, .int .i64 x.b, .int .i64 x.lo, .int .i64 x.hi] 86) = w1 := ⟨_, rfl⟩
 rw [hw0, hw1] at hrun
 rw [hw0, hw1] at hg'
 obtain ⟨m1, m2, m3, m4, m5⟩ := nts_more hs2 hle2 h.hb (w1 := w1) (by rw [← hw1, ← hw0]) hg'
 have bw0 : Below W.heap.size W w0 := by rw [← hw0]; exact (Below.refl _ _).drew
 have bw1 : Below W.heap.size W w1 := by rw [← hw1, ← hw0]; exact (Below.refl _ _).drew.alloc (Nat.le_refl _) _
 have nb : ∀ b, (w.heap.size ≤ b ∨ b = H) → vn.ownBlock ≠ some b := fun b hbb e => by
  obtain ⟨h1, h2, _⟩ := h.sh.nts.ownBlock e
  have := h.hb
  omega
 have rH := (m1 H (lt_of_block hs2.row) (nb H (.inr rfl))).trans hs2.row
 refine ⟨A, c, w0, w1, w', hw0, ?_, hrun, ?_, rH, ?_⟩
 ·have := run_bsN x w0
  rwa [hw1] at this
 ·intro a v hv hne
  exact Tr.cell ((bw0.cell (cell_lt hv)).trans hv) ((bw1.cell (cell_lt hv)).trans hv) ((World.cell?_of_block (m1 _ (cell_lt hv) (nb _ hne))).trans hv)
 ·refine .inl ⟨_, htk, rfl, vp, .slice A (s.notes.length + 1) c, ⟨?_, ?_, ?_⟩, ⟨fun k hk hne => ?_, ?_, ?_⟩⟩
  ·exact (row3 rH 2 _).trans (by simp [addN])
  ·exact m5.setOther rH (by decide) 2 _
  ·exact ho'.setOther rH (by decide) 2 _
  ·refine (Below.heap_setCell _ _ _ _ hne).trans ((m1 k (by have := hb.size; have := h.le; omega) fun e => ?_).trans (hb.block k (Nat.lt_of_lt_of_le hk h.le)))
   have := (h.sh.nts.ownBlock e).1
   omega
  ·exact ((((NC.refl w).of_below hb).trans m3).setCell _ _)
  ·exact ((hb.mono (Nat.zero_le _)).trans (m2.mono (Nat.zero_le _))).setCell (Nat.zero_le _) _
theorem take_lake_any {w : World} {base H gw cw : Nat} {vp vn : Value} {s : ShR} {ws : List ByteArray} (h : TakeIn base H gw cw vp vn s ws w) (hk : wd ws 0 = wLake) :
  Calls Tryz.prog 67 #[.pointer (some ⟨H, 0, none⟩), .slice (some ⟨gw, 0, none⟩) ws.length cw] w fun e w' => TakeQ base H vp vn s ws w e w' := by
 have hn1 : ¬ wd ws 0 = wSheet := by rw [hk]; decide
 have hn2 : ¬ wd ws 0 = wPoint := by rw [hk]; decide
 obtain ⟨W2, hW2, hT⟩ := takeW_made w H gw cw ws.length
 have x0 := wd_at h.wd (i := 0) (by have := h.one; omega)
 rw [hk] at x0
 have x0 := (hT.below.cell (cell_lt x0)).trans x0
 have p0 := cellOf hT.b0 0 (v := .pointer (some ⟨H, 0, none⟩)) rfl
 have p1 := cellOf hT.b1 0 (v := .slice (some ⟨gw, 0, none⟩) ws.length cw) rfl
 have HT := Lib.hid hT
 have HS := Lib.hid h
 have HFin := Lib.hid (fin_of h hT)
 unfold wLake at x0
 by_cases hl : ws.length = 3
 ·have HTk := Lib.hid (show takeF s ws = (pointF s.pts ws 1).bind fun a => (pointF s.pts ws 2).map fun b => addN s ⟨3, a, b, 0, 0⟩ by unfold takeF; rw [if_neg hn1, if_neg hn2, if_pos hk, if_pos hl])
  have HPt := Lib.hid (fun (i : Nat) (hi : i ≤ 1000) (X : World) (hX : Below W2.heap.size W2 X) => point_any (w := X) (a := ⟨w.heap.size + 1, 0, none⟩) (b := ⟨w.heap.size, 0, none⟩) (h := H) (vp := vp) (xs := s.pts) i ((hX.cell (cell_lt p0)).trans p0)
   ((hX.cell (by have := hT.below.size; have := h.hb; have := h.le; show H < _; omega)).trans (cellOf (h.sh.below hT.below).row 1 rfl)) ((hX.cell (cell_lt p1)).trans p1) (h.sh.pts.below (hT.below.trans (hX.mono hT.below.size)))
   ((h.wd.below (hT.below.trans (hX.mono hT.below.size))).mono (Nat.le_trans hT.below.size hX.size)) hi (by have := h.one; omega))
  have HP1 := Lib.hid (HPt.out 1 (by omega) W2 (Below.refl _ _))
  rw [hl] at hW2 p1 ⊢
  cases h1 : pointF s.pts ws 1 with
  | none =>
   have hfin : ∀ wz, Below W2.heap.size W2 wz → TakeQ base H vp vn s ws w (.panicked chE) wz := fun wz hz => .inr ⟨by rw [HTk.out, h1]; rfl, rfl, HFin.out wz hz⟩
   have HF2 := Lib.hid hfin
   have HC : Hid (Calls Tryz.prog 107 #[.int .i64 1, .pointer (some ⟨w.heap.size + 1, 0, none⟩), .pointer (some ⟨w.heap.size, 0, none⟩)] W2 fun e w' => e = .panicked chE ∧ Below W2.heap.size W2 w') := Lib.hid (HP1.out.mono fun e w' hq => by
    obtain ⟨(⟨r, hr, _⟩ | ⟨_, he⟩), hbz⟩ := hq
    ·rw [h1] at hr; cases hr
    ·exact ⟨he, hbz⟩)
   clear hT h hk hl hn1 hn2 h1 hfin HPt HP1
   go_enter Tryz.func67, Tryz.ntmps67
   go_upto_region 1 with (fail)
   rw [← hW2]
   clear hW2
   go_wp2_with (first | (refine wpList_mkfn2 rfl _ _ rfl (cs := #[.pointer (some ⟨w.heap.size + 1, 0, none⟩), .pointer (some ⟨w.heap.size, 0, none⟩)]) rfl ?_; simp only [Act.put, List.setIfInBounds_toArray, List.set_cons_succ, List.set_cons_zero]) | (go_at_call 70; refine (must_true _).mono ?_; rintro e wm ⟨rfl, hw⟩; subst wm; dsimp only) | (refine wpList_call_die rfl _ _ _ rfl rfl enter110 (ch := chE) (ws := #[.int .i64 1, .pointer (some ⟨w.heap.size + 1, 0, none⟩), .pointer (some ⟨w.heap.size, 0, none⟩)]) (R := fun w' => Below W2.heap.size W2 w') HC.out rfl ?_; intro wz hz; exact ⟨rfl, HF2.out wz hz⟩))
  | some a =>
   have HC : Hid (Calls Tryz.prog 107 #[.int .i64 1, .pointer (some ⟨w.heap.size + 1, 0, none⟩), .pointer (some ⟨w.heap.size, 0, none⟩)] W2 fun e w' => e = .returned (.int .i64 a) ∧ Below W2.heap.size W2 w') := Lib.hid (HP1.out.mono fun e w' hq => by
    obtain ⟨(⟨r, hr, he⟩ | ⟨hr, _⟩), hbz⟩ := hq
    ·rw [h1] at hr; cases hr; exact ⟨he, hbz⟩
    ·rw [h1] at hr; cases hr)
   cases h2 : pointF s.pts ws 2 with
   | none =>
    have hfin : ∀ wz, Below W2.heap.size W2 wz → TakeQ base H vp vn s ws w (.panicked chE) wz := fun wz hz => .inr ⟨by rw [HTk.out, h1, h2]; rfl, rfl, HFin.out wz hz⟩
    have HF2 := Lib.hid hfin
    have HC2 : Hid (∀ X, Below W2.heap.size W2 X → Calls Tryz.prog 107 #[.int .i64 2, .pointer (some ⟨w.heap.size + 1, 0, none⟩), .pointer (some ⟨w.heap.size, 0, none⟩)] X fun e w' => e = .panicked chE ∧ Below W2.heap.size W2 w') := Lib.hid fun X hX => ((HPt.out 2 (by omega) X hX).mono fun e w' hq => by
     obtain ⟨(⟨r, hr, _⟩ | ⟨_, he⟩), hbz⟩ := hq
     ·rw [h2] at hr; cases hr
     ·exact ⟨he, hX.trans (hbz.mono hX.size)⟩)
    clear hT h hk hl hn1 hn2 h1 h2 hfin HPt HP1
    go_enter Tryz.func67, Tryz.ntmps67
    go_upto_region 1 with (fail)
    rw [← hW2]
    clear hW2
    go_wp2_with (first | (refine wpList_mkfn2 rfl _ _ rfl (cs := #[.pointer (some ⟨w.heap.size + 1, 0, none⟩), .pointer (some ⟨w.heap.size, 0, none⟩)]) rfl ?_; simp only [Act.put, List.setIfInBounds_toArray, List.set_cons_succ, List.set_cons_zero]) | (go_at_call 70; refine (must_true _).mono ?_; rintro e wm ⟨rfl, hw⟩; subst wm; dsimp only) | (refine wpList_call_clo rfl _ _ _ rfl rfl enter110 (v := .int .i64 a) (ws := #[.int .i64 1, .pointer (some ⟨w.heap.size + 1, 0, none⟩), .pointer (some ⟨w.heap.size, 0, none⟩)]) (R := fun w' => Below W2.heap.size W2 w') HC.out rfl ?_; intro w5 hb5; simp only [Act.put, List.setIfInBounds_toArray, List.set_cons_succ, List.set_cons_zero]) | (refine wpList_call_die rfl _ _ _ rfl rfl enter110 (ch := chE) (ws := #[.int .i64 2, .pointer (some ⟨w.heap.size + 1, 0, none⟩), .pointer (some ⟨w.heap.size, 0, none⟩)]) (R := fun w' => Below W2.heap.size W2 w') (HC2.out _ hb5) rfl ?_; intro wz hz; exact ⟨rfl, HF2.out wz hz⟩))
   | some d =>
    have HC2 : Hid (∀ X, Below W2.heap.size W2 X → Calls Tryz.prog 107 #[.int .i64 2, .pointer (some ⟨w.heap.size + 1, 0, none⟩), .pointer (some ⟨w.heap.size, 0, none⟩)] X fun e w' => e = .returned (.int .i64 d) ∧ Below W2.heap.size W2 w') := Lib.hid fun X hX => ((HPt.out 2 (by omega) X hX).mono fun e w' hq => by
     obtain ⟨(⟨r, hr, he⟩ | ⟨hr, _⟩), hbz⟩ := hq
     ·rw [h2] at hr; cases hr; exact ⟨he, hX.trans (hbz.mono hX.size)⟩
     ·rw [h2] at hr; cases hr)
    have HEnd := Lib.hid (fun (X : World) (hX : Below W2.heap.size W2 X) => note_end h (hT.below.trans (hX.mono hT.below.size)) ⟨3, a, d, 0, 0⟩ (by rw [HTk.out, h1, h2]; rfl))
    have HR2 := Lib.hid (h.sh.below hT.below).row
    clear hT h hk hl hn1 hn2 h1 h2 HPt HP1
    go_enter Tryz.func67, Tryz.ntmps67
    go_upto_region 1 with (fail)
    rw [← hW2]
    clear hW2
    go_upto_region 13 with (first | (refine wpList_mkfn2 rfl _ _ rfl (cs := #[.pointer (some ⟨w.heap.size + 1, 0, none⟩), .pointer (some ⟨w.heap.size, 0, none⟩)]) rfl ?_; simp only [Act.put, List.setIfInBounds_toArray, List.set_cons_succ, List.set_cons_zero]) | (go_at_call 70; refine (must_true _).mono ?_; rintro e wm ⟨rfl, hw⟩; subst wm; dsimp only) | (refine wpList_call_clo rfl _ _ _ rfl rfl enter110 (v := .int .i64 a) (ws := #[.int .i64 1, .pointer (some ⟨w.heap.size + 1, 0, none⟩), .pointer (some ⟨w.heap.size, 0, none⟩)]) (R := fun w' => Below W2.heap.size W2 w') HC.out rfl ?_; intro w5 hb5; simp only [Act.put, List.setIfInBounds_toArray, List.set_cons_succ, List.set_cons_zero]) | (refine wpList_call_clo rfl _ _ _ rfl rfl enter110 (v := .int .i64 d) (ws := #[.int .i64 2, .pointer (some ⟨w.heap.size + 1, 0, none⟩), .pointer (some ⟨w.heap.size, 0, none⟩)]) (R := fun w' => Below W2.heap.size W2 w') (HC2.out _ hb5) rfl ?_; intro w6 hb6; simp only [Act.put, List.setIfInBounds_toArray, List.set_cons_succ, List.set_cons_zero]))
    obtain ⟨A, c, w0, w1, w', hw0, hbs, hap, hkey, hrow, hend⟩ := HEnd.out w6 hb6
    have C0 := hkey ⟨w.heap.size, 0, none⟩ (.pointer (some ⟨H, 0, none⟩)) ((hb6.cell (cell_lt p0)).trans p0) (.inl (Nat.le_refl _))
    have C2 := hkey ⟨H, 2, none⟩ vn (cellOf ((hb6.block _ (lt_of_block HR2.out)).trans HR2.out) 2 rfl) (.inr rfl)
    have q2 := cellOf hrow 2 (v := vn) rfl
    have f2 : w'.frozen? ⟨H, 2, none⟩ = false := by simp [World.frozen?, hrow]
    have HBs := Lib.hid hbs
    have HAp := Lib.hid hap
    have HE := Lib.hid hend
    clear hbs hap hend hkey hrow x0 p0 p1 hb5 hb6
    refine region_make2 (w1 := w1) (w2 := w') 8 hw0 (by kernel_rfl) (by kernel_rfl) (by kernel_rfl) (by kernel_rfl) ?_
    simp only [List.take_succ_cons, List.take_zero, List.drop_succ_cons, List.drop_zero]
    repeat (first | go_big_quiet_step (fail) | quiet_step (fail))
    refine wpQuiet_nil ?_
    refine mk_bs _ rfl rfl 36 1 _ rfl (vs := #[(0, noteV ⟨3, a, d, 0, 0⟩)]) rfl HBs.out ?_
    simp only [Act.put, List.setIfInBounds_toArray, List.set_cons_succ, List.set_cons_zero]
    refine mk_append _ rfl rfl _ _ 36 rfl rfl rfl HAp.out ?_
    simp only [Act.put, List.setIfInBounds_toArray, List.set_cons_succ, List.set_cons_zero]
    clear C0 C2 hw0
    go_wp2
    go_end0
    exact HE.out
 ·have HTk := Lib.hid (show takeF s ws = none by unfold takeF; rw [if_neg hn1, if_neg hn2, if_pos hk, if_neg hl])
  have hne : ((ws.length : Int) == 3) = false := by simp; omega
  have hpos : 0 < ws.length := by have := h.one; omega
  have HE := Lib.hid (show TakeQ base H vp vn s ws w (.panicked chE) W2 from .inr ⟨HTk.out, rfl, HFin.out W2 (Below.refl _ _)⟩)
  clear hT h hk hl hn1 hn2
  go_enter Tryz.func67, Tryz.ntmps67
  go_upto_region 1 with (fail)
  rw [← hW2]
  clear hW2
  go_wp2_with (first | (refine wpList_mkfn2 rfl _ _ rfl (cs := #[.pointer (some ⟨w.heap.size + 1, 0, none⟩), .pointer (some ⟨w.heap.size, 0, none⟩)]) rfl ?_; simp only [Act.put, List.setIfInBounds_toArray, List.set_cons_succ, List.set_cons_zero]) | (go_at_call 70; refine (must_false _).mono ?_; rintro e wm ⟨rfl, hw⟩; subst wm; exact ⟨rfl, HE.out⟩))
end Go.Proofs.YthnimhnlnddnoaaGreatDoor
namespace Go.Proofs.YthnimhnlnddnoaaGreatDoor
open Go.RowKit
structure TnI (W : World) (m : Nat) (val : Nat → Value) (ok : Nat → Prop) (cs : Array Value) (L : Nat → Bool) (vs : Nat → Value) (X : World) : Prop where
 bel : Below W.heap.size W X
 rd : ∀ k, k < m → L k = true → vs k = val k
 ok : ∀ k, k < m → L k = true → ok k
 al : L m = true → ∃ g, W.heap.size ≤ g ∧ vs m = .pointer (some ⟨g, 0, none⟩) ∧ X.heap[g]? = some (.cells (if L (m + 1) = true then cs else #[.int .i64 0, .int .i64 0, .int .i64 0, .int .i64 0, .int .i64 0]) 86)
theorem ok_step {P : Nat → Prop} {ok : Nat → Prop} {L : Nat → Bool} (h : ∀ k, P k → L k = true → ok k) {i : Nat} (hv : P i → ok i) : ∀ k, P k → updB L i k = true → ok k := by
 intro k hk hu
 by_cases e : k = i
 ·subst e; exact hv hk
 ·exact h k hk (by rwa [updB_other _ e] at hu)
theorem TnI.al_next {W : World} {m : Nat} {val : Nat → Value} {ok : Nat → Prop} {cs : Array Value} {L : Nat → Bool} {vs : Nat → Value} {X X' : World} (h : TnI W m val ok cs L vs X) (hb : Below X.heap.size X X') :
  L m = true → ∃ g, W.heap.size ≤ g ∧ vs m = .pointer (some ⟨g, 0, none⟩) ∧ X'.heap[g]? = some (.cells (if L (m + 1) = true then cs else #[.int .i64 0, .int .i64 0, .int .i64 0, .int .i64 0, .int .i64 0]) 86) := fun hl => by
 obtain ⟨g, h1, h2, h3⟩ := h.al hl
 exact ⟨g, h1, h2, (hb.block _ (lt_of_block h3)).trans h3⟩
theorem setRow_below {w : World} {g B : Nat} (cs : Array Value) (hg : B ≤ g) : Below B w (w.setRow g cs) := ⟨rfl, rfl, rfl, by simp, fun k hk => setRow_other _ _ _ _ (by omega)⟩
theorem hid_point {w W2 : World} {base H gw cw : Nat} {vp vn : Value} {s : ShR} {ws : List ByteArray} (h : TakeIn base H gw cw vp vn s ws w) (hT : TakeW w W2 H gw cw ws.length) (i : Nat) (hi : i ≤ 1000) :
  ∃ r, Hid (∀ X, Below W2.heap.size W2 X → Calls Tryz.prog 107 #[.int .i64 i, .pointer (some ⟨w.heap.size + 1, 0, none⟩), .pointer (some ⟨w.heap.size, 0, none⟩)] X fun e w' => ((pointF s.pts ws i = some r ∧ e = .returned (.int .i64 r)) ∨ (pointF s.pts ws i = none ∧ e = .panicked chE)) ∧ Below X.heap.size X w') := by
 refine ⟨(pointF s.pts ws i).getD 0, Lib.hid fun X hX => ?_⟩
 have p0 := cellOf hT.b0 0 (v := .pointer (some ⟨H, 0, none⟩)) rfl
 have p1 := cellOf hT.b1 0 (v := .slice (some ⟨gw, 0, none⟩) ws.length cw) rfl
 refine (point_any (w := X) (a := ⟨w.heap.size + 1, 0, none⟩) (b := ⟨w.heap.size, 0, none⟩) (h := H) (vp := vp) (xs := s.pts) i ((hX.cell (cell_lt p0)).trans p0)
   ((hX.cell (by have := hT.below.size; have := h.hb; have := h.le; show H < _; omega)).trans (cellOf (h.sh.below hT.below).row 1 rfl)) ((hX.cell (cell_lt p1)).trans p1) (h.sh.pts.below (hT.below.trans (hX.mono hT.below.size)))
   ((h.wd.below (hT.below.trans (hX.mono hT.below.size))).mono (Nat.le_trans hT.below.size hX.size)) hi (by have := h.one; omega)).mono ?_
 rintro e w' ⟨(⟨r, hr, rfl⟩ | ⟨hn, rfl⟩), hb⟩
 ·exact ⟨.inl ⟨by rw [hr]; rfl, by rw [hr]; rfl⟩, hb⟩
 ·exact ⟨.inr ⟨hn, rfl⟩, hb⟩
theorem hid_num {w W2 : World} {base H gw cw : Nat} {vp vn : Value} {s : ShR} {ws : List ByteArray} (h : TakeIn base H gw cw vp vn s ws w) (hT : TakeW w W2 H gw cw ws.length) (i : Nat) :
  ∃ r, Hid (∀ X, Below W2.heap.size W2 X → Calls Tryz.prog 109 #[.string (wd ws i)] X fun e w' => ((numF (wd ws i) = some r ∧ e = .returned (.int .i64 r)) ∨ (numF (wd ws i) = none ∧ e = .panicked chE)) ∧ Below X.heap.size X w') := by
 refine ⟨(numF (wd ws i)).getD 0, Lib.hid fun X hX => ?_⟩
 refine (number_any (wd ws i) (wd_small h.small i) (w := X) (h.gl.below (hT.below.trans (hX.mono hT.below.size)))).mono ?_
 rintro e w' ⟨(⟨r, hr, rfl⟩ | ⟨hn, rfl⟩), hb⟩
 ·exact ⟨.inl ⟨by rw [hr]; rfl, by rw [hr]; rfl⟩, hb⟩
 ·exact ⟨.inr ⟨hn, rfl⟩, hb⟩
end Go.Proofs.YthnimhnlnddnoaaGreatDoor
namespace Go.Proofs.YthnimhnlnddnoaaGreatDoor
open Go.RowKit
theorem take_spot_any {w : World} {base H gw cw : Nat} {vp vn : Value} {s : ShR} {ws : List ByteArray} (h : TakeIn base H gw cw vp vn s ws w) (hk : wd ws 0 = wSpot) :
  Calls Tryz.prog 67 #[.pointer (some ⟨H, 0, none⟩), .slice (some ⟨gw, 0, none⟩) ws.length cw] w fun e w' => TakeQ base H vp vn s ws w e w' := by
 have hn1 : ¬ wd ws 0 = wSheet := by rw [hk]; decide
 have hn2 : ¬ wd ws 0 = wPoint := by rw [hk]; decide
 have hn3 : ¬ wd ws 0 = wLake := by rw [hk]; decide
 obtain ⟨W2, hW2, hT⟩ := takeW_made w H gw cw ws.length
 have x0 := wd_at h.wd (i := 0) (by have := h.one; omega)
 rw [hk] at x0
 have x0 := (hT.below.cell (cell_lt x0)).trans x0
 have p0 := cellOf hT.b0 0 (v := .pointer (some ⟨H, 0, none⟩)) rfl
 have p1 := cellOf hT.b1 0 (v := .slice (some ⟨gw, 0, none⟩) ws.length cw) rfl
 have HT := Lib.hid hT
 have HS := Lib.hid h
 have HFin := Lib.hid (fin_of h hT)
 unfold wSpot at x0
 by_cases hl : ws.length = 4
 ·have HTk := Lib.hid (show takeF s ws = (pointF s.pts ws 1).bind fun a => (numF (wd ws 2)).bind fun lo => (numF (wd ws 3)).map fun hi => addN s ⟨1, a, 0, lo, hi⟩ by unfold takeF; rw [if_neg hn1, if_neg hn2, if_neg hn3, if_pos (.inl hk), if_pos hl] ; simp only [show ¬ wd ws 0 = wContour by rw [hk]; decide, if_false])
  obtain ⟨r1, HP1⟩ := hid_point h hT 1 (by omega)
  obtain ⟨r2, HN2⟩ := hid_num h hT 2
  obtain ⟨r3, HN3⟩ := hid_num h hT 3
  have x2 := wd_at h.wd (i := 2) (by omega)
  have X2 := Lib.hid ((hT.below.cell (cell_lt x2)).trans x2)
  clear x2
  have x3 := wd_at h.wd (i := 3) (by omega)
  have X3 := Lib.hid ((hT.below.cell (cell_lt x3)).trans x3)
  clear x3
  have HEnd := Lib.hid (fun (hok : takeF s ws = some (addN s ⟨1, r1, 0, r2, r3⟩)) (X : World) (hX : Below W2.heap.size W2 X) => note_end h (hT.below.trans (hX.mono hT.below.size)) ⟨1, r1, 0, r2, r3⟩ hok)
  have HR2 := Lib.hid (h.sh.below hT.below).row
  rw [hl] at hW2 p1 ⊢
  have P0 := Lib.hid p0
  have P1 := Lib.hid p1
  have X0 := Lib.hid x0
  clear hT h hk hl hn1 hn2 hn3
  go_enter Tryz.func67, Tryz.ntmps67
  go_upto_region 1 with (fail)
  rw [← hW2]
  clear hW2
  go_upto_region 17 with (first | (refine wpList_mkfn2 rfl _ _ rfl (cs := #[.pointer (some ⟨w.heap.size + 1, 0, none⟩), .pointer (some ⟨w.heap.size, 0, none⟩)]) rfl ?_; simp only [Act.put, List.setIfInBounds_toArray, List.set_cons_succ, List.set_cons_zero]) | (go_at_call 70; refine (must_true _).mono ?_; rintro e wm ⟨rfl, hw⟩; subst wm; dsimp only))
  clear x0 p0 p1
  refine wp_region_ghost (TnI W2 12 (fun k => ([.func (.func 107) #[] #[.pointer (some ⟨w.heap.size + 1, 0, none⟩), .pointer (some ⟨w.heap.size, 0, none⟩)], .int .i64 r1, .slice (some ⟨gw, 0, none⟩) 4 cw, .pointer (some ⟨gw, 2, none⟩), .string (wd ws 2), .int .i64 r2, .slice (some ⟨gw, 0, none⟩) 4 cw, .pointer (some ⟨gw, 3, none⟩), .string (wd ws 3), .int .i64 r3, .agg #[.int .i64 r2, .int .i64 r3], .agg #[.int .i64 1, .int .i64 r1, .int .i64 0, .int .i64 r2, .int .i64 r3]] : List Value).getD k undef) (fun k => ([True, pointF s.pts ws 1 = some r1, True, True, True, numF (wd ws 2) = some r2, True, True, True, numF (wd ws 3) = some r3, True, True] : List Prop).getD k True) #[.int .i64 1, .int .i64 r1, .int .i64 0, .int .i64 r2, .int .i64 r3]) (by kernel_rfl) (by kernel_rfl) ?_ ?_ ?_
  ·exact ⟨(Below.refl _ _).drew, fun _ _ h => (by cases h), fun _ _ h => (by cases h), fun h => (by cases h)⟩
  ·refine ⟨?_, ?_, ?_, ?_, ?_, ?_, ?_, ?_, ?_, ?_, ?_, ?_, ?_, ?_, trivial⟩
   all_goals
    intro L vs X b hL hw hcl hI hf
   ·have e4 := hf.old 4 (by kernel_rfl)
    exact wp_of_run (v := .func (.func 107) #[] #[.pointer (some ⟨w.heap.size + 1, 0, none⟩), .pointer (some ⟨w.heap.size, 0, none⟩)]) (w' := X) (by unfold execOp; go_simp) (⟨hI.bel, rd_step hI.rd (fun _ => rfl), ok_step hI.ok (fun _ => trivial), hI.al⟩)
   ·have e74 := hf.got hw 0 74 (.func (.func 107) #[] #[.pointer (some ⟨w.heap.size + 1, 0, none⟩), .pointer (some ⟨w.heap.size, 0, none⟩)]) rfl (by kernel_rfl) (by simp) (hI.rd 0 (by decide))
    refine wp_of_call2 (f := 107) (args := #[.int .i64 1, .pointer (some ⟨w.heap.size + 1, 0, none⟩), .pointer (some ⟨w.heap.size, 0, none⟩)]) (run_call_clo (.tmp 74) _ _ rfl (c := #[.pointer (some ⟨w.heap.size + 1, 0, none⟩), .pointer (some ⟨w.heap.size, 0, none⟩)]) (eval_tmp e74) enter110 (by simp [Act.eval])) ?_
    refine (HP1.out X hI.bel).mono ?_
    rintro e wz ⟨(⟨hv, rfl⟩ | ⟨hn, rfl⟩), hbz⟩
    ·exact .inl ⟨_, rfl, hI.bel.trans (hbz.mono hI.bel.size), rd_step hI.rd (fun _ => rfl), ok_step hI.ok (fun _ => hv), hI.al_next hbz⟩
    ·refine .inr ⟨_, rfl, ?_⟩
     simp only [Exit.inBlock, Exit.then]
     exact ⟨hf.dfr, .inr ⟨by rw [HTk.out, hn]; rfl, rfl, HFin.out wz (hI.bel.trans (hbz.mono hI.bel.size))⟩⟩
   ·have e3 := hf.old 3 (by kernel_rfl)
    have a_P1 := (hI.bel.cell (cell_lt P1.out)).trans P1.out
    exact wp_of_run (v := .slice (some ⟨gw, 0, none⟩) 4 cw) (w' := X) (by unfold execOp; go_simp) (⟨hI.bel, rd_step hI.rd (fun _ => rfl), ok_step hI.ok (fun _ => trivial), hI.al⟩)
   ·have e76 := hf.got hw 2 76 (.slice (some ⟨gw, 0, none⟩) 4 cw) rfl (by kernel_rfl) (by simp) (hI.rd 2 (by decide))
    exact wp_of_run (v := .pointer (some ⟨gw, 2, none⟩)) (w' := X) (by unfold execOp; go_simp) (⟨hI.bel, rd_step hI.rd (fun _ => rfl), ok_step hI.ok (fun _ => trivial), hI.al⟩)
   ·have e77 := hf.got hw 3 77 (.pointer (some ⟨gw, 2, none⟩)) rfl (by kernel_rfl) (by simp) (hI.rd 3 (by decide))
    have a_X2 := (hI.bel.cell (cell_lt X2.out)).trans X2.out
    exact wp_of_run (v := .string (wd ws 2)) (w' := X) (by unfold execOp; go_simp) (⟨hI.bel, rd_step hI.rd (fun _ => rfl), ok_step hI.ok (fun _ => trivial), hI.al⟩)
   ·have e78 := hf.got hw 4 78 (.string (wd ws 2)) rfl (by kernel_rfl) (by simp) (hI.rd 4 (by decide))
    refine wp_of_call2 (f := 109) (args := #[.string (wd ws 2)]) (run_call_clo (.func 109) _ _ rfl (c := #[]) rfl enter112 (by simp [eval_tmp e78])) ?_
    refine (HN2.out X hI.bel).mono ?_
    rintro e wz ⟨(⟨hv, rfl⟩ | ⟨hn, rfl⟩), hbz⟩
    ·exact .inl ⟨_, rfl, hI.bel.trans (hbz.mono hI.bel.size), rd_step hI.rd (fun _ => rfl), ok_step hI.ok (fun _ => hv), hI.al_next hbz⟩
    ·refine .inr ⟨_, rfl, ?_⟩
     have d1 : L 1 = true := done_of hw 1 (by kernel_rfl)
     have k1 := hI.ok 1 (by decide) d1
     replace k1 : pointF s.pts ws 1 = some r1 := k1
     simp only [Exit.inBlock, Exit.then]
     exact ⟨hf.dfr, .inr ⟨by rw [HTk.out, k1, hn]; rfl, rfl, HFin.out wz (hI.bel.trans (hbz.mono hI.bel.size))⟩⟩
   ·have e3 := hf.old 3 (by kernel_rfl)
    have a_P1 := (hI.bel.cell (cell_lt P1.out)).trans P1.out
    exact wp_of_run (v := .slice (some ⟨gw, 0, none⟩) 4 cw) (w' := X) (by unfold execOp; go_simp) (⟨hI.bel, rd_step hI.rd (fun _ => rfl), ok_step hI.ok (fun _ => trivial), hI.al⟩)
   ·have e80 := hf.got hw 6 80 (.slice (some ⟨gw, 0, none⟩) 4 cw) rfl (by kernel_rfl) (by simp) (hI.rd 6 (by decide))
    exact wp_of_run (v := .pointer (some ⟨gw, 3, none⟩)) (w' := X) (by unfold execOp; go_simp) (⟨hI.bel, rd_step hI.rd (fun _ => rfl), ok_step hI.ok (fun _ => trivial), hI.al⟩)
   ·have e81 := hf.got hw 7 81 (.pointer (some ⟨gw, 3, none⟩)) rfl (by kernel_rfl) (by simp) (hI.rd 7 (by decide))
    have a_X3 := (hI.bel.cell (cell_lt X3.out)).trans X3.out
    exact wp_of_run (v := .string (wd ws 3)) (w' := X) (by unfold execOp; go_simp) (⟨hI.bel, rd_step hI.rd (fun _ => rfl), ok_step hI.ok (fun _ => trivial), hI.al⟩)
   ·have e82 := hf.got hw 8 82 (.string (wd ws 3)) rfl (by kernel_rfl) (by simp) (hI.rd 8 (by decide))
    refine wp_of_call2 (f := 109) (args := #[.string (wd ws 3)]) (run_call_clo (.func 109) _ _ rfl (c := #[]) rfl enter112 (by simp [eval_tmp e82])) ?_
    refine (HN3.out X hI.bel).mono ?_
    rintro e wz ⟨(⟨hv, rfl⟩ | ⟨hn, rfl⟩), hbz⟩
    ·exact .inl ⟨_, rfl, hI.bel.trans (hbz.mono hI.bel.size), rd_step hI.rd (fun _ => rfl), ok_step hI.ok (fun _ => hv), hI.al_next hbz⟩
    ·refine .inr ⟨_, rfl, ?_⟩
     have d5 : L 5 = true := done_of hw 5 (by kernel_rfl)
     have k5 := hI.ok 5 (by decide) d5
     replace k5 : numF (wd ws 2) = some r2 := k5
     have d1 : L 1 = true := hcl 5 _ rfl d5 1 (by decide)
     have k1 := hI.ok 1 (by decide) d1
     replace k1 : pointF s.pts ws 1 = some r1 := k1
     simp only [Exit.inBlock, Exit.then]
     exact ⟨hf.dfr, .inr ⟨by rw [HTk.out, k1, k5, hn]; rfl, rfl, HFin.out wz (hI.bel.trans (hbz.mono hI.bel.size))⟩⟩
   ·have e79 := hf.got hw 5 79 (.int .i64 r2) rfl (by kernel_rfl) (by simp) (hI.rd 5 (by decide))
    have e83 := hf.got hw 9 83 (.int .i64 r3) rfl (by kernel_rfl) (by simp) (hI.rd 9 (by decide))
    exact wp_of_run (v := .agg #[.int .i64 r2, .int .i64 r3]) (w' := X) (by unfold execOp; go_simp) (⟨hI.bel, rd_step hI.rd (fun _ => rfl), ok_step hI.ok (fun _ => trivial), hI.al⟩)
   ·have e75 := hf.got hw 1 75 (.int .i64 r1) rfl (by kernel_rfl) (by simp) (hI.rd 1 (by decide))
    have e84 := hf.got hw 10 84 (.agg #[.int .i64 r2, .int .i64 r3]) rfl (by kernel_rfl) (by simp) (hI.rd 10 (by decide))
    exact wp_of_run (v := .agg #[.int .i64 1, .int .i64 r1, .int .i64 0, .int .i64 r2, .int .i64 r3]) (w' := X) (by unfold execOp; go_simp) (⟨hI.bel, rd_step hI.rd (fun _ => rfl), ok_step hI.ok (fun _ => trivial), hI.al⟩)
   ·have n1 : L 13 = false := not_yet hcl 13 hL rfl (by kernel_rfl)
    exact wp_of_run (v := .pointer (some ⟨X.heap.size, 0, none⟩)) (w' := X.alloc (.cells #[.int .i64 0, .int .i64 0, .int .i64 0, .int .i64 0, .int .i64 0] 86)) (by unfold execOp; go_simp) (⟨hI.bel.alloc hI.bel.size _, rd_step hI.rd (fun h => absurd h (Nat.lt_irrefl _)), ok_step hI.ok (fun h => absurd h (Nat.lt_irrefl _)), fun _ => ⟨X.heap.size, hI.bel.size, rfl, by rw [show updB L 12 13 = false from n1]; exact heap_alloc_new _ _⟩⟩)
   ·have h12 : L 12 = true := done_of hw 12 (by kernel_rfl)
    obtain ⟨g, hg, hv, hx⟩ := hI.al h12
    rw [hL] at hx
    replace hx : X.heap[g]? = some (.cells #[.int .i64 0, .int .i64 0, .int .i64 0, .int .i64 0, .int .i64 0] 86) := hx
    have e7 := (hf.new 12 7 rfl h12 (by simp)).trans hv
    have e85 := hf.got hw 11 85 (.agg #[.int .i64 1, .int .i64 r1, .int .i64 0, .int .i64 r2, .int .i64 r3]) rfl (by kernel_rfl) (by simp) (hI.rd 11 (by decide))
    refine wp_store_row 86 (.tmp 7) (.tmp 85) rfl g #[.int .i64 1, .int .i64 r1, .int .i64 0, .int .i64 r2, .int .i64 r3] (eval_tmp e7) (eval_tmp e85) 86 _ hx (by kernel_rfl) rfl (by simp [Value.oneCell']) ⟨_, rfl, ?_⟩
    refine ⟨hI.bel.trans (setRow_below _ hg), rd_step hI.rd (fun h => absurd h (by decide)), ok_step hI.ok (fun h => absurd h (by decide)), fun _ => ⟨g, hg, hv, ?_⟩⟩
    rw [show updB L 13 13 = true from rfl]
    exact setRow_heap _ _ _ _ _ _ hx
  ·intro vs X hI
   obtain ⟨g, hg, hv, hxg⟩ := hI.al rfl
   have k1 : pointF s.pts ws 1 = some r1 := hI.ok 1 (by decide) rfl
   have k5 : numF (wd ws 2) = some r2 := hI.ok 5 (by decide) rfl
   have k9 : numF (wd ws 3) = some r3 := hI.ok 9 (by decide) rfl
   replace hxg : X.heap[g]? = some (.cells #[.int .i64 1, .int .i64 r1, .int .i64 0, .int .i64 r2, .int .i64 r3] 86) := hxg
   have hbX := hI.bel
   have HOk := Lib.hid (show takeF s ws = some (addN s ⟨1, r1, 0, r2, r3⟩) by rw [HTk.out, k1, k5, k9]; rfl)
   generalize vs 0 = u0
   generalize vs 1 = u1
   generalize vs 2 = u2
   generalize vs 3 = u3
   generalize vs 4 = u4
   generalize vs 5 = u5
   generalize vs 6 = u6
   generalize vs 7 = u7
   generalize vs 8 = u8
   generalize vs 9 = u9
   generalize vs 10 = u10
   generalize vs 11 = u11
   clear k1 k5 k9 hI
   simp [fill, slotOf, Act.put, hv]
   simp only [Exit.inBlock, Exit.then]
   have x0 := (hbX.cell (cell_lt X0.out)).trans X0.out
   have p0 := (hbX.cell (cell_lt P0.out)).trans P0.out
   have p1 := (hbX.cell (cell_lt P1.out)).trans P1.out
   have HX := Lib.hid hbX
   have HG := Lib.hid hxg
   have HGe := Lib.hid hg
   have cg := cellOf hxg 0 (v := .int .i64 1) rfl
   clear hbX hxg hg hv
   go_upto_region 20 with (fail)
   have hbX := HX.out
   have hxg := HG.out
   have hg := HGe.out
   obtain ⟨A, c, w0, w1, w', hw0, hbs, hap, hkey, hrow, hend⟩ := HEnd.out HOk.out X hbX
   have hgs : w.heap.size ≤ g := Nat.le_trans HT.out.below.size hg
   have C0 := hkey ⟨w.heap.size, 0, none⟩ (.pointer (some ⟨H, 0, none⟩)) p0 (.inl (Nat.le_refl _))
   have C2 := hkey ⟨H, 2, none⟩ vn (cellOf ((hbX.block _ (lt_of_block HR2.out)).trans HR2.out) 2 rfl) (.inr rfl)
   have D0 := hkey ⟨g, 0, none⟩ _ (cellOf hxg 0 rfl) (.inl hgs)
   have D1 := hkey ⟨g, 1, none⟩ _ (cellOf hxg 1 rfl) (.inl hgs)
   have D2 := hkey ⟨g, 2, none⟩ _ (cellOf hxg 2 rfl) (.inl hgs)
   have D3 := hkey ⟨g, 3, none⟩ _ (cellOf hxg 3 rfl) (.inl hgs)
   have D4 := hkey ⟨g, 4, none⟩ _ (cellOf hxg 4 rfl) (.inl hgs)
   have q2 := cellOf hrow 2 (v := vn) rfl
   have f2 : w'.frozen? ⟨H, 2, none⟩ = false := by simp [World.frozen?, hrow]
   have HBs := Lib.hid hbs
   have HAp := Lib.hid hap
   have HE := Lib.hid hend
   clear hbs hap hend hkey hrow x0 p0 p1 hbX hxg hg hgs
   refine region_make2 (w1 := w1) (w2 := w') 6 hw0 (by kernel_rfl) (by kernel_rfl) (by kernel_rfl) (by kernel_rfl) ?_
   simp only [List.take_succ_cons, List.take_zero, List.drop_succ_cons, List.drop_zero]
   repeat (first | go_big_quiet_step (fail) | quiet_step (fail))
   refine wpQuiet_nil ?_
   refine mk_bs _ rfl rfl 36 1 _ rfl (vs := #[(0, noteV ⟨1, r1, 0, r2, r3⟩)]) rfl HBs.out ?_
   simp only [Act.put, List.setIfInBounds_toArray, List.set_cons_succ, List.set_cons_zero]
   refine mk_append _ rfl rfl _ _ 36 rfl rfl rfl HAp.out ?_
   simp only [Act.put, List.setIfInBounds_toArray, List.set_cons_succ, List.set_cons_zero]
   clear C0 C2 D0 D1 D2 D3 D4 hw0
   go_wp2
   go_end0
   exact HE.out
 ·have HTk := Lib.hid (show takeF s ws = none by unfold takeF; rw [if_neg hn1, if_neg hn2, if_neg hn3, if_pos (.inl hk), if_neg hl])
  have hne : ((ws.length : Int) == 4) = false := by simp; omega
  have hpos : 0 < ws.length := by have := h.one; omega
  have HE := Lib.hid (show TakeQ base H vp vn s ws w (.panicked chE) W2 from .inr ⟨HTk.out, rfl, HFin.out W2 (Below.refl _ _)⟩)
  clear hT h hk hl hn1 hn2 hn3
  go_enter Tryz.func67, Tryz.ntmps67
  go_upto_region 1 with (fail)
  rw [← hW2]
  clear hW2
  go_wp2_with (first | (refine wpList_mkfn2 rfl _ _ rfl (cs := #[.pointer (some ⟨w.heap.size + 1, 0, none⟩), .pointer (some ⟨w.heap.size, 0, none⟩)]) rfl ?_; simp only [Act.put, List.setIfInBounds_toArray, List.set_cons_succ, List.set_cons_zero]) | (go_at_call 70; refine (must_false _).mono ?_; rintro e wm ⟨rfl, hw⟩; subst wm; exact ⟨rfl, HE.out⟩))
end Go.Proofs.YthnimhnlnddnoaaGreatDoor
