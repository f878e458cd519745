/- Parts of the proof of TpP: Tk6, Tk7. -/
import Derived.Test.YthnimhnlnddnoaaGreatDoorH25
import Derived.WalkKit
import Derived.Deep.Quiet
set_option linter.unusedSimpArgs false
set_option linter.unusedVariables false
set_option maxRecDepth 100000
set_option maxHeartbeats 8000000
namespace Go.Proofs.YthnimhnlnddnoaaGreatDoor
open Go.RowKit
theorem take_contour_any {w : World} {base H gw cw : Nat} {vp vn : Value} {s : ShR} {ws : List ByteArray} (h : TakeIn base H gw cw vp vn s ws w) (hk : wd ws 0 = wContour) :
  Calls Tryz.prog 67 #[.pointer (some ⟨H, 0, none⟩), .slice (some ⟨gw, 0, none⟩) ws.length cw] w fun e w' => TakeQ base H vp vn s ws w e w' := by
 have hn1 : ¬ wd ws 0 = wSheet := by rw [hk]; decide
 have hn2 : ¬ wd ws 0 = wPoint := by rw [hk]; decide
 have hn3 : ¬ wd ws 0 = wLake := by rw [hk]; decide
 obtain ⟨W2, hW2, hT⟩ := takeW_made w H gw cw ws.length
 have x0 := wd_at h.wd (i := 0) (by have := h.one; omega)
 rw [hk] at x0
 have x0 := (hT.below.cell (cell_lt x0)).trans x0
 have p0 := cellOf hT.b0 0 (v := .pointer (some ⟨H, 0, none⟩)) rfl
 have p1 := cellOf hT.b1 0 (v := .slice (some ⟨gw, 0, none⟩) ws.length cw) rfl
 have HT := Lib.hid hT
 have HS := Lib.hid h
 have HFin := Lib.hid (fin_of h hT)
 unfold wContour at x0
 by_cases hl : ws.length = 4
 ·have HTk := Lib.hid (show takeF s ws = (pointF s.pts ws 1).bind fun a => (numF (wd ws 2)).bind fun lo => (numF (wd ws 3)).map fun hi => addN s ⟨2, a, 0, lo, hi⟩ by unfold takeF; rw [if_neg hn1, if_neg hn2, if_neg hn3, if_pos (.inr hk), if_pos hl] ; simp only [if_pos hk])
  obtain ⟨r1, HP1⟩ := hid_point h hT 1 (by omega)
  obtain ⟨r2, HN2⟩ := hid_num h hT 2
  obtain ⟨r3, HN3⟩ := hid_num h hT 3
  have x2 := wd_at h.wd (i := 2) (by omega)
  have X2 := Lib.hid ((hT.below.cell (cell_lt x2)).trans x2)
  clear x2
  have x3 := wd_at h.wd (i := 3) (by omega)
  have X3 := Lib.hid ((hT.below.cell (cell_lt x3)).trans x3)
  clear x3
  have HEnd := Lib.hid (fun (hok : takeF s ws = some (addN s ⟨2, r1, 0, r2, r3⟩)) (X : World) (hX : Below W2.heap.size W2 X) => note_end h (hT.below.trans (hX.mono hT.below.size)) ⟨2, r1, 0, r2, r3⟩ hok)
  have HR2 := Lib.hid (h.sh.below hT.below).row
  rw [hl] at hW2 p1 ⊢
  have P0 := Lib.hid p0
  have P1 := Lib.hid p1
  have X0 := Lib.hid x0
  clear hT h hk hl hn1 hn2 hn3
  go_enter Tryz.func67, Tryz.ntmps67
  go_upto_region 1 with (fail)
  rw [← hW2]
  clear hW2
  go_upto_region 17 with (first | (refine wpList_mkfn2 rfl _ _ rfl (cs := #[.pointer (some ⟨w.heap.size + 1, 0, none⟩), .pointer (some ⟨w.heap.size, 0, none⟩)]) rfl ?_; simp only [Act.put, List.setIfInBounds_toArray, List.set_cons_succ, List.set_cons_zero]) | (go_at_call 70; refine (must_true _).mono ?_; rintro e wm ⟨rfl, hw⟩; subst wm; dsimp only))
  clear x0 p0 p1
  refine wp_region_ghost (TnI W2 12 (fun k => ([.func (.func 107) #[] #[.pointer (some ⟨w.heap.size + 1, 0, none⟩), .pointer (some ⟨w.heap.size, 0, none⟩)], .int .i64 r1, .slice (some ⟨gw, 0, none⟩) 4 cw, .pointer (some ⟨gw, 2, none⟩), .string (wd ws 2), .int .i64 r2, .slice (some ⟨gw, 0, none⟩) 4 cw, .pointer (some ⟨gw, 3, none⟩), .string (wd ws 3), .int .i64 r3, .agg #[.int .i64 r2, .int .i64 r3], .agg #[.int .i64 1, .int .i64 r1, .int .i64 0, .int .i64 r2, .int .i64 r3]] : List Value).getD k undef) (fun k => ([True, pointF s.pts ws 1 = some r1, True, True, True, numF (wd ws 2) = some r2, True, True, True, numF (wd ws 3) = some r3, True, True] : List Prop).getD k True) #[.int .i64 1, .int .i64 r1, .int .i64 0, .int .i64 r2, .int .i64 r3]) (by kernel_rfl) (by kernel_rfl) ?_ ?_ ?_
  ·exact ⟨(Below.refl _ _).drew, fun _ _ h => (by cases h), fun _ _ h => (by cases h), fun h => (by cases h)⟩
  ·refine ⟨?_, ?_, ?_, ?_, ?_, ?_, ?_, ?_, ?_, ?_, ?_, ?_, ?_, ?_, trivial⟩
   all_goals
    intro L vs X b hL hw hcl hI hf
   ·have e4 := hf.old 4 (by kernel_rfl)
    exact wp_of_run (v := .func (.func 107) #[] #[.pointer (some ⟨w.heap.size + 1, 0, none⟩), .pointer (some ⟨w.heap.size, 0, none⟩)]) (w' := X) (by unfold execOp; go_simp) (⟨hI.bel, rd_step hI.rd (fun _ => rfl), ok_step hI.ok (fun _ => trivial), hI.al⟩)
   ·have e74 := hf.got hw 0 74 (.func (.func 107) #[] #[.pointer (some ⟨w.heap.size + 1, 0, none⟩), .pointer (some ⟨w.heap.size, 0, none⟩)]) rfl (by kernel_rfl) (by simp) (hI.rd 0 (by decide))
    refine wp_of_call2 (f := 107) (args := #[.int .i64 1, .pointer (some ⟨w.heap.size + 1, 0, none⟩), .pointer (some ⟨w.heap.size, 0, none⟩)]) (run_call_clo (.tmp 74) _ _ rfl (c := #[.pointer (some ⟨w.heap.size + 1, 0, none⟩), .pointer (some ⟨w.heap.size, 0, none⟩)]) (eval_tmp e74) enter110 (by simp [Act.eval])) ?_
    refine (HP1.out X hI.bel).mono ?_
    rintro e wz ⟨(⟨hv, rfl⟩ | ⟨hn, rfl⟩), hbz⟩
    ·exact .inl ⟨_, rfl, hI.bel.trans (hbz.mono hI.bel.size), rd_step hI.rd (fun _ => rfl), ok_step hI.ok (fun _ => hv), hI.al_next hbz⟩
    ·refine .inr ⟨_, rfl, ?_⟩
     simp only [Exit.inBlock, Exit.then]
     exact ⟨hf.dfr, .inr ⟨by rw [HTk.out, hn]; rfl, rfl, HFin.out wz (hI.bel.trans (hbz.mono hI.bel.size))⟩⟩
   ·have e3 := hf.old 3 (by kernel_rfl)
    have a_P1 := (hI.bel.cell (cell_lt P1.out)).trans P1.out
    exact wp_of_run (v := .slice (some ⟨gw, 0, none⟩) 4 cw) (w' := X) (by unfold execOp; go_simp) (⟨hI.bel, rd_step hI.rd (fun _ => rfl), ok_step hI.ok (fun _ => trivial), hI.al⟩)
   ·have e76 := hf.got hw 2 76 (.slice (some ⟨gw, 0, none⟩) 4 cw) rfl (by kernel_rfl) (by simp) (hI.rd 2 (by decide))
    exact wp_of_run (v := .pointer (some ⟨gw, 2, none⟩)) (w' := X) (by unfold execOp; go_simp) (⟨hI.bel, rd_step hI.rd (fun _ => rfl), ok_step hI.ok (fun _ => trivial), hI.al⟩)
   ·have e77 := hf.got hw 3 77 (.pointer (some ⟨gw, 2, none⟩)) rfl (by kernel_rfl) (by simp) (hI.rd 3 (by decide))
    have a_X2 := (hI.bel.cell (cell_lt X2.out)).trans X2.out
    exact wp_of_run (v := .string (wd ws 2)) (w' := X) (by unfold execOp; go_simp) (⟨hI.bel, rd_step hI.rd (fun _ => rfl), ok_step hI.ok (fun _ => trivial), hI.al⟩)
   ·have e78 := hf.got hw 4 78 (.string (wd ws 2)) rfl (by kernel_rfl) (by simp) (hI.rd 4 (by decide))
    refine wp_of_call2 (f := 109) (args := #[.string (wd ws 2)]) (run_call_clo (.func 109) _ _ rfl (c := #[]) rfl enter112 (by simp [eval_tmp e78])) ?_
    refine (HN2.out X hI.bel).mono ?_
    rintro e wz ⟨(⟨hv, rfl⟩ | ⟨hn, rfl⟩), hbz⟩
    ·exact .inl ⟨_, rfl, hI.bel.trans (hbz.mono hI.bel.size), rd_step hI.rd (fun _ => rfl), ok_step hI.ok (fun _ => hv), hI.al_next hbz⟩
    ·refine .inr ⟨_, rfl, ?_⟩
     have d1 : L 1 = true := done_of hw 1 (by kernel_rfl)
     have k1 := hI.ok 1 (by decide) d1
     replace k1 : pointF s.pts ws 1 = some r1 := k1
     simp only [Exit.inBlock, Exit.then]
     exact ⟨hf.dfr, .inr ⟨by rw [HTk.out, k1, hn]; rfl, rfl, HFin.out wz (hI.bel.trans (hbz.mono hI.bel.size))⟩⟩
   ·have e3 := hf.old 3 (by kernel_rfl)
    have a_P1 := (hI.bel.cell (cell_lt P1.out)).trans P1.out
    exact wp_of_run (v := .slice (some ⟨gw, 0, none⟩) 4 cw) (w' := X) (by unfold execOp; go_simp) (⟨hI.bel, rd_step hI.rd (fun _ => rfl), ok_step hI.ok (fun _ => trivial), hI.al⟩)
   ·have e80 := hf.got hw 6 80 (.slice (some ⟨gw, 0, none⟩) 4 cw) rfl (by kernel_rfl) (by simp) (hI.rd 6 (by decide))
    exact wp_of_run (v := .pointer (some ⟨gw, 3, none⟩)) (w' := X) (by unfold execOp; go_simp) (⟨hI.bel, rd_step hI.rd (fun _ => rfl), ok_step hI.ok (fun _ => trivial), hI.al⟩)
   ·have e81 := hf.got hw 7 81 (.pointer (some ⟨gw, 3, none⟩)) rfl (by kernel_rfl) (by simp) (hI.rd 7 (by decide))
    have a_X3 := (hI.bel.cell (cell_lt X3.out)).trans X3.out
    exact wp_of_run (v := .string (wd ws 3)) (w' := X) (by unfold execOp; go_simp) (⟨hI.bel, rd_step hI.rd (fun _ => rfl), ok_step hI.ok (fun _ => trivial), hI.al⟩)
   ·have e82 := hf.got hw 8 82 (.string (wd ws 3)) rfl (by kernel_rfl) (by simp) (hI.rd 8 (by decide))
    refine wp_of_call2 (f := 109) (args := #[.string (wd ws 3)]) (run_call_clo (.func 109) _ _ rfl (c := #[]) rfl enter112 (by simp [eval_tmp e82])) ?_
    refine (HN3.out X hI.bel).mono ?_
    rintro e wz ⟨(⟨hv, rfl⟩ | ⟨hn, rfl⟩), hbz⟩
    ·exact .inl ⟨_, rfl, hI.bel.trans (hbz.mono hI.bel.size), rd_step hI.rd (fun _ => rfl), ok_step hI.ok (fun _ => hv), hI.al_next hbz⟩
    ·refine .inr ⟨_, rfl, ?_⟩
     have d5 : L 5 = true := done_of hw 5 (by kernel_rfl)
     have k5 := hI.ok 5 (by decide) d5
     replace k5 : numF (wd ws 2) = some r2 := k5
     have d1 : L 1 = true := hcl 5 _ rfl d5 1 (by decide)
     have k1 := hI.ok 1 (by decide) d1
     replace k1 : pointF s.pts ws 1 = some r1 := k1
     simp only [Exit.inBlock, Exit.then]
     exact ⟨hf.dfr, .inr ⟨by rw [HTk.out, k1, k5, hn]; rfl, rfl, HFin.out wz (hI.bel.trans (hbz.mono hI.bel.size))⟩⟩
   ·have e79 := hf.got hw 5 79 (.int .i64 r2) rfl (by kernel_rfl) (by simp) (hI.rd 5 (by decide))
    have e83 := hf.got hw 9 83 (.int .i64 r3) rfl (by kernel_rfl) (by simp) (hI.rd 9 (by decide))
    exact wp_of_run (v := .agg #[.int .i64 r2, .int .i64 r3]) (w' := X) (by unfold execOp; go_simp) (⟨hI.bel, rd_step hI.rd (fun _ => rfl), ok_step hI.ok (fun _ => trivial), hI.al⟩)
   ·have e75 := hf.got hw 1 75 (.int .i64 r1) rfl (by kernel_rfl) (by simp) (hI.rd 1 (by decide))
    have e84 := hf.got hw 10 84 (.agg #[.int .i64 r2, .int .i64 r3]) rfl (by kernel_rfl) (by simp) (hI.rd 10 (by decide))
    exact wp_of_run (v := .agg #[.int .i64 1, .int .i64 r1, .int .i64 0, .int .i64 r2, .int .i64 r3]) (w' := X) (by unfold execOp; go_simp) (⟨hI.bel, rd_step hI.rd (fun _ => rfl), ok_step hI.ok (fun _ => trivial), hI.al⟩)
   ·have n1 : L 13 = false := not_yet hcl 13 hL rfl (by kernel_rfl)
    exact wp_of_run (v := .pointer (some ⟨X.heap.size, 0, none⟩)) (w' := X.alloc (.cells #[.int .i64 0, .int .i64 0, .int .i64 0, .int .i64 0, .int .i64 0] 86)) (by unfold execOp; go_simp) (⟨hI.bel.alloc hI.bel.size _, rd_step hI.rd (fun h => absurd h (Nat.lt_irrefl _)), ok_step hI.ok (fun h => absurd h (Nat.lt_irrefl _)), fun _ => ⟨X.heap.size, hI.bel.size, rfl, by rw [show updB L 12 13 = false from n1]; exact heap_alloc_new _ _⟩⟩)
   ·have h12 : L 12 = true := done_of hw 12 (by kernel_rfl)
    obtain ⟨g, hg, hv, hx⟩ := hI.al h12
    rw [hL] at hx
    replace hx : X.heap[g]? = some (.cells #[.int .i64 0, .int .i64 0, .int .i64 0, .int .i64 0, .int .i64 0] 86) := hx
    have e7 := (hf.new 12 7 rfl h12 (by simp)).trans hv
    have e85 := hf.got hw 11 85 (.agg #[.int .i64 1, .int .i64 r1, .int .i64 0, .int .i64 r2, .int .i64 r3]) rfl (by kernel_rfl) (by simp) (hI.rd 11 (by decide))
    refine wp_store_row 86 (.tmp 7) (.tmp 85) rfl g #[.int .i64 1, .int .i64 r1, .int .i64 0, .int .i64 r2, .int .i64 r3] (eval_tmp e7) (eval_tmp e85) 86 _ hx (by kernel_rfl) rfl (by simp [Value.oneCell']) ⟨_, rfl, ?_⟩
    refine ⟨hI.bel.trans (setRow_below _ hg), rd_step hI.rd (fun h => absurd h (by decide)), ok_step hI.ok (fun h => absurd h (by decide)), fun _ => ⟨g, hg, hv, ?_⟩⟩
    rw [show updB L 13 13 = true from rfl]
    exact setRow_heap _ _ _ _ _ _ hx
  ·intro vs X hI
   obtain ⟨g, hg, hv, hxg⟩ := hI.al rfl
   have k1 : pointF s.pts ws 1 = some r1 := hI.ok 1 (by decide) rfl
   have k5 : numF (wd ws 2) = some r2 := hI.ok 5 (by decide) rfl
   have k9 : numF (wd ws 3) = some r3 := hI.ok 9 (by decide) rfl
   replace hxg : X.heap[g]? = some (.cells #[.int .i64 1, .int .i64 r1, .int .i64 0, .int .i64 r2, .int .i64 r3] 86) := hxg
   have hbX := hI.bel
   have HOk := Lib.hid (show takeF s ws = some (addN s ⟨2, r1, 0, r2, r3⟩) by rw [HTk.out, k1, k5, k9]; rfl)
   generalize vs 0 = u0
   generalize vs 1 = u1
   generalize vs 2 = u2
   generalize vs 3 = u3
   generalize vs 4 = u4
   generalize vs 5 = u5
   generalize vs 6 = u6
   generalize vs 7 = u7
   generalize vs 8 = u8
   generalize vs 9 = u9
   generalize vs 10 = u10
   generalize vs 11 = u11
   clear k1 k5 k9 hI
   simp [fill, slotOf, Act.put, hv]
   simp only [Exit.inBlock, Exit.then]
   have x0 := (hbX.cell (cell_lt X0.out)).trans X0.out
   have p0 := (hbX.cell (cell_lt P0.out)).trans P0.out
   have p1 := (hbX.cell (cell_lt P1.out)).trans P1.out
   have HX := Lib.hid hbX
   have HG := Lib.hid hxg
   have hgf : X.frozen? ⟨g, 0, none⟩ = false := by simp [World.frozen?, hxg]
   have HGe := Lib.hid hg
   have cg := cellOf hxg 0 (v := .int .i64 1) rfl
   clear hbX hxg hg hv
   go_upto_region 20 with (fail)
   obtain ⟨Xf, hXf⟩ : ∃ Xf, Xf = X.setCell ⟨g, 0, none⟩ (.int .i64 2) := ⟨_, rfl⟩
   rw [← hXf]
   have hbX : Below W2.heap.size W2 Xf := by rw [hXf]; exact HX.out.setCell HGe.out _
   have hxg : Xf.heap[g]? = some (.cells #[.int .i64 2, .int .i64 r1, .int .i64 0, .int .i64 r2, .int .i64 r3] 86) := by rw [hXf]; exact (row3 HG.out 0 _).trans (by simp)
   have hg := HGe.out
   clear hXf x0 p0 p1 hgf cg
   have p0 := (hbX.cell (cell_lt P0.out)).trans P0.out
   obtain ⟨A, c, w0, w1, w', hw0, hbs, hap, hkey, hrow, hend⟩ := HEnd.out HOk.out Xf hbX
   have hgs : w.heap.size ≤ g := Nat.le_trans HT.out.below.size hg
   have C0 := hkey ⟨w.heap.size, 0, none⟩ (.pointer (some ⟨H, 0, none⟩)) p0 (.inl (Nat.le_refl _))
   have C2 := hkey ⟨H, 2, none⟩ vn (cellOf ((hbX.block _ (lt_of_block HR2.out)).trans HR2.out) 2 rfl) (.inr rfl)
   have D0 := hkey ⟨g, 0, none⟩ _ (cellOf hxg 0 rfl) (.inl hgs)
   have D1 := hkey ⟨g, 1, none⟩ _ (cellOf hxg 1 rfl) (.inl hgs)
   have D2 := hkey ⟨g, 2, none⟩ _ (cellOf hxg 2 rfl) (.inl hgs)
   have D3 := hkey ⟨g, 3, none⟩ _ (cellOf hxg 3 rfl) (.inl hgs)
   have D4 := hkey ⟨g, 4, none⟩ _ (cellOf hxg 4 rfl) (.inl hgs)
   have q2 := cellOf hrow 2 (v := vn) rfl
   have f2 : w'.frozen? ⟨H, 2, none⟩ = false := by simp [World.frozen?, hrow]
   have HBs := Lib.hid hbs
   have HAp := Lib.hid hap
   have HE := Lib.hid hend
   clear hbs hap hend hkey hrow p0 hbX hxg hg hgs
   refine region_make2 (w1 := w1) (w2 := w') 6 hw0 (by kernel_rfl) (by kernel_rfl) (by kernel_rfl) (by kernel_rfl) ?_
   simp only [List.take_succ_cons, List.take_zero, List.drop_succ_cons, List.drop_zero]
   repeat (first | go_big_quiet_step (fail) | quiet_step (fail))
   refine wpQuiet_nil ?_
   refine mk_bs _ rfl rfl 36 1 _ rfl (vs := #[(0, noteV ⟨2, r1, 0, r2, r3⟩)]) rfl HBs.out ?_
   simp only [Act.put, List.setIfInBounds_toArray, List.set_cons_succ, List.set_cons_zero]
   refine mk_append _ rfl rfl _ _ 36 rfl rfl rfl HAp.out ?_
   simp only [Act.put, List.setIfInBounds_toArray, List.set_cons_succ, List.set_cons_zero]
   clear C0 C2 D0 D1 D2 D3 D4 hw0
   go_wp2
   go_end0
   exact HE.out
 ·have HTk := Lib.hid (show takeF s ws = none by unfold takeF; rw [if_neg hn1, if_neg hn2, if_neg hn3, if_pos (.inr hk), if_neg hl])
  have hne : ((ws.length : Int) == 4) = false := by simp; omega
  have hpos : 0 < ws.length := by have := h.one; omega
  have HE := Lib.hid (show TakeQ base H vp vn s ws w (.panicked chE) W2 from .inr ⟨HTk.out, rfl, HFin.out W2 (Below.refl _ _)⟩)
  clear hT h hk hl hn1 hn2 hn3
  go_enter Tryz.func67, Tryz.ntmps67
  go_upto_region 1 with (fail)
  rw [← hW2]
  clear hW2
  go_wp2_with (first | (refine wpList_mkfn2 rfl _ _ rfl (cs := #[.pointer (some ⟨w.heap.size + 1, 0, none⟩), .pointer (some ⟨w.heap.size, 0, none⟩)]) rfl ?_; simp only [Act.put, List.setIfInBounds_toArray, List.set_cons_succ, List.set_cons_zero]) | (go_at_call 70; refine (must_false _).mono ?_; rintro e wm ⟨rfl, hw⟩; subst wm; exact ⟨rfl, HE.out⟩))
end Go.Proofs.YthnimhnlnddnoaaGreatDoor
namespace Go.Proofs.YthnimhnlnddnoaaGreatDoor
open Go.RowKit
theorem take_slope_any {w : World} {base H gw cw : Nat} {vp vn : Value} {s : ShR} {ws : List ByteArray} (h : TakeIn base H gw cw vp vn s ws w) (hk : wd ws 0 = wSlope) :
  Calls Tryz.prog 67 #[.pointer (some ⟨H, 0, none⟩), .slice (some ⟨gw, 0, none⟩) ws.length cw] w fun e w' => TakeQ base H vp vn s ws w e w' := by
 have hn1 : ¬ wd ws 0 = wSheet := by rw [hk]; decide
 have hn2 : ¬ wd ws 0 = wPoint := by rw [hk]; decide
 have hn3 : ¬ wd ws 0 = wLake := by rw [hk]; decide
 have hn4 : ¬ wd ws 0 = wSpot := by rw [hk]; decide
 have hn5 : ¬ wd ws 0 = wContour := by rw [hk]; decide
 obtain ⟨W2, hW2, hT⟩ := takeW_made w H gw cw ws.length
 have x0 := wd_at h.wd (i := 0) (by have := h.one; omega)
 rw [hk] at x0
 have x0 := (hT.below.cell (cell_lt x0)).trans x0
 have p0 := cellOf hT.b0 0 (v := .pointer (some ⟨H, 0, none⟩)) rfl
 have p1 := cellOf hT.b1 0 (v := .slice (some ⟨gw, 0, none⟩) ws.length cw) rfl
 have HT := Lib.hid hT
 have HS := Lib.hid h
 have HFin := Lib.hid (fin_of h hT)
 unfold wSlope at x0
 by_cases hl : ws.length = 5
 ·have HTk := Lib.hid (show takeF s ws = (pointF s.pts ws 1).bind fun a => (pointF s.pts ws 2).bind fun b => (numF (wd ws 3)).bind fun lo => (numF (wd ws 4)).map fun hi => addN s ⟨4, a, b, lo, hi⟩ by unfold takeF; rw [if_neg hn1, if_neg hn2, if_neg hn3, if_neg (fun e => e.elim hn4 hn5), if_pos hk, if_pos hl])
  obtain ⟨r1, HP1⟩ := hid_point h hT 1 (by omega)
  obtain ⟨r2, HP2⟩ := hid_point h hT 2 (by omega)
  obtain ⟨r3, HN3⟩ := hid_num h hT 3
  obtain ⟨r4, HN4⟩ := hid_num h hT 4
  have x3 := wd_at h.wd (i := 3) (by omega)
  have X3 := Lib.hid ((hT.below.cell (cell_lt x3)).trans x3)
  clear x3
  have x4 := wd_at h.wd (i := 4) (by omega)
  have X4 := Lib.hid ((hT.below.cell (cell_lt x4)).trans x4)
  clear x4
  have HEnd := Lib.hid (fun (hok : takeF s ws = some (addN s ⟨4, r1, r2, r3, r4⟩)) (X : World) (hX : Below W2.heap.size W2 X) => note_end h (hT.below.trans (hX.mono hT.below.size)) ⟨4, r1, r2, r3, r4⟩ hok)
  have HR2 := Lib.hid (h.sh.below hT.below).row
  rw [hl] at hW2 p1 ⊢
  have P0 := Lib.hid p0
  have P1 := Lib.hid p1
  have X0 := Lib.hid x0
  clear hT h hk hl hn1 hn2 hn3 hn4 hn5
  go_enter Tryz.func67, Tryz.ntmps67
  go_upto_region 1 with (fail)
  rw [← hW2]
  clear hW2
  go_upto_region 23 with (first | (refine wpList_mkfn2 rfl _ _ rfl (cs := #[.pointer (some ⟨w.heap.size + 1, 0, none⟩), .pointer (some ⟨w.heap.size, 0, none⟩)]) rfl ?_; simp only [Act.put, List.setIfInBounds_toArray, List.set_cons_succ, List.set_cons_zero]) | (go_at_call 70; refine (must_true _).mono ?_; rintro e wm ⟨rfl, hw⟩; subst wm; dsimp only))
  clear x0 p0 p1
  refine wp_region_ghost (TnI W2 14 (fun k => ([.func (.func 107) #[] #[.pointer (some ⟨w.heap.size + 1, 0, none⟩), .pointer (some ⟨w.heap.size, 0, none⟩)], .int .i64 r1, .func (.func 107) #[] #[.pointer (some ⟨w.heap.size + 1, 0, none⟩), .pointer (some ⟨w.heap.size, 0, none⟩)], .int .i64 r2, .slice (some ⟨gw, 0, none⟩) 5 cw, .pointer (some ⟨gw, 3, none⟩), .string (wd ws 3), .int .i64 r3, .slice (some ⟨gw, 0, none⟩) 5 cw, .pointer (some ⟨gw, 4, none⟩), .string (wd ws 4), .int .i64 r4, .agg #[.int .i64 r3, .int .i64 r4], .agg #[.int .i64 4, .int .i64 r1, .int .i64 r2, .int .i64 r3, .int .i64 r4]] : List Value).getD k undef) (fun k => ([True, pointF s.pts ws 1 = some r1, True, pointF s.pts ws 2 = some r2, True, True, True, numF (wd ws 3) = some r3, True, True, True, numF (wd ws 4) = some r4, True, True] : List Prop).getD k True) #[.int .i64 4, .int .i64 r1, .int .i64 r2, .int .i64 r3, .int .i64 r4]) (by kernel_rfl) (by kernel_rfl) ?_ ?_ ?_
  ·exact ⟨(Below.refl _ _).drew, fun _ _ h => (by cases h), fun _ _ h => (by cases h), fun h => (by cases h)⟩
  ·refine ⟨?_, ?_, ?_, ?_, ?_, ?_, ?_, ?_, ?_, ?_, ?_, ?_, ?_, ?_, ?_, ?_, trivial⟩
   all_goals
    intro L vs X b hL hw hcl hI hf
   ·have e4 := hf.old 4 (by kernel_rfl)
    exact wp_of_run (v := .func (.func 107) #[] #[.pointer (some ⟨w.heap.size + 1, 0, none⟩), .pointer (some ⟨w.heap.size, 0, none⟩)]) (w' := X) (by unfold execOp; go_simp) (⟨hI.bel, rd_step hI.rd (fun _ => rfl), ok_step hI.ok (fun _ => trivial), hI.al⟩)
   ·have e107 := hf.got hw 0 107 (.func (.func 107) #[] #[.pointer (some ⟨w.heap.size + 1, 0, none⟩), .pointer (some ⟨w.heap.size, 0, none⟩)]) rfl (by kernel_rfl) (by simp) (hI.rd 0 (by decide))
    refine wp_of_call2 (f := 107) (args := #[.int .i64 1, .pointer (some ⟨w.heap.size + 1, 0, none⟩), .pointer (some ⟨w.heap.size, 0, none⟩)]) (run_call_clo (.tmp 107) _ _ rfl (c := #[.pointer (some ⟨w.heap.size + 1, 0, none⟩), .pointer (some ⟨w.heap.size, 0, none⟩)]) (eval_tmp e107) enter110 (by simp [Act.eval])) ?_
    refine (HP1.out X hI.bel).mono ?_
    rintro e wz ⟨(⟨hv, rfl⟩ | ⟨hn, rfl⟩), hbz⟩
    ·exact .inl ⟨_, rfl, hI.bel.trans (hbz.mono hI.bel.size), rd_step hI.rd (fun _ => rfl), ok_step hI.ok (fun _ => hv), hI.al_next hbz⟩
    ·refine .inr ⟨_, rfl, ?_⟩
     simp only [Exit.inBlock, Exit.then]
     exact ⟨hf.dfr, .inr ⟨by rw [HTk.out, hn]; rfl, rfl, HFin.out wz (hI.bel.trans (hbz.mono hI.bel.size))⟩⟩
   ·have e4 := hf.old 4 (by kernel_rfl)
    exact wp_of_run (v := .func (.func 107) #[] #[.pointer (some ⟨w.heap.size + 1, 0, none⟩), .pointer (some ⟨w.heap.size, 0, none⟩)]) (w' := X) (by unfold execOp; go_simp) (⟨hI.bel, rd_step hI.rd (fun _ => rfl), ok_step hI.ok (fun _ => trivial), hI.al⟩)
   ·have e109 := hf.got hw 2 109 (.func (.func 107) #[] #[.pointer (some ⟨w.heap.size + 1, 0, none⟩), .pointer (some ⟨w.heap.size, 0, none⟩)]) rfl (by kernel_rfl) (by simp) (hI.rd 2 (by decide))
    refine wp_of_call2 (f := 107) (args := #[.int .i64 2, .pointer (some ⟨w.heap.size + 1, 0, none⟩), .pointer (some ⟨w.heap.size, 0, none⟩)]) (run_call_clo (.tmp 109) _ _ rfl (c := #[.pointer (some ⟨w.heap.size + 1, 0, none⟩), .pointer (some ⟨w.heap.size, 0, none⟩)]) (eval_tmp e109) enter110 (by simp [Act.eval])) ?_
    refine (HP2.out X hI.bel).mono ?_
    rintro e wz ⟨(⟨hv, rfl⟩ | ⟨hn, rfl⟩), hbz⟩
    ·exact .inl ⟨_, rfl, hI.bel.trans (hbz.mono hI.bel.size), rd_step hI.rd (fun _ => rfl), ok_step hI.ok (fun _ => hv), hI.al_next hbz⟩
    ·refine .inr ⟨_, rfl, ?_⟩
     have d1 : L 1 = true := done_of hw 1 (by kernel_rfl)
     have k1 := hI.ok 1 (by decide) d1
     replace k1 : pointF s.pts ws 1 = some r1 := k1
     simp only [Exit.inBlock, Exit.then]
     exact ⟨hf.dfr, .inr ⟨by rw [HTk.out, k1, hn]; rfl, rfl, HFin.out wz (hI.bel.trans (hbz.mono hI.bel.size))⟩⟩
   ·have e3 := hf.old 3 (by kernel_rfl)
    have a_P1 := (hI.bel.cell (cell_lt P1.out)).trans P1.out
    exact wp_of_run (v := .slice (some ⟨gw, 0, none⟩) 5 cw) (w' := X) (by unfold execOp; go_simp) (⟨hI.bel, rd_step hI.rd (fun _ => rfl), ok_step hI.ok (fun _ => trivial), hI.al⟩)
   ·have e111 := hf.got hw 4 111 (.slice (some ⟨gw, 0, none⟩) 5 cw) rfl (by kernel_rfl) (by simp) (hI.rd 4 (by decide))
    exact wp_of_run (v := .pointer (some ⟨gw, 3, none⟩)) (w' := X) (by unfold execOp; go_simp) (⟨hI.bel, rd_step hI.rd (fun _ => rfl), ok_step hI.ok (fun _ => trivial), hI.al⟩)
   ·have e112 := hf.got hw 5 112 (.pointer (some ⟨gw, 3, none⟩)) rfl (by kernel_rfl) (by simp) (hI.rd 5 (by decide))
    have a_X3 := (hI.bel.cell (cell_lt X3.out)).trans X3.out
    exact wp_of_run (v := .string (wd ws 3)) (w' := X) (by unfold execOp; go_simp) (⟨hI.bel, rd_step hI.rd (fun _ => rfl), ok_step hI.ok (fun _ => trivial), hI.al⟩)
   ·have e113 := hf.got hw 6 113 (.string (wd ws 3)) rfl (by kernel_rfl) (by simp) (hI.rd 6 (by decide))
    refine wp_of_call2 (f := 109) (args := #[.string (wd ws 3)]) (run_call_clo (.func 109) _ _ rfl (c := #[]) rfl enter112 (by simp [eval_tmp e113])) ?_
    refine (HN3.out X hI.bel).mono ?_
    rintro e wz ⟨(⟨hv, rfl⟩ | ⟨hn, rfl⟩), hbz⟩
    ·exact .inl ⟨_, rfl, hI.bel.trans (hbz.mono hI.bel.size), rd_step hI.rd (fun _ => rfl), ok_step hI.ok (fun _ => hv), hI.al_next hbz⟩
    ·refine .inr ⟨_, rfl, ?_⟩
     have d3 : L 3 = true := done_of hw 3 (by kernel_rfl)
     have k3 := hI.ok 3 (by decide) d3
     replace k3 : pointF s.pts ws 2 = some r2 := k3
     have d1 : L 1 = true := hcl 3 _ rfl d3 1 (by decide)
     have k1 := hI.ok 1 (by decide) d1
     replace k1 : pointF s.pts ws 1 = some r1 := k1
     simp only [Exit.inBlock, Exit.then]
     exact ⟨hf.dfr, .inr ⟨by rw [HTk.out, k1, k3, hn]; rfl, rfl, HFin.out wz (hI.bel.trans (hbz.mono hI.bel.size))⟩⟩
   ·have e3 := hf.old 3 (by kernel_rfl)
    have a_P1 := (hI.bel.cell (cell_lt P1.out)).trans P1.out
    exact wp_of_run (v := .slice (some ⟨gw, 0, none⟩) 5 cw) (w' := X) (by unfold execOp; go_simp) (⟨hI.bel, rd_step hI.rd (fun _ => rfl), ok_step hI.ok (fun _ => trivial), hI.al⟩)
   ·have e115 := hf.got hw 8 115 (.slice (some ⟨gw, 0, none⟩) 5 cw) rfl (by kernel_rfl) (by simp) (hI.rd 8 (by decide))
    exact wp_of_run (v := .pointer (some ⟨gw, 4, none⟩)) (w' := X) (by unfold execOp; go_simp) (⟨hI.bel, rd_step hI.rd (fun _ => rfl), ok_step hI.ok (fun _ => trivial), hI.al⟩)
   ·have e116 := hf.got hw 9 116 (.pointer (some ⟨gw, 4, none⟩)) rfl (by kernel_rfl) (by simp) (hI.rd 9 (by decide))
    have a_X4 := (hI.bel.cell (cell_lt X4.out)).trans X4.out
    exact wp_of_run (v := .string (wd ws 4)) (w' := X) (by unfold execOp; go_simp) (⟨hI.bel, rd_step hI.rd (fun _ => rfl), ok_step hI.ok (fun _ => trivial), hI.al⟩)
   ·have e117 := hf.got hw 10 117 (.string (wd ws 4)) rfl (by kernel_rfl) (by simp) (hI.rd 10 (by decide))
    refine wp_of_call2 (f := 109) (args := #[.string (wd ws 4)]) (run_call_clo (.func 109) _ _ rfl (c := #[]) rfl enter112 (by simp [eval_tmp e117])) ?_
    refine (HN4.out X hI.bel).mono ?_
    rintro e wz ⟨(⟨hv, rfl⟩ | ⟨hn, rfl⟩), hbz⟩
    ·exact .inl ⟨_, rfl, hI.bel.trans (hbz.mono hI.bel.size), rd_step hI.rd (fun _ => rfl), ok_step hI.ok (fun _ => hv), hI.al_next hbz⟩
    ·refine .inr ⟨_, rfl, ?_⟩
     have d7 : L 7 = true := done_of hw 7 (by kernel_rfl)
     have k7 := hI.ok 7 (by decide) d7
     replace k7 : numF (wd ws 3) = some r3 := k7
     have d3 : L 3 = true := hcl 7 _ rfl d7 3 (by decide)
     have k3 := hI.ok 3 (by decide) d3
     replace k3 : pointF s.pts ws 2 = some r2 := k3
     have d1 : L 1 = true := hcl 3 _ rfl d3 1 (by decide)
     have k1 := hI.ok 1 (by decide) d1
     replace k1 : pointF s.pts ws 1 = some r1 := k1
     simp only [Exit.inBlock, Exit.then]
     exact ⟨hf.dfr, .inr ⟨by rw [HTk.out, k1, k3, k7, hn]; rfl, rfl, HFin.out wz (hI.bel.trans (hbz.mono hI.bel.size))⟩⟩
   ·have e114 := hf.got hw 7 114 (.int .i64 r3) rfl (by kernel_rfl) (by simp) (hI.rd 7 (by decide))
    have e118 := hf.got hw 11 118 (.int .i64 r4) rfl (by kernel_rfl) (by simp) (hI.rd 11 (by decide))
    exact wp_of_run (v := .agg #[.int .i64 r3, .int .i64 r4]) (w' := X) (by unfold execOp; go_simp) (⟨hI.bel, rd_step hI.rd (fun _ => rfl), ok_step hI.ok (fun _ => trivial), hI.al⟩)
   ·have e108 := hf.got hw 1 108 (.int .i64 r1) rfl (by kernel_rfl) (by simp) (hI.rd 1 (by decide))
    have e110 := hf.got hw 3 110 (.int .i64 r2) rfl (by kernel_rfl) (by simp) (hI.rd 3 (by decide))
    have e119 := hf.got hw 12 119 (.agg #[.int .i64 r3, .int .i64 r4]) rfl (by kernel_rfl) (by simp) (hI.rd 12 (by decide))
    exact wp_of_run (v := .agg #[.int .i64 4, .int .i64 r1, .int .i64 r2, .int .i64 r3, .int .i64 r4]) (w' := X) (by unfold execOp; go_simp) (⟨hI.bel, rd_step hI.rd (fun _ => rfl), ok_step hI.ok (fun _ => trivial), hI.al⟩)
   ·have n1 : L 15 = false := not_yet hcl 15 hL rfl (by kernel_rfl)
    exact wp_of_run (v := .pointer (some ⟨X.heap.size, 0, none⟩)) (w' := X.alloc (.cells #[.int .i64 0, .int .i64 0, .int .i64 0, .int .i64 0, .int .i64 0] 86)) (by unfold execOp; go_simp) (⟨hI.bel.alloc hI.bel.size _, rd_step hI.rd (fun h => absurd h (Nat.lt_irrefl _)), ok_step hI.ok (fun h => absurd h (Nat.lt_irrefl _)), fun _ => ⟨X.heap.size, hI.bel.size, rfl, by rw [show updB L 14 15 = false from n1]; exact heap_alloc_new _ _⟩⟩)
   ·have h14 : L 14 = true := done_of hw 14 (by kernel_rfl)
    obtain ⟨g, hg, hv, hx⟩ := hI.al h14
    rw [hL] at hx
    replace hx : X.heap[g]? = some (.cells #[.int .i64 0, .int .i64 0, .int .i64 0, .int .i64 0, .int .i64 0] 86) := hx
    have e8 := (hf.new 14 8 rfl h14 (by simp)).trans hv
    have e120 := hf.got hw 13 120 (.agg #[.int .i64 4, .int .i64 r1, .int .i64 r2, .int .i64 r3, .int .i64 r4]) rfl (by kernel_rfl) (by simp) (hI.rd 13 (by decide))
    refine wp_store_row 86 (.tmp 8) (.tmp 120) rfl g #[.int .i64 4, .int .i64 r1, .int .i64 r2, .int .i64 r3, .int .i64 r4] (eval_tmp e8) (eval_tmp e120) 86 _ hx (by kernel_rfl) rfl (by simp [Value.oneCell']) ⟨_, rfl, ?_⟩
    refine ⟨hI.bel.trans (setRow_below _ hg), rd_step hI.rd (fun h => absurd h (by decide)), ok_step hI.ok (fun h => absurd h (by decide)), fun _ => ⟨g, hg, hv, ?_⟩⟩
    rw [show updB L 15 15 = true from rfl]
    exact setRow_heap _ _ _ _ _ _ hx
  ·intro vs X hI
   obtain ⟨g, hg, hv, hxg⟩ := hI.al rfl
   have k1 : pointF s.pts ws 1 = some r1 := hI.ok 1 (by decide) rfl
   have k3 : pointF s.pts ws 2 = some r2 := hI.ok 3 (by decide) rfl
   have k7 : numF (wd ws 3) = some r3 := hI.ok 7 (by decide) rfl
   have k11 : numF (wd ws 4) = some r4 := hI.ok 11 (by decide) rfl
   replace hxg : X.heap[g]? = some (.cells #[.int .i64 4, .int .i64 r1, .int .i64 r2, .int .i64 r3, .int .i64 r4] 86) := hxg
   have hbX := hI.bel
   have HOk := Lib.hid (show takeF s ws = some (addN s ⟨4, r1, r2, r3, r4⟩) by rw [HTk.out, k1, k3, k7, k11]; rfl)
   generalize vs 0 = u0
   generalize vs 1 = u1
   generalize vs 2 = u2
   generalize vs 3 = u3
   generalize vs 4 = u4
   generalize vs 5 = u5
   generalize vs 6 = u6
   generalize vs 7 = u7
   generalize vs 8 = u8
   generalize vs 9 = u9
   generalize vs 10 = u10
   generalize vs 11 = u11
   generalize vs 12 = u12
   generalize vs 13 = u13
   clear k1 k3 k7 k11 hI
   simp [fill, slotOf, Act.put, hv]
   simp only [Exit.inBlock, Exit.then]
   have x0 := (hbX.cell (cell_lt X0.out)).trans X0.out
   have p0 := (hbX.cell (cell_lt P0.out)).trans P0.out
   have p1 := (hbX.cell (cell_lt P1.out)).trans P1.out
   have HX := Lib.hid hbX
   have HG := Lib.hid hxg
   have HGe := Lib.hid hg
   have cg := cellOf hxg 0 (v := .int .i64 4) rfl
   clear hbX hxg hg hv
   go_upto_region 24 with (fail)
   have hbX := HX.out
   have hxg := HG.out
   have hg := HGe.out
   obtain ⟨A, c, w0, w1, w', hw0, hbs, hap, hkey, hrow, hend⟩ := HEnd.out HOk.out X hbX
   have hgs : w.heap.size ≤ g := Nat.le_trans HT.out.below.size hg
   have C0 := hkey ⟨w.heap.size, 0, none⟩ (.pointer (some ⟨H, 0, none⟩)) p0 (.inl (Nat.le_refl _))
   have C2 := hkey ⟨H, 2, none⟩ vn (cellOf ((hbX.block _ (lt_of_block HR2.out)).trans HR2.out) 2 rfl) (.inr rfl)
   have D0 := hkey ⟨g, 0, none⟩ _ (cellOf hxg 0 rfl) (.inl hgs)
   have D1 := hkey ⟨g, 1, none⟩ _ (cellOf hxg 1 rfl) (.inl hgs)
   have D2 := hkey ⟨g, 2, none⟩ _ (cellOf hxg 2 rfl) (.inl hgs)
   have D3 := hkey ⟨g, 3, none⟩ _ (cellOf hxg 3 rfl) (.inl hgs)
   have D4 := hkey ⟨g, 4, none⟩ _ (cellOf hxg 4 rfl) (.inl hgs)
   have q2 := cellOf hrow 2 (v := vn) rfl
   have f2 : w'.frozen? ⟨H, 2, none⟩ = false := by simp [World.frozen?, hrow]
   have HBs := Lib.hid hbs
   have HAp := Lib.hid hap
   have HE := Lib.hid hend
   clear hbs hap hend hkey hrow x0 p0 p1 hbX hxg hg hgs
   refine region_make2 (w1 := w1) (w2 := w') 6 hw0 (by kernel_rfl) (by kernel_rfl) (by kernel_rfl) (by kernel_rfl) ?_
   simp only [List.take_succ_cons, List.take_zero, List.drop_succ_cons, List.drop_zero]
   repeat (first | go_big_quiet_step (fail) | quiet_step (fail))
   refine wpQuiet_nil ?_
   refine mk_bs _ rfl rfl 36 1 _ rfl (vs := #[(0, noteV ⟨4, r1, r2, r3, r4⟩)]) rfl HBs.out ?_
   simp only [Act.put, List.setIfInBounds_toArray, List.set_cons_succ, List.set_cons_zero]
   refine mk_append _ rfl rfl _ _ 36 rfl rfl rfl HAp.out ?_
   simp only [Act.put, List.setIfInBounds_toArray, List.set_cons_succ, List.set_cons_zero]
   clear C0 C2 D0 D1 D2 D3 D4 hw0
   go_wp2
   go_end0
   exact HE.out
 ·have HTk := Lib.hid (show takeF s ws = none by unfold takeF; rw [if_neg hn1, if_neg hn2, if_neg hn3, if_neg (fun e => e.elim hn4 hn5), if_pos hk, if_neg hl])
  have hne : ((ws.length : Int) == 5) = false := by simp; omega
  have hpos : 0 < ws.length := by have := h.one; omega
  have HE := Lib.hid (show TakeQ base H vp vn s ws w (.panicked chE) W2 from .inr ⟨HTk.out, rfl, HFin.out W2 (Below.refl _ _)⟩)
  clear hT h hk hl hn1 hn2 hn3 hn4 hn5
  go_enter Tryz.func67, Tryz.ntmps67
  go_upto_region 1 with (fail)
  rw [← hW2]
  clear hW2
  go_wp2_with (first | (refine wpList_mkfn2 rfl _ _ rfl (cs := #[.pointer (some ⟨w.heap.size + 1, 0, none⟩), .pointer (some ⟨w.heap.size, 0, none⟩)]) rfl ?_; simp only [Act.put, List.setIfInBounds_toArray, List.set_cons_succ, List.set_cons_zero]) | (go_at_call 70; refine (must_false _).mono ?_; rintro e wm ⟨rfl, hw⟩; subst wm; exact ⟨rfl, HE.out⟩))
end Go.Proofs.YthnimhnlnddnoaaGreatDoor
