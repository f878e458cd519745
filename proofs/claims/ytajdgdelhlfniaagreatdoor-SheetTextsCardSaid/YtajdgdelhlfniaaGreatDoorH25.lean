/- Walks of the layer sheet: take of a line of a slope. Walks of the layer sheet: take of any line. The lines of a string: strings.Lines and its iterator. -/
import Derived.Test.YtajdgdelhlfniaaGreatDoorH23
import Derived.WalkKit
import Derived.Deep.Quiet
import Derived.Test.YtajdgdelhlfniaaGreatDoorH24
import Derived.Test.YtajdgdelhlfniaaGreatDoorH17
import Derived.Test.YtajdgdelhlfniaaGreatDoorH9
import Derived.Lib.IndexLaws
set_option linter.unusedSimpArgs false
set_option linter.unusedVariables false
namespace Go.Proofs.YtajdgdelhlfniaaGreatDoor
open Go.RowKit

set_option maxRecDepth 100000 in
set_option maxHeartbeats 4000000 in
theorem take_slope_any {w : World} {base H gw cw : Nat} {vp vn : Value} {s : ShR} {ws : List ByteArray} (h : TakeIn base H gw cw vp vn s ws w) (hk : wd ws 0 = wSlope) :
    Calls Tryz.prog 82 #[.pointer (some ⟨H, 0, none⟩), .slice (some ⟨gw, 0, none⟩) ws.length cw] w fun e w' => TakeQ base H vp vn s ws w e w' := by
  have hn1 : ¬ wd ws 0 = wSheet := by rw [hk]; decide
  have hn2 : ¬ wd ws 0 = wPoint := by rw [hk]; decide
  have hn3 : ¬ wd ws 0 = wLake := by rw [hk]; decide
  have hn4 : ¬ wd ws 0 = wSpot := by rw [hk]; decide
  have hn5 : ¬ wd ws 0 = wContour := by rw [hk]; decide
  obtain ⟨W2, hW2, hT⟩ := takeW_made w H gw cw ws.length
  have x0 := wd_at h.wd (i := 0) (by have := h.one; omega)
  rw [hk] at x0
  have x0 := (hT.below.cell (cell_lt x0)).trans x0
  have p0 := cellOf hT.b0 0 (v := .pointer (some ⟨H, 0, none⟩)) rfl
  have p1 := cellOf hT.b1 0 (v := .slice (some ⟨gw, 0, none⟩) ws.length cw) rfl
  have HT := Lib.hid hT
  have HS := Lib.hid h
  have HFin := Lib.hid (fin_of h hT)
  unfold wSlope at x0
  by_cases hl : ws.length = 5
  · have HTk := Lib.hid (show takeF s ws = (pointF s.pts ws 1).bind fun a => (pointF s.pts ws 2).bind fun b => (numF (wd ws 3)).bind fun lo => (numF (wd ws 4)).map fun hi => addN s ⟨4, a, b, lo, hi⟩ by unfold takeF; rw [if_neg hn1, if_neg hn2, if_neg hn3, if_neg (fun e => e.elim hn4 hn5), if_pos hk, if_pos hl])
    obtain ⟨r1, HP1⟩ := hid_point h hT 1 (by omega)
    obtain ⟨r2, HP2⟩ := hid_point h hT 2 (by omega)
    obtain ⟨r3, HN3⟩ := hid_num h hT 3
    obtain ⟨r4, HN4⟩ := hid_num h hT 4
    have x3 := wd_at h.wd (i := 3) (by omega)
    have X3 := Lib.hid ((hT.below.cell (cell_lt x3)).trans x3)
    clear x3
    have x4 := wd_at h.wd (i := 4) (by omega)
    have X4 := Lib.hid ((hT.below.cell (cell_lt x4)).trans x4)
    clear x4
    have HEnd := Lib.hid (fun (hok : takeF s ws = some (addN s ⟨4, r1, r2, r3, r4⟩)) (X : World) (hX : Below W2.heap.size W2 X) => note_end h (hT.below.trans (hX.mono hT.below.size)) ⟨4, r1, r2, r3, r4⟩ hok)
    have HR2 := Lib.hid (h.sh.below hT.below).row
    rw [hl] at hW2 p1 ⊢
    have P0 := Lib.hid p0
    have P1 := Lib.hid p1
    have X0 := Lib.hid x0
    clear hT h hk hl hn1 hn2 hn3 hn4 hn5
    go_enter Tryz.func82, Tryz.ntmps82
    go_upto_region 1 with (fail)
    rw [← hW2]
    clear hW2
    go_upto_region 23 with (first | (refine wpList_mkfn2 rfl _ _ rfl (cs := #[.pointer (some ⟨w.heap.size + 1, 0, none⟩), .pointer (some ⟨w.heap.size, 0, none⟩)]) rfl ?_; simp only [Act.put, List.setIfInBounds_toArray, List.set_cons_succ, List.set_cons_zero]) | (go_at_call 85; refine (must_true _).mono ?_; rintro e wm ⟨rfl, hw⟩; subst wm; dsimp only))
    clear x0 p0 p1
    refine wp_region_ghost (TnI W2 14 (fun k => ([.func (.func 110) #[] #[.pointer (some ⟨w.heap.size + 1, 0, none⟩), .pointer (some ⟨w.heap.size, 0, none⟩)], .int .i64 r1, .func (.func 110) #[] #[.pointer (some ⟨w.heap.size + 1, 0, none⟩), .pointer (some ⟨w.heap.size, 0, none⟩)], .int .i64 r2, .slice (some ⟨gw, 0, none⟩) 5 cw, .pointer (some ⟨gw, 3, none⟩), .string (wd ws 3), .int .i64 r3, .slice (some ⟨gw, 0, none⟩) 5 cw, .pointer (some ⟨gw, 4, none⟩), .string (wd ws 4), .int .i64 r4, .agg #[.int .i64 r3, .int .i64 r4], .agg #[.int .i64 4, .int .i64 r1, .int .i64 r2, .int .i64 r3, .int .i64 r4]] : List Value).getD k undef) (fun k => ([True, pointF s.pts ws 1 = some r1, True, pointF s.pts ws 2 = some r2, True, True, True, numF (wd ws 3) = some r3, True, True, True, numF (wd ws 4) = some r4, True, True] : List Prop).getD k True) #[.int .i64 4, .int .i64 r1, .int .i64 r2, .int .i64 r3, .int .i64 r4]) (by kernel_rfl) (by kernel_rfl) ?_ ?_ ?_
    · exact ⟨(Below.refl _ _).drew, fun _ _ h => (by cases h), fun _ _ h => (by cases h), fun h => (by cases h)⟩
    · refine ⟨?_, ?_, ?_, ?_, ?_, ?_, ?_, ?_, ?_, ?_, ?_, ?_, ?_, ?_, ?_, ?_, trivial⟩
      all_goals
        intro L vs X b hL hw hcl hI hf
      · have e4 := hf.old 4 (by kernel_rfl)
        refine wp_of_run (v := .func (.func 110) #[] #[.pointer (some ⟨w.heap.size + 1, 0, none⟩), .pointer (some ⟨w.heap.size, 0, none⟩)]) (w' := X) (by unfold execOp; go_simp) ?_
        exact ⟨hI.bel, rd_step hI.rd (fun _ => rfl), ok_step hI.ok (fun _ => trivial), hI.al⟩
      · have h0 : L 0 = true := done_of hw 0 (by kernel_rfl)
        have e107 : b.tmps[107]?.getD undef = .func (.func 110) #[] #[.pointer (some ⟨w.heap.size + 1, 0, none⟩), .pointer (some ⟨w.heap.size, 0, none⟩)] := (hf.new 0 107 rfl h0 (by simp)).trans (hI.rd 0 (by decide) h0)
        refine wp_of_call2 (f := 110) (args := #[.int .i64 1, .pointer (some ⟨w.heap.size + 1, 0, none⟩), .pointer (some ⟨w.heap.size, 0, none⟩)]) (run_call_clo (.tmp 107) _ _ rfl (c := #[.pointer (some ⟨w.heap.size + 1, 0, none⟩), .pointer (some ⟨w.heap.size, 0, none⟩)]) (eval_tmp e107) enter110 (by simp [Act.eval])) ?_
        refine (HP1.out X hI.bel).mono ?_
        rintro e wz ⟨(⟨hv, rfl⟩ | ⟨hn, rfl⟩), hbz⟩
        · exact .inl ⟨_, rfl, hI.bel.trans (hbz.mono hI.bel.size), rd_step hI.rd (fun _ => rfl), ok_step hI.ok (fun _ => hv), hI.al_next hbz⟩
        · refine .inr ⟨_, rfl, ?_⟩
          simp only [Exit.inBlock, Exit.then]
          exact ⟨hf.dfr, .inr ⟨by rw [HTk.out, hn]; rfl, rfl, HFin.out wz (hI.bel.trans (hbz.mono hI.bel.size))⟩⟩
      · have e4 := hf.old 4 (by kernel_rfl)
        refine wp_of_run (v := .func (.func 110) #[] #[.pointer (some ⟨w.heap.size + 1, 0, none⟩), .pointer (some ⟨w.heap.size, 0, none⟩)]) (w' := X) (by unfold execOp; go_simp) ?_
        exact ⟨hI.bel, rd_step hI.rd (fun _ => rfl), ok_step hI.ok (fun _ => trivial), hI.al⟩
      · have h2 : L 2 = true := done_of hw 2 (by kernel_rfl)
        have e109 : b.tmps[109]?.getD undef = .func (.func 110) #[] #[.pointer (some ⟨w.heap.size + 1, 0, none⟩), .pointer (some ⟨w.heap.size, 0, none⟩)] := (hf.new 2 109 rfl h2 (by simp)).trans (hI.rd 2 (by decide) h2)
        refine wp_of_call2 (f := 110) (args := #[.int .i64 2, .pointer (some ⟨w.heap.size + 1, 0, none⟩), .pointer (some ⟨w.heap.size, 0, none⟩)]) (run_call_clo (.tmp 109) _ _ rfl (c := #[.pointer (some ⟨w.heap.size + 1, 0, none⟩), .pointer (some ⟨w.heap.size, 0, none⟩)]) (eval_tmp e109) enter110 (by simp [Act.eval])) ?_
        refine (HP2.out X hI.bel).mono ?_
        rintro e wz ⟨(⟨hv, rfl⟩ | ⟨hn, rfl⟩), hbz⟩
        · exact .inl ⟨_, rfl, hI.bel.trans (hbz.mono hI.bel.size), rd_step hI.rd (fun _ => rfl), ok_step hI.ok (fun _ => hv), hI.al_next hbz⟩
        · refine .inr ⟨_, rfl, ?_⟩
          have d1 : L 1 = true := done_of hw 1 (by kernel_rfl)
          have k1 := hI.ok 1 (by decide) d1
          replace k1 : pointF s.pts ws 1 = some r1 := k1
          simp only [Exit.inBlock, Exit.then]
          exact ⟨hf.dfr, .inr ⟨by rw [HTk.out, k1, hn]; rfl, rfl, HFin.out wz (hI.bel.trans (hbz.mono hI.bel.size))⟩⟩
      · have e3 := hf.old 3 (by kernel_rfl)
        have a_P1 := (hI.bel.cell (cell_lt P1.out)).trans P1.out
        refine wp_of_run (v := .slice (some ⟨gw, 0, none⟩) 5 cw) (w' := X) (by unfold execOp; go_simp) ?_
        exact ⟨hI.bel, rd_step hI.rd (fun _ => rfl), ok_step hI.ok (fun _ => trivial), hI.al⟩
      · have h4 : L 4 = true := done_of hw 4 (by kernel_rfl)
        have e111 : b.tmps[111]?.getD undef = .slice (some ⟨gw, 0, none⟩) 5 cw := (hf.new 4 111 rfl h4 (by simp)).trans (hI.rd 4 (by decide) h4)
        refine wp_of_run (v := .pointer (some ⟨gw, 3, none⟩)) (w' := X) (by unfold execOp; go_simp) ?_
        exact ⟨hI.bel, rd_step hI.rd (fun _ => rfl), ok_step hI.ok (fun _ => trivial), hI.al⟩
      · have h5 : L 5 = true := done_of hw 5 (by kernel_rfl)
        have e112 : b.tmps[112]?.getD undef = .pointer (some ⟨gw, 3, none⟩) := (hf.new 5 112 rfl h5 (by simp)).trans (hI.rd 5 (by decide) h5)
        have a_X3 := (hI.bel.cell (cell_lt X3.out)).trans X3.out
        refine wp_of_run (v := .string (wd ws 3)) (w' := X) (by unfold execOp; go_simp) ?_
        exact ⟨hI.bel, rd_step hI.rd (fun _ => rfl), ok_step hI.ok (fun _ => trivial), hI.al⟩
      · have h6 : L 6 = true := done_of hw 6 (by kernel_rfl)
        have e113 : b.tmps[113]?.getD undef = .string (wd ws 3) := (hf.new 6 113 rfl h6 (by simp)).trans (hI.rd 6 (by decide) h6)
        refine wp_of_call2 (f := 112) (args := #[.string (wd ws 3)]) (run_call_clo (.func 112) _ _ rfl (c := #[]) rfl enter112 (by simp [eval_tmp e113])) ?_
        refine (HN3.out X hI.bel).mono ?_
        rintro e wz ⟨(⟨hv, rfl⟩ | ⟨hn, rfl⟩), hbz⟩
        · exact .inl ⟨_, rfl, hI.bel.trans (hbz.mono hI.bel.size), rd_step hI.rd (fun _ => rfl), ok_step hI.ok (fun _ => hv), hI.al_next hbz⟩
        · refine .inr ⟨_, rfl, ?_⟩
          have d3 : L 3 = true := done_of hw 3 (by kernel_rfl)
          have k3 := hI.ok 3 (by decide) d3
          replace k3 : pointF s.pts ws 2 = some r2 := k3
          have d1 : L 1 = true := hcl 3 _ rfl d3 1 (by decide)
          have k1 := hI.ok 1 (by decide) d1
          replace k1 : pointF s.pts ws 1 = some r1 := k1
          simp only [Exit.inBlock, Exit.then]
          exact ⟨hf.dfr, .inr ⟨by rw [HTk.out, k1, k3, hn]; rfl, rfl, HFin.out wz (hI.bel.trans (hbz.mono hI.bel.size))⟩⟩
      · have e3 := hf.old 3 (by kernel_rfl)
        have a_P1 := (hI.bel.cell (cell_lt P1.out)).trans P1.out
        refine wp_of_run (v := .slice (some ⟨gw, 0, none⟩) 5 cw) (w' := X) (by unfold execOp; go_simp) ?_
        exact ⟨hI.bel, rd_step hI.rd (fun _ => rfl), ok_step hI.ok (fun _ => trivial), hI.al⟩
      · have h8 : L 8 = true := done_of hw 8 (by kernel_rfl)
        have e115 : b.tmps[115]?.getD undef = .slice (some ⟨gw, 0, none⟩) 5 cw := (hf.new 8 115 rfl h8 (by simp)).trans (hI.rd 8 (by decide) h8)
        refine wp_of_run (v := .pointer (some ⟨gw, 4, none⟩)) (w' := X) (by unfold execOp; go_simp) ?_
        exact ⟨hI.bel, rd_step hI.rd (fun _ => rfl), ok_step hI.ok (fun _ => trivial), hI.al⟩
      · have h9 : L 9 = true := done_of hw 9 (by kernel_rfl)
        have e116 : b.tmps[116]?.getD undef = .pointer (some ⟨gw, 4, none⟩) := (hf.new 9 116 rfl h9 (by simp)).trans (hI.rd 9 (by decide) h9)
        have a_X4 := (hI.bel.cell (cell_lt X4.out)).trans X4.out
        refine wp_of_run (v := .string (wd ws 4)) (w' := X) (by unfold execOp; go_simp) ?_
        exact ⟨hI.bel, rd_step hI.rd (fun _ => rfl), ok_step hI.ok (fun _ => trivial), hI.al⟩
      · have h10 : L 10 = true := done_of hw 10 (by kernel_rfl)
        have e117 : b.tmps[117]?.getD undef = .string (wd ws 4) := (hf.new 10 117 rfl h10 (by simp)).trans (hI.rd 10 (by decide) h10)
        refine wp_of_call2 (f := 112) (args := #[.string (wd ws 4)]) (run_call_clo (.func 112) _ _ rfl (c := #[]) rfl enter112 (by simp [eval_tmp e117])) ?_
        refine (HN4.out X hI.bel).mono ?_
        rintro e wz ⟨(⟨hv, rfl⟩ | ⟨hn, rfl⟩), hbz⟩
        · exact .inl ⟨_, rfl, hI.bel.trans (hbz.mono hI.bel.size), rd_step hI.rd (fun _ => rfl), ok_step hI.ok (fun _ => hv), hI.al_next hbz⟩
        · refine .inr ⟨_, rfl, ?_⟩
          have d7 : L 7 = true := done_of hw 7 (by kernel_rfl)
          have k7 := hI.ok 7 (by decide) d7
          replace k7 : numF (wd ws 3) = some r3 := k7
          have d3 : L 3 = true := hcl 7 _ rfl d7 3 (by decide)
          have k3 := hI.ok 3 (by decide) d3
          replace k3 : pointF s.pts ws 2 = some r2 := k3
          have d1 : L 1 = true := hcl 3 _ rfl d3 1 (by decide)
          have k1 := hI.ok 1 (by decide) d1
          replace k1 : pointF s.pts ws 1 = some r1 := k1
          simp only [Exit.inBlock, Exit.then]
          exact ⟨hf.dfr, .inr ⟨by rw [HTk.out, k1, k3, k7, hn]; rfl, rfl, HFin.out wz (hI.bel.trans (hbz.mono hI.bel.size))⟩⟩
      · have h7 : L 7 = true := done_of hw 7 (by kernel_rfl)
        have e114 : b.tmps[114]?.getD undef = .int .i64 r3 := (hf.new 7 114 rfl h7 (by simp)).trans (hI.rd 7 (by decide) h7)
        have h11 : L 11 = true := done_of hw 11 (by kernel_rfl)
        have e118 : b.tmps[118]?.getD undef = .int .i64 r4 := (hf.new 11 118 rfl h11 (by simp)).trans (hI.rd 11 (by decide) h11)
        refine wp_of_run (v := .agg #[.int .i64 r3, .int .i64 r4]) (w' := X) (by unfold execOp; go_simp) ?_
        exact ⟨hI.bel, rd_step hI.rd (fun _ => rfl), ok_step hI.ok (fun _ => trivial), hI.al⟩
      · have h1 : L 1 = true := done_of hw 1 (by kernel_rfl)
        have e108 : b.tmps[108]?.getD undef = .int .i64 r1 := (hf.new 1 108 rfl h1 (by simp)).trans (hI.rd 1 (by decide) h1)
        have h3 : L 3 = true := done_of hw 3 (by kernel_rfl)
        have e110 : b.tmps[110]?.getD undef = .int .i64 r2 := (hf.new 3 110 rfl h3 (by simp)).trans (hI.rd 3 (by decide) h3)
        have h12 : L 12 = true := done_of hw 12 (by kernel_rfl)
        have e119 : b.tmps[119]?.getD undef = .agg #[.int .i64 r3, .int .i64 r4] := (hf.new 12 119 rfl h12 (by simp)).trans (hI.rd 12 (by decide) h12)
        refine wp_of_run (v := .agg #[.int .i64 4, .int .i64 r1, .int .i64 r2, .int .i64 r3, .int .i64 r4]) (w' := X) (by unfold execOp; go_simp) ?_
        exact ⟨hI.bel, rd_step hI.rd (fun _ => rfl), ok_step hI.ok (fun _ => trivial), hI.al⟩
      · have n1 : L 15 = false := not_yet hcl 15 hL rfl (by kernel_rfl)
        refine wp_of_run (v := .pointer (some ⟨X.heap.size, 0, none⟩)) (w' := X.alloc (.cells #[.int .i64 0, .int .i64 0, .int .i64 0, .int .i64 0, .int .i64 0] 69)) (by unfold execOp; go_simp) ?_
        exact ⟨hI.bel.alloc hI.bel.size _, rd_step hI.rd (fun h => absurd h (Nat.lt_irrefl _)), ok_step hI.ok (fun h => absurd h (Nat.lt_irrefl _)), fun _ => ⟨X.heap.size, hI.bel.size, rfl, by rw [show updB L 14 15 = false from n1]; exact heap_alloc_new _ _⟩⟩
      · have h14 : L 14 = true := done_of hw 14 (by kernel_rfl)
        obtain ⟨g, hg, hv, hx⟩ := hI.al h14
        rw [hL] at hx
        replace hx : X.heap[g]? = some (.cells #[.int .i64 0, .int .i64 0, .int .i64 0, .int .i64 0, .int .i64 0] 69) := hx
        have e8 := (hf.new 14 8 rfl h14 (by simp)).trans hv
        have h13 : L 13 = true := done_of hw 13 (by kernel_rfl)
        have e120 : b.tmps[120]?.getD undef = .agg #[.int .i64 4, .int .i64 r1, .int .i64 r2, .int .i64 r3, .int .i64 r4] := (hf.new 13 120 rfl h13 (by simp)).trans (hI.rd 13 (by decide) h13)
        refine wp_store_row 69 (.tmp 8) (.tmp 120) rfl g #[.int .i64 4, .int .i64 r1, .int .i64 r2, .int .i64 r3, .int .i64 r4] (eval_tmp e8) (eval_tmp e120) 69 _ hx (by kernel_rfl) rfl (by simp [Value.oneCell']) ⟨_, rfl, ?_⟩
        refine ⟨hI.bel.trans (setRow_below _ hg), rd_step hI.rd (fun h => absurd h (by decide)), ok_step hI.ok (fun h => absurd h (by decide)), fun _ => ⟨g, hg, hv, ?_⟩⟩
        rw [show updB L 15 15 = true from rfl]
        exact setRow_heap _ _ _ _ _ _ hx
    · intro vs X hI
      obtain ⟨g, hg, hv, hxg⟩ := hI.al rfl
      have k1 : pointF s.pts ws 1 = some r1 := hI.ok 1 (by decide) rfl
      have k3 : pointF s.pts ws 2 = some r2 := hI.ok 3 (by decide) rfl
      have k7 : numF (wd ws 3) = some r3 := hI.ok 7 (by decide) rfl
      have k11 : numF (wd ws 4) = some r4 := hI.ok 11 (by decide) rfl
      replace hxg : X.heap[g]? = some (.cells #[.int .i64 4, .int .i64 r1, .int .i64 r2, .int .i64 r3, .int .i64 r4] 69) := hxg
      have hbX := hI.bel
      have HOk := Lib.hid (show takeF s ws = some (addN s ⟨4, r1, r2, r3, r4⟩) by rw [HTk.out, k1, k3, k7, k11]; rfl)
      generalize vs 0 = u0
      generalize vs 1 = u1
      generalize vs 2 = u2
      generalize vs 3 = u3
      generalize vs 4 = u4
      generalize vs 5 = u5
      generalize vs 6 = u6
      generalize vs 7 = u7
      generalize vs 8 = u8
      generalize vs 9 = u9
      generalize vs 10 = u10
      generalize vs 11 = u11
      generalize vs 12 = u12
      generalize vs 13 = u13
      clear k1 k3 k7 k11 hI
      simp [fill, slotOf, Act.put, hv]
      simp only [Exit.inBlock, Exit.then]
      have x0 := (hbX.cell (cell_lt X0.out)).trans X0.out
      have p0 := (hbX.cell (cell_lt P0.out)).trans P0.out
      have p1 := (hbX.cell (cell_lt P1.out)).trans P1.out
      have HX := Lib.hid hbX
      have HG := Lib.hid hxg
      have HGe := Lib.hid hg
      have cg := cellOf hxg 0 (v := .int .i64 4) rfl
      clear hbX hxg hg hv
      go_upto_region 24 with (fail)
      have hbX := HX.out
      have hxg := HG.out
      have hg := HGe.out
      obtain ⟨A, c, w0, w1, w', hw0, hbs, hap, hkey, hrow, hend⟩ := HEnd.out HOk.out X hbX
      have hgs : w.heap.size ≤ g := Nat.le_trans HT.out.below.size hg
      have C0 := hkey ⟨w.heap.size, 0, none⟩ (.pointer (some ⟨H, 0, none⟩)) p0 (.inl (Nat.le_refl _))
      have C2 := hkey ⟨H, 2, none⟩ vn (cellOf ((hbX.block _ (lt_of_block HR2.out)).trans HR2.out) 2 rfl) (.inr rfl)
      have D0 := hkey ⟨g, 0, none⟩ _ (cellOf hxg 0 rfl) (.inl hgs)
      have D1 := hkey ⟨g, 1, none⟩ _ (cellOf hxg 1 rfl) (.inl hgs)
      have D2 := hkey ⟨g, 2, none⟩ _ (cellOf hxg 2 rfl) (.inl hgs)
      have D3 := hkey ⟨g, 3, none⟩ _ (cellOf hxg 3 rfl) (.inl hgs)
      have D4 := hkey ⟨g, 4, none⟩ _ (cellOf hxg 4 rfl) (.inl hgs)
      have q2 := cellOf hrow 2 (v := vn) rfl
      have f2 : w'.frozen? ⟨H, 2, none⟩ = false := by simp [World.frozen?, hrow]
      have HBs := Lib.hid hbs
      have HAp := Lib.hid hap
      have HE := Lib.hid hend
      clear hbs hap hend hkey hrow x0 p0 p1 hbX hxg hg hgs
      refine region_make2 (w1 := w1) (w2 := w') 6 hw0 (by kernel_rfl) (by kernel_rfl) (by kernel_rfl) (by kernel_rfl) ?_
      simp only [List.take_succ_cons, List.take_zero, List.drop_succ_cons, List.drop_zero]
      repeat (first | go_big_quiet_step (fail) | quiet_step (fail))
      refine wpQuiet_nil ?_
      refine mk_bs _ rfl rfl 23 1 _ rfl (vs := #[(0, noteV ⟨4, r1, r2, r3, r4⟩)]) rfl HBs.out ?_
      simp only [Act.put, List.setIfInBounds_toArray, List.set_cons_succ, List.set_cons_zero]
      refine mk_append _ rfl rfl _ _ 23 rfl rfl rfl HAp.out ?_
      simp only [Act.put, List.setIfInBounds_toArray, List.set_cons_succ, List.set_cons_zero]
      clear C0 C2 D0 D1 D2 D3 D4 hw0
      go_wp2
      go_end0
      exact HE.out
  · have HTk := Lib.hid (show takeF s ws = none by unfold takeF; rw [if_neg hn1, if_neg hn2, if_neg hn3, if_neg (fun e => e.elim hn4 hn5), if_pos hk, if_neg hl])
    have hne : ((ws.length : Int) == 5) = false := by simp; omega
    have hpos : 0 < ws.length := by have := h.one; omega
    have HE := Lib.hid (show TakeQ base H vp vn s ws w (.panicked chE) W2 from .inr ⟨HTk.out, rfl, HFin.out W2 (Below.refl _ _)⟩)
    clear hT h hk hl hn1 hn2 hn3 hn4 hn5
    go_enter Tryz.func82, Tryz.ntmps82
    go_upto_region 1 with (fail)
    rw [← hW2]
    clear hW2
    go_wp2_with (first | (refine wpList_mkfn2 rfl _ _ rfl (cs := #[.pointer (some ⟨w.heap.size + 1, 0, none⟩), .pointer (some ⟨w.heap.size, 0, none⟩)]) rfl ?_; simp only [Act.put, List.setIfInBounds_toArray, List.set_cons_succ, List.set_cons_zero]) | (go_at_call 85; refine (must_false _).mono ?_; rintro e wm ⟨rfl, hw⟩; subst wm; exact ⟨rfl, HE.out⟩))
end Go.Proofs.YtajdgdelhlfniaaGreatDoor
namespace Go.Proofs.YtajdgdelhlfniaaGreatDoor
open Go.RowKit

theorem ne_list {x : ByteArray} {l : List UInt8} (h : ¬ x = ⟨l.toArray⟩) : (x.toList == l) = false := by
  rw [ByteArray.toList_eq]
  refine beq_false_of_ne fun e => h ?_
  obtain ⟨⟨d⟩⟩ := x
  simp at e
  rw [e]

set_option maxRecDepth 100000 in
set_option maxHeartbeats 1000000 in
theorem take_none_any {w : World} {base H gw cw : Nat} {vp vn : Value} {s : ShR} {ws : List ByteArray} (h : TakeIn base H gw cw vp vn s ws w) (h1 : ¬ wd ws 0 = wSheet) (h2 : ¬ wd ws 0 = wPoint) (h3 : ¬ wd ws 0 = wLake) (h4 : ¬ wd ws 0 = wSpot) (h5 : ¬ wd ws 0 = wContour) (h6 : ¬ wd ws 0 = wSlope) :
    Calls Tryz.prog 82 #[.pointer (some ⟨H, 0, none⟩), .slice (some ⟨gw, 0, none⟩) ws.length cw] w fun e w' => TakeQ base H vp vn s ws w e w' := by
  obtain ⟨W2, hW2, hT⟩ := takeW_made w H gw cw ws.length
  have x0 := wd_at h.wd (i := 0) (by have := h.one; omega)
  have x0 := (hT.below.cell (cell_lt x0)).trans x0
  have p0 := cellOf hT.b0 0 rfl
  have p1 := cellOf hT.b1 0 rfl
  have HT := Lib.hid hT
  have HS := Lib.hid h
  have HFin := Lib.hid (fin_of h hT)
  have HTk := Lib.hid (show takeF s ws = none by unfold takeF; rw [if_neg h1, if_neg h2, if_neg h3, if_neg (fun e => e.elim h4 h5), if_neg h6])
  have hpos : 0 < ws.length := by have := h.one; omega
  have HE := Lib.hid (show TakeQ base H vp vn s ws w (.panicked chE) W2 from .inr ⟨HTk.out, rfl, HFin.out W2 (Below.refl _ _)⟩)
  unfold wSheet at h1
  unfold wPoint at h2
  unfold wLake at h3
  unfold wSpot at h4
  unfold wContour at h5
  unfold wSlope at h6
  clear hT h HTk HFin
  generalize wd ws 0 = x at *
  have b1 := ne_list h1
  have b2 := ne_list h2
  have b3 := ne_list h3
  have b4 := ne_list h4
  have b5 := ne_list h5
  have b6 := ne_list h6
  go_enter Tryz.func82, Tryz.ntmps82
  go_upto_region 1 with (fail)
  rw [← hW2]
  clear hW2
  go_wp2_with (first | (refine wpList_mkfn2 rfl _ _ rfl (cs := #[.pointer (some ⟨w.heap.size + 1, 0, none⟩), .pointer (some ⟨w.heap.size, 0, none⟩)]) rfl ?_; simp only [Act.put, List.setIfInBounds_toArray, List.set_cons_succ, List.set_cons_zero]) | (go_at_call 85; refine (must_false _).mono ?_; rintro e wm ⟨rfl, hw⟩; subst wm; exact ⟨rfl, HE.out⟩))
theorem take_any {w : World} {base H gw cw : Nat} {vp vn : Value} {s : ShR} {ws : List ByteArray} (h : TakeIn base H gw cw vp vn s ws w) :
    Calls Tryz.prog 82 #[.pointer (some ⟨H, 0, none⟩), .slice (some ⟨gw, 0, none⟩) ws.length cw] w fun e w' => TakeQ base H vp vn s ws w e w' := by
  by_cases h1 : wd ws 0 = wSheet
  · exact take_sheet_any h h1
  by_cases h2 : wd ws 0 = wPoint
  · exact take_point_any h h2
  by_cases h3 : wd ws 0 = wLake
  · exact take_lake_any h h3
  by_cases h4 : wd ws 0 = wSpot
  · exact take_spot_any h h4
  by_cases h5 : wd ws 0 = wContour
  · exact take_contour_any h h5
  by_cases h6 : wd ws 0 = wSlope
  · exact take_slope_any h h6
  exact take_none_any h h1 h2 h3 h4 h5 h6
end Go.Proofs.YtajdgdelhlfniaaGreatDoor
namespace Go.Proofs.YtajdgdelhlfniaaGreatDoor
open Go.RowKit Go.Shelf
attribute [local go_sem] Oper.semAt_some

def nlOf (s : ByteArray) : Int := Lib.indexByte s.data.toList 10
/-- the first line, and what is behind it -/
def lineOf (s : ByteArray) : ByteArray := if 0 ≤ nlOf s then s.extract 0 ((nlOf s).toNat + 1) else s
def nextOf (s : ByteArray) : ByteArray := if 0 ≤ nlOf s then s.extract ((nlOf s).toNat + 1) s.size else ByteArray.empty
def restOf : Nat → ByteArray → ByteArray
  | 0, s => s
  | k + 1, s => restOf k (nextOf s)
def linesN : Nat → ByteArray → List ByteArray
  | 0, _ => []
  | f + 1, s => if s.size = 0 then [] else lineOf s :: linesN f (nextOf s)
def linesOf (t : ByteArray) : List ByteArray := linesN t.size t
theorem nlOf_lt {s : ByteArray} (h : 0 ≤ nlOf s) : ∃ n : Nat, nlOf s = n ∧ n < s.size := by
  obtain ⟨n, hn⟩ := Int.eq_ofNat_of_zero_le h
  refine ⟨n, hn, ?_⟩
  have h1 := (Lib.indexByte_some hn).1
  have h2 := (List.getElem?_eq_some_iff.1 h1).1
  simpa using h2
theorem nextOf_size {s : ByteArray} (h : 0 < s.size) : (nextOf s).size < s.size := by
  unfold nextOf
  split
  · rename_i h0
    obtain ⟨n, hn, hlt⟩ := nlOf_lt h0
    rw [ByteArray.size_extract, hn]
    omega
  · simpa using h
theorem restOf_succ (k : Nat) (s : ByteArray) : restOf (k + 1) s = nextOf (restOf k s) := by
  induction k generalizing s with
  | zero => rfl
  | succ k ih => rw [restOf, ih, restOf]
theorem linesN_spec (f : Nat) (s : ByteArray) (h : s.size ≤ f) : (∀ k, k < (linesN f s).length → 0 < (restOf k s).size ∧ (linesN f s)[k]? = some (lineOf (restOf k s))) ∧ (restOf (linesN f s).length s).size = 0 := by
  induction f generalizing s with
  | zero => exact ⟨fun k hk => by simp [linesN] at hk, by simpa [linesN, restOf] using h⟩
  | succ f ih =>
    unfold linesN
    by_cases h0 : s.size = 0
    · rw [if_pos h0]
      exact ⟨fun k hk => by simp at hk, h0⟩
    · rw [if_neg h0]
      obtain ⟨h1, h2⟩ := ih (nextOf s) (by have := nextOf_size (s := s) (by omega); omega)
      refine ⟨fun k hk => ?_, h2⟩
      cases k with
      | zero => exact ⟨by show 0 < s.size; omega, rfl⟩
      | succ k => exact h1 k (by simpa using hk)
theorem restOf_small {k : Nat} {s : ByteArray} {n : Nat} (h : s.size ≤ n) : (restOf k s).size ≤ n := by
  induction k generalizing s with
  | zero => exact h
  | succ k ih =>
    refine ih ?_
    unfold nextOf
    split
    · rw [ByteArray.size_extract]; omega
    · simp
theorem lineOf_small {s : ByteArray} : (lineOf s).size ≤ s.size := by
  unfold lineOf
  split
  · rw [ByteArray.size_extract]; omega
  · exact Nat.le_refl _
theorem linesOf_small {t x : ByteArray} (h : x ∈ linesOf t) : x.size ≤ t.size := by
  obtain ⟨k, hk, rfl⟩ := List.getElem_of_mem h
  obtain ⟨h1, _⟩ := linesN_spec t.size t (Nat.le_refl _)
  have := (h1 k hk).2
  unfold linesOf at hk ⊢
  rw [List.getElem?_eq_getElem hk, Option.some.injEq] at this
  rw [this]
  exact Nat.le_trans lineOf_small (restOf_small (Nat.le_refl _))
theorem linesN_len (f : Nat) (s : ByteArray) : (linesN f s).length ≤ f := by
  induction f generalizing s with
  | zero => simp [linesN]
  | succ f ih =>
    unfold linesN
    split
    · simp
    · have := ih (nextOf s)
      simp
      omega

/-- what the iterator does between two rounds: its box alone -/
structure LnS (bx : Nat) (w w' : World) : Prop where
  os : w'.os = w.os
  tape : w'.tape = w.tape
  output : w'.output = w.output
  size : w.heap.size ≤ w'.heap.size
  block : ∀ k, k < w.heap.size → k ≠ bx → w'.heap[k]? = w.heap[k]?
  m0 : ∃ s f, w.heap[bx]? = some (.cells #[.string s] 9 f)
/-- what it asks of a round -/
def LnK (bx : Nat) (w w' : World) : Prop := ∀ cs f, w.heap[bx]? = some (.cells cs 9 f) → w'.heap[bx]? = some (.cells cs 9 f)
theorem LnS.set_ {bx : Nat} {w w1 : World} {s : ByteArray} (hb : Below w.heap.size w w1) (h : w.heap[bx]? = some (.cells #[.string s] 9)) (v : Value) : LnS bx w (w1.setCell ⟨bx, 0, none⟩ v) :=
  ⟨hb.os, hb.tape, hb.output, by rw [World.size_setCell]; exact hb.size, fun k hk hne => (Below.heap_setCell _ _ _ _ hne).trans (hb.block k hk), s, _, h⟩
theorem box_set {bx : Nat} {w w1 : World} {s : ByteArray} (hb : Below w.heap.size w w1) (h : w.heap[bx]? = some (.cells #[.string s] 9)) (s' : ByteArray) : (w1.setCell ⟨bx, 0, none⟩ (.string s')).heap[bx]? = some (.cells #[.string s'] 9) :=
  (row3 ((hb.block _ (lt_of_block h)).trans h) 0 _).trans (by simp)
def sizeAt (bx : Nat) (w : World) : Nat := match w.cell? ⟨bx, 0, none⟩ with | some (.string s) => s.size | _ => 0
theorem sizeAt_eq {bx : Nat} {w : World} {s : ByteArray} (h : w.heap[bx]? = some (.cells #[.string s] 9)) : sizeAt bx w = s.size := by
  unfold sizeAt
  rw [cellOf h 0 (v := .string s) rfl]

set_option maxHeartbeats 1000000 in
theorem lines_iter (t : ByteArray) (ht : t.size ≤ 1000000) (bx : Nat) : ∀ (l : Nat) (Y : Nat → World → Prop) (ZP : List PanicEntry → World → Prop) (W : World),
    (∀ k A B, Y k A → LnS bx A B → Y k B) →
    (∀ k A, k < (linesOf t).length → Y k A → YieldAt Fence.wide 0 Tryz.prog l #[.string ((linesOf t)[k]?.getD ByteArray.empty)] A fun e B => (e = .returned (.bool true) ∧ Y (k + 1) B ∧ LnK bx A B) ∨ (∃ c, e = .panicked c ∧ ZP c B)) →
    Y 0 W → W.heap[bx]? = some (.cells #[.string t] 9) → CallsIn Fence.wide 0 Tryz.prog 108 (#[.func (.yield l) #[] #[]] ++ #[.pointer (some ⟨bx, 0, none⟩)]) W fun e B => (∃ v, e = .returned v ∧ Y (linesOf t).length B) ∨ (∃ c, e = .panicked c ∧ ZP c B) := by
  intro L Y ZP W hS hR h0 hbx
  refine callsIn_wide.2 ?_
  show Calls Tryz.prog 108 #[.func (.yield L) #[] #[], .pointer (some ⟨bx, 0, none⟩)] W _
  obtain ⟨hsp, hend⟩ := linesN_spec t.size t (Nat.le_refl _)
  rw [show linesN t.size t = linesOf t from rfl] at hsp hend
  have HSp := Lib.hid hsp
  have HEn := Lib.hid hend
  have HS := Lib.hid hS
  have HR := Lib.hid hR
  have H0 := Lib.hid h0
  have HB := Lib.hid hbx
  clear hsp hend hS hR h0 hbx
  go_enter Tryz.func108, Tryz.ntmps108
  go_wp2
  go_loopw [4] (fun _ wr => ∃ k : Nat, k ≤ (linesOf t).length ∧ Y k wr ∧ wr.heap[bx]? = some (.cells #[.string (restOf k t)] 9)) (fun _ wr => sizeAt bx wr)
  case atStart => exact ⟨0, Nat.zero_le _, H0.out, HB.out⟩
  case round =>
    clear H0 HB
    obtain ⟨k, hk, hY, hB⟩ := hrel
    have hsz := restOf_small (k := k) ht
    have hsa := sizeAt_eq hB
    have hfr : wr.frozen? ⟨bx, 0, none⟩ = false := by simp [World.frozen?, hB]
    have hc := cellOf hB 0 (v := .string (restOf k t)) rfl
    by_cases hlt : k < (linesOf t).length
    · obtain ⟨hpos, hline⟩ := HSp.out k hlt
      have hnx := restOf_succ k t
      have hdn := nextOf_size hpos
      have HIB := Lib.hid (Tryz.strings_IndexByte (restOf k t) 10 wr)
      rw [show Lib.indexByte (restOf k t).data.toList (10 : Int).toNat.toUInt8 = nlOf (restOf k t) from rfl] at HIB
      have HRd := Lib.hid (fun A => HR.out k A hlt)
      have hel : (linesOf t)[k]?.getD ByteArray.empty = lineOf (restOf k t) := by rw [hline]; rfl
      rw [hel] at HRd
      have HY := Lib.hid hY
      have HB := Lib.hid hB
      have HNx := Lib.hid hnx
      have HDn := Lib.hid hdn
      have HSa := Lib.hid hsa
      have Hpos := Lib.hid hpos
      clear hline hel hY hB hnx hdn hsa
      have hposb : decide (0 < (restOf k t).size) = true := decide_eq_true hpos
      generalize hr : restOf k t = r at *
      have hlen : ((r.size : Int) > 0) := by omega
      by_cases hn : 0 ≤ nlOf r
      · obtain ⟨n, hne, hnlt⟩ := nlOf_lt hn
        have HLo := Lib.hid (show lineOf r = r.extract 0 (n + 1) by unfold lineOf; rw [if_pos hn, hne]; rfl)
        have HNo := Lib.hid (show nextOf r = r.extract (n + 1) r.size by unfold nextOf; rw [if_pos hn, hne]; rfl)
        rw [hne] at HIB
        have hwn : IntKind.i64.wrap ((n : Int) + 1) = ((n + 1 : Nat) : Int) := IntWalk.i64_in _ (by omega)
        have hw0 : IntKind.i64.wrap (n : Int) = n := IntWalk.i64_in _ (by omega)
        have hn1 : n + 1 ≤ r.size := hnlt
        clear hn hne hr hnlt
        go_upto_region 4 with (go_at_call 109; refine HIB.out.mono ?_; rintro e w3 ⟨rfl, hw3⟩; subst w3)
        have C1 := Aft.cell hc
        refine region_quiet_tail (C := fun w' => ∃ x : Aft wr, w' = x.1) 9 (by kernel_rfl) (by kernel_rfl) ⟨⟨wr.drew, (Below.refl _ _).drew⟩, rfl⟩ ?_
        simp only [List.take_succ_cons, List.take_zero, List.drop_succ_cons, List.drop_zero]
        repeat (first | go_big_quiet_step (fail) | quiet_step (fail))
        refine wpQuiet_nil ?_
        rintro wx ⟨⟨_, hbx⟩, rfl⟩
        have kx := (hbx.block _ (lt_of_block HB.out)).trans HB.out
        have cx := cellOf kx 0 (v := .string r) rfl
        have fx : wx.frozen? ⟨bx, 0, none⟩ = false := by simp [World.frozen?, kx]
        have HKx := Lib.hid kx
        have HBx := Lib.hid hbx
        clear C1 hc hfr hbx kx
        go_upto_region 6 with (fail)
        obtain ⟨wq, hwq⟩ : ∃ wq, wq = wx.setCell ⟨bx, 0, none⟩ (.string (r.extract (n + 1) r.size)) := ⟨_, rfl⟩
        rw [← hwq]
        have HQ := Lib.hid (show wq.heap[bx]? = some (.cells #[.string (restOf (k + 1) t)] 9) by rw [HNx.out, HNo.out, hwq]; exact box_set HBx.out HB.out _)
        have HYq := Lib.hid (HS.out k wr wq HY.out (by rw [hwq]; exact LnS.set_ HBx.out HB.out _))
        rw [HLo.out] at HRd
        have HYl := Lib.hid (HRd.out _ HYq.out)
        clear hwq cx fx HKx HBx
        obtain ⟨fn, tmps, assign, body, hy, hRR⟩ := HYl.out
        have HRR := Lib.hid hRR
        clear hRR
        refine (wpIn_wide (n := 0)).1 ?_
        gi_wp2
        refine ⟨rfl, HRR.out.mono ?_⟩
        rintro e W' (⟨rfl, hY', hK⟩ | ⟨c, rfl, hZ⟩)
        · gi_wp2
          go_wp2
          go_roundw
          case rel => exact ⟨k + 1, by omega, hY', hK _ _ HQ.out⟩
          case measure => rw [sizeAt_eq (hK _ _ HQ.out), HSa.out, HNx.out]; exact HDn.out
        · exact ⟨rfl, .inr ⟨c, rfl, hZ⟩⟩
      · have HLo := Lib.hid (show lineOf r = r by unfold lineOf; rw [if_neg hn])
        have HNo := Lib.hid (show nextOf r = ⟨#[]⟩ by unfold nextOf; rw [if_neg hn]; rfl)
        have hnb : decide (nlOf r ≥ 0) = false := decide_eq_false hn
        have hnb2 : decide (0 ≤ nlOf r) = false := decide_eq_false hn
        generalize nlOf r = m at *
        clear hr
        go_upto_region 6 with (go_at_call 109; refine HIB.out.mono ?_; rintro e w3 ⟨rfl, hw3⟩; subst w3)
        obtain ⟨wq, hwq⟩ : ∃ wq, wq = wr.setCell ⟨bx, 0, none⟩ (.string ⟨#[]⟩) := ⟨_, rfl⟩
        rw [← hwq]
        have HQ := Lib.hid (show wq.heap[bx]? = some (.cells #[.string (restOf (k + 1) t)] 9) by rw [HNx.out, HNo.out, hwq]; exact box_set (Below.refl _ _) HB.out _)
        have HYq := Lib.hid (HS.out k wr wq HY.out (by rw [hwq]; exact LnS.set_ (Below.refl _ _) HB.out _))
        rw [HLo.out] at HRd
        have HYl := Lib.hid (HRd.out _ HYq.out)
        clear hwq hc hfr
        obtain ⟨fn, tmps, assign, body, hy, hRR⟩ := HYl.out
        have HRR := Lib.hid hRR
        clear hRR
        refine (wpIn_wide (n := 0)).1 ?_
        gi_wp2
        refine ⟨rfl, HRR.out.mono ?_⟩
        rintro e W' (⟨rfl, hY', hK⟩ | ⟨c, rfl, hZ⟩)
        · gi_wp2
          go_wp2
          go_roundw
          case rel => exact ⟨k + 1, by omega, hY', hK _ _ HQ.out⟩
          case measure => rw [sizeAt_eq (hK _ _ HQ.out), HSa.out, HNx.out]; exact HDn.out
        · exact ⟨rfl, .inr ⟨c, rfl, hZ⟩⟩
    · obtain rfl : k = (linesOf t).length := by omega
      have he := HEn.out
      have heb : decide (0 < (restOf (linesOf t).length t).size) = false := decide_eq_false (by omega)
      have HY := Lib.hid hY
      clear hY hB hsa hsz hlt hk
      generalize restOf (linesOf t).length t = r at *
      go_wp2
      go_end0
      exact .inl ⟨_, rfl, HY.out⟩
/-- strings.Lines -/
theorem lines_any (t : ByteArray) (w : World) :
    Calls Tryz.prog 81 #[.string t] w fun e w' => e = .returned (.func (.func 108) #[] #[.pointer (some ⟨w.heap.size, 0, none⟩)]) ∧ w' = w.alloc (.cells #[.string t] 9) := by
  go_enter Tryz.func81, Tryz.ntmps81
  go_wp2
  go_ret
  exact ⟨rfl, rfl⟩
end Go.Proofs.YtajdgdelhlfniaaGreatDoor
