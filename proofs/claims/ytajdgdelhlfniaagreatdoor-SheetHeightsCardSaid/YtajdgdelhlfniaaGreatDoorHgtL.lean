/- The law SheetHeights: its walk. -/
import Derived.Test.YtajdgdelhlfniaaGreatDoorGRh
import Derived.Test.YtajdgdelhlfniaaGreatDoorGAw
set_option linter.unusedSimpArgs false
set_option linter.unusedVariables false
namespace Go.Proofs.YtajdgdelhlfniaaGreatDoor
open Go.RowKit

set_option maxRecDepth 100000 in
set_option maxHeartbeats 4000000 in
theorem hgt_any {B : Nat} {w : World} {v : Value} {s : ShR} (p q : Int) (hs : RdSh B w v s) (hn : Named s) (hB : B ≤ w.heap.size) (hgl : Glob w) :
    Calls Tryz.prog 4 #[v, .agg #[.int .i64 p, .int .i64 q]] w fun e w' => e = .returned (.bool true) ∧ Below w.heap.size w w' := by
  have HSR := Lib.hid (fun (X : World) (hb : Below w.heap.size w X) => hs.below (hb.mono hB))
  have HA := Lib.hid (fun (X : World) (hb : Below w.heap.size w X) => awake_any (w := X) (hgl.below hb))
  have HN := Lib.hid hn
  obtain ⟨vp, vn, rfl, hpp, hnn⟩ := hs
  obtain ⟨Ap, cp, rfl, _⟩ := id hpp
  obtain ⟨An, cn, rfl, _⟩ := id hnn
  obtain ⟨W1, hW1, r1, z1, b1⟩ := box_any w #[.int .i64 s.iv, .slice Ap s.pts.length cp, .slice An s.notes.length cn] 25
  obtain ⟨W2, hW2, r2, z2, b2⟩ := box_any W1 #[.int .i64 p, .int .i64 q] 32
  have b12 := b1.trans (b2.mono b1.size)
  have q1 := (b2.block _ (by omega)).trans r1
  rw [z1] at r2
  have HBY := Lib.hid b12
  have HC : Hid (∀ Z : World, Below W2.heap.size W2 Z → Z.cell? ⟨w.heap.size, 0, none⟩ = some (.int .i64 s.iv) ∧ Z.cell? ⟨w.heap.size, 1, none⟩ = some (.slice Ap s.pts.length cp) ∧ Z.cell? ⟨w.heap.size, 2, none⟩ = some (.slice An s.notes.length cn) ∧
      Z.cell? ⟨w.heap.size + 1, 0, none⟩ = some (.int .i64 p) ∧ Z.cell? ⟨w.heap.size + 1, 1, none⟩ = some (.int .i64 q) ∧ Below w.heap.size w Z) :=
    Lib.hid fun Z h => by
      have j1 := (h.block _ (lt_of_block q1)).trans q1
      have j2 := (h.block _ (lt_of_block r2)).trans r2
      exact ⟨cellOf j1 0 rfl, cellOf j1 1 rfl, cellOf j1 2 rfl, cellOf j2 0 rfl, cellOf j2 1 rfl, HBY.out.trans (h.mono HBY.out.size)⟩
  clear r1 r2 z1 z2 b1 b2 b12 q1 hn hgl hpp hnn
  have HF1 := Lib.hid (fun (Z : World) (h : Below w.heap.size w Z) => fits_any (HSR.out Z h) HN.out (Nat.le_trans hB h.size))
  have HF2 := Lib.hid (fun (Z : World) (h : Below w.heap.size w Z) => rfits_any (HSR.out Z h) HN.out (Nat.le_trans hB h.size))
  have H1 := Lib.hid (show ∀ (Z : World) (_ : Below w.heap.size w Z), Calls Tryz.prog 23 #[.agg #[.int .i64 s.iv, .slice Ap s.pts.length cp, .slice An s.notes.length cn]] Z fun e w' => ∃ A c, e = .returned (.tuple #[.slice A (heightsF s).length c, .int .i64 (openE s)]) ∧ Rd SpanAt 2 w'.heap.size w' (.slice A (heightsF s).length c) (heightsF s) ∧ Below Z.heap.size Z w' from fun Z h => (heights_any (HSR.out Z h) HN.out (Nat.le_trans hB h.size)).mono fun e w' ⟨A, c, e1, ho, hb⟩ => ⟨A, c, e1, ho.rd, hb⟩)
  have H2 := Lib.hid (fun (Z : World) (h : Below w.heap.size w Z) => rheights_any (HSR.out Z h) HN.out (Nat.le_trans hB h.size))
  have P1 := Lib.hid (fun (Z : World) (h : Below w.heap.size w Z) => apart_any p q (HSR.out Z h) HN.out (Nat.le_trans hB h.size))
  have P2 := Lib.hid (fun (Z : World) (h : Below w.heap.size w Z) => rapart_any p q (HSR.out Z h) HN.out (Nat.le_trans hB h.size))
  have J1 := Lib.hid (show ∀ (Z : World) (_ : Below w.heap.size w Z), Calls Tryz.prog 28 #[.agg #[.int .i64 s.iv, .slice Ap s.pts.length cp, .slice An s.notes.length cn]] Z fun e w' => ∃ A c, e = .returned (.tuple #[.slice A (highestF s).length c, .int .i64 (openE s)]) ∧ Rd IntAt 1 w'.heap.size w' (.slice A (highestF s).length c) (highestF s) ∧ Below Z.heap.size Z w' from fun Z h => (highest_any (HSR.out Z h) HN.out (Nat.le_trans hB h.size)).mono fun e w' ⟨A, c, e1, ho, hb⟩ => ⟨A, c, e1, ho.rd, hb⟩)
  have J2 := Lib.hid (fun (Z : World) (h : Below w.heap.size w Z) => rhighest_any (HSR.out Z h) HN.out (Nat.le_trans hB h.size))
  have hll : (heightsF s).length ≤ 1000000 := by
    unfold heightsF
    split
    · simp
    · rename_i he
      rw [spansL_len]
      have := (good_of_open (Classical.byContradiction he)).plen
      omega
  have hll2 : (highestF s).length ≤ 1000000 := by
    unfold highestF
    split
    · simp
    · rename_i he
      have := highL_le (openM s) s.pts.length s.pts.length
      have := (good_of_open (Classical.byContradiction he)).plen
      omega
  obtain ⟨ap, hap⟩ : ∃ ap, apartF s p q = ap := ⟨_, rfl⟩
  rw [hap] at P1 P2
  clear hap
  obtain ⟨⟨x, y⟩, o, ae⟩ := ap
  unfold apartV at P1 P2
  simp only at P1 P2
  generalize heightsF s = lh at *
  generalize highestF s = lg at *
  generalize fitsB s = ft at *
  generalize errOf s = er at *
  generalize openE s = oe at *
  have HLH := Lib.hid hll
  have HLG := Lib.hid hll2
  clear hll hll2
  have f1 : (ft != ft) = false := by simp
  have f2 : (er != er) = false := by simp
  have f3 : (oe != oe) = false := by simp
  have f4 : (o != o) = false := by simp
  have f5 : (ae != ae) = false := by simp
  have f6 : (oe == oe) = true := by simp
  go_enter Tryz.func4, Tryz.ntmps4
  go_upto_region 1 with (fail)
  rw [← hW1, ← hW2]
  clear hW1 hW2
  have hbx : Below W2.heap.size W2 W2 := Below.refl _ _
  obtain ⟨C0, C1, C2, D0, D1, hb⟩ := HC.out _ hbx
  go_upto_region 2 with (go_at_call 21; (with_reducible refine Calls.mono (HF1.out _ hb) ?_); rintro e X ⟨rfl, h4⟩; replace hbx := hbx.trans (h4.mono hbx.size); clear C0 C1 C2 D0 D1 hb h4; obtain ⟨C0, C1, C2, D0, D1, hb⟩ := HC.out _ hbx)
  go_upto_region 5 with (go_at_call 22; (with_reducible refine Calls.mono (HF2.out _ hb) ?_); rintro e X ⟨rfl, h4⟩; replace hbx := hbx.trans (h4.mono hbx.size); clear C0 C1 C2 D0 D1 hb h4; obtain ⟨C0, C1, C2, D0, D1, hb⟩ := HC.out _ hbx)
  go_upto_region 6 with (go_at_call 23; (with_reducible refine Calls.mono (H1.out _ hb) ?_); rintro e X ⟨Ah1, ch1, rfl, hr1, h4⟩; have HR1 := Lib.hid (fun (Z : World) (h : Below X.heap.size X Z) => hr1.below h); clear hr1; replace hbx := hbx.trans (h4.mono hbx.size); clear C0 C1 C2 D0 D1 hb h4; obtain ⟨C0, C1, C2, D0, D1, hb⟩ := HC.out _ hbx; have hb3 : Below X.heap.size X X := Below.refl _ _)
  go_upto_region 7 with (go_at_call 24; (with_reducible refine Calls.mono (H2.out _ hb) ?_); rintro e X ⟨Ah2, ch2, rfl, hr2, h4⟩; have HR2 := Lib.hid (fun (Z : World) (h : Below X.heap.size X Z) => hr2.below h); clear hr2; replace hbx := hbx.trans (h4.mono hbx.size); replace hb3 := hb3.trans (h4.mono hb3.size); clear C0 C1 C2 D0 D1 hb h4; obtain ⟨C0, C1, C2, D0, D1, hb⟩ := HC.out _ hbx; have hb4 : Below X.heap.size X X := Below.refl _ _)
  have HSp := Lib.hid (show ∀ Z, _ → _ → Calls Tryz.prog 25 #[.slice Ah1 lh.length ch1, .slice Ah2 lh.length ch2] Z fun e w' => e = .returned (.bool true) ∧ Below Z.heap.size Z w' from fun Z h h' => by
    refine (spans_any (HR1.out Z h) (HR2.out Z h') HLH.out).mono ?_
    rintro e w' ⟨rfl, hq⟩
    rw [decide_eq_true rfl]
    exact ⟨rfl, hq.below _⟩)
  go_upto_region 9 with (go_at_call 25; (with_reducible refine Calls.mono (HSp.out _ hb3 hb4) ?_); rintro e X ⟨rfl, h4⟩; replace hbx := hbx.trans (h4.mono hbx.size); replace hb3 := hb3.trans (h4.mono hb3.size); replace hb4 := hb4.trans (h4.mono hb4.size); clear C0 C1 C2 D0 D1 hb h4; obtain ⟨C0, C1, C2, D0, D1, hb⟩ := HC.out _ hbx)
  clear HSp HR1 HR2 hb3 hb4 HF1 HF2 H1 H2
  go_upto_region 10 with (first | (go_at_call 26; (with_reducible refine Calls.mono (P1.out _ hb) ?_); rintro e X ⟨rfl, h4⟩; replace hbx := hbx.trans (h4.mono hbx.size); clear C0 C1 C2 D0 D1 hb h4; obtain ⟨C0, C1, C2, D0, D1, hb⟩ := HC.out _ hbx) | (refine wpList_store_row rfl 40 (.tmp 11) (.tmp 61) rfl X.heap.size #[.int .i64 x, .int .i64 y] rfl rfl 40 _ (heap_alloc_new _ _) (by kernel_rfl) rfl (by simp [Value.oneCell']) ?_))
  obtain ⟨V, hV⟩ : ∃ V, V = (X.alloc (.cells #[.int .i64 0, .int .i64 0] 40)).setRow X.heap.size #[.int .i64 x, .int .i64 y] := ⟨_, rfl⟩
  rw [← hV]
  have h4 : Below X.heap.size X V := by rw [hV]; exact ((Below.refl _ _).alloc (Nat.le_refl _) _).trans (setRow_below _ (Nat.le_refl _))
  have rV : V.heap[X.heap.size]? = some (.cells #[.int .i64 x, .int .i64 y] 40) := by rw [hV]; exact setRow_heap _ _ _ _ _ _ (heap_alloc_new _ _)
  clear hV
  have HE1 := Lib.hid (show ∀ Z, Below V.heap.size V Z → Z.cell? ⟨X.heap.size, 0, none⟩ = some (.int .i64 x) ∧ Z.cell? ⟨X.heap.size, 1, none⟩ = some (.int .i64 y) from fun Z h => by
    have k := (h.block _ (lt_of_block rV)).trans rV
    exact ⟨cellOf k 0 rfl, cellOf k 1 rfl⟩)
  clear rV
  replace hbx := hbx.trans (h4.mono hbx.size)
  clear C0 C1 C2 D0 D1 hb h4
  obtain ⟨C0, C1, C2, D0, D1, hb⟩ := HC.out _ hbx
  have hb5 : Below V.heap.size V V := Below.refl _ _
  go_upto_region 11 with (first | (go_at_call 27; (with_reducible refine Calls.mono (P2.out _ hb) ?_); rintro e X ⟨rfl, h4⟩; replace hbx := hbx.trans (h4.mono hbx.size); replace hb5 := hb5.trans (h4.mono hb5.size); clear C0 C1 C2 D0 D1 hb h4; obtain ⟨C0, C1, C2, D0, D1, hb⟩ := HC.out _ hbx) | (refine wpList_store_row rfl 40 (.tmp 13) (.tmp 71) rfl X.heap.size #[.int .i64 x, .int .i64 y] rfl rfl 40 _ (heap_alloc_new _ _) (by kernel_rfl) rfl (by simp [Value.oneCell']) ?_))
  obtain ⟨V, hV⟩ : ∃ V, V = (X.alloc (.cells #[.int .i64 0, .int .i64 0] 40)).setRow X.heap.size #[.int .i64 x, .int .i64 y] := ⟨_, rfl⟩
  rw [← hV]
  have h4 : Below X.heap.size X V := by rw [hV]; exact ((Below.refl _ _).alloc (Nat.le_refl _) _).trans (setRow_below _ (Nat.le_refl _))
  have rV : V.heap[X.heap.size]? = some (.cells #[.int .i64 x, .int .i64 y] 40) := by rw [hV]; exact setRow_heap _ _ _ _ _ _ (heap_alloc_new _ _)
  clear hV
  have HE2 := Lib.hid (show ∀ Z, Below V.heap.size V Z → Z.cell? ⟨X.heap.size, 0, none⟩ = some (.int .i64 x) ∧ Z.cell? ⟨X.heap.size, 1, none⟩ = some (.int .i64 y) from fun Z h => by
    have k := (h.block _ (lt_of_block rV)).trans rV
    exact ⟨cellOf k 0 rfl, cellOf k 1 rfl⟩)
  clear rV
  replace hbx := hbx.trans (h4.mono hbx.size)
  replace hb5 := hb5.trans (h4.mono hb5.size)
  clear C0 C1 C2 D0 D1 hb h4
  obtain ⟨C0, C1, C2, D0, D1, hb⟩ := HC.out _ hbx
  have hb6 : Below V.heap.size V V := Below.refl _ _
  obtain ⟨e0, e1⟩ := HE1.out _ hb5
  obtain ⟨e2, e3⟩ := HE2.out _ hb6
  go_upto_region 13 with (fail)
  clear e0 e1 e2 e3 HE1 HE2 hb5 hb6 P1 P2
  go_upto_region 14 with (go_at_call 28; (with_reducible refine Calls.mono (J1.out _ hb) ?_); rintro e X ⟨Ag1, cg1, rfl, hr3, h4⟩; have HR3 := Lib.hid (fun (Z : World) (h : Below X.heap.size X Z) => hr3.below h); clear hr3; replace hbx := hbx.trans (h4.mono hbx.size); clear C0 C1 C2 D0 D1 hb h4; obtain ⟨C0, C1, C2, D0, D1, hb⟩ := HC.out _ hbx; have hb7 : Below X.heap.size X X := Below.refl _ _)
  go_upto_region 15 with (go_at_call 29; (with_reducible refine Calls.mono (J2.out _ hb) ?_); rintro e X ⟨Ag2, cg2, rfl, hr4, h4⟩; have HR4 := Lib.hid (fun (Z : World) (h : Below X.heap.size X Z) => hr4.below h); clear hr4; replace hbx := hbx.trans (h4.mono hbx.size); replace hb7 := hb7.trans (h4.mono hb7.size); clear C0 C1 C2 D0 D1 hb h4; obtain ⟨C0, C1, C2, D0, D1, hb⟩ := HC.out _ hbx; have hb8 : Below X.heap.size X X := Below.refl _ _)
  have HIn := Lib.hid (show ∀ Z, _ → _ → Calls Tryz.prog 30 #[.slice Ag1 lg.length cg1, .slice Ag2 lg.length cg2] Z fun e w' => e = .returned (.bool true) ∧ Below Z.heap.size Z w' from fun Z h h' => by
    refine (ints_any (HR3.out Z h) (HR4.out Z h') HLG.out).mono ?_
    rintro e w' ⟨rfl, hq⟩
    rw [decide_eq_true rfl]
    exact ⟨rfl, hq.below _⟩)
  go_wp2_with (first | (go_at_call 30; (with_reducible refine Calls.mono (HIn.out _ hb7 hb8) ?_); rintro e X ⟨rfl, h4⟩; replace hbx := hbx.trans (h4.mono hbx.size); replace hb7 := hb7.trans (h4.mono hb7.size); replace hb8 := hb8.trans (h4.mono hb8.size); clear C0 C1 C2 D0 D1 hb h4; obtain ⟨C0, C1, C2, D0, D1, hb⟩ := HC.out _ hbx) | (go_at_call 20; (with_reducible refine Calls.mono (HA.out _ hb) ?_); rintro e X ⟨rfl, h4⟩; replace hbx := hbx.trans (h4.mono hbx.size); clear C0 C1 C2 D0 D1 hb h4; obtain ⟨C0, C1, C2, D0, D1, hb⟩ := HC.out _ hbx))
  go_ret
  exact ⟨rfl, hb⟩
end Go.Proofs.YtajdgdelhlfniaaGreatDoor
