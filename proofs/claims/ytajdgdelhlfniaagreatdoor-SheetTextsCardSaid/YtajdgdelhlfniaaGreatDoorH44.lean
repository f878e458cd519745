/- The law SheetTexts: its walk. -/
import Derived.Test.YtajdgdelhlfniaaGreatDoorH41
import Derived.Test.YtajdgdelhlfniaaGreatDoorH27
import Derived.Test.YtajdgdelhlfniaaGreatDoorH28
import Derived.Test.YtajdgdelhlfniaaGreatDoorH43
set_option linter.unusedSimpArgs false
set_option linter.unusedVariables false
namespace Go.Proofs.YtajdgdelhlfniaaGreatDoor
open Go.RowKit

set_option maxRecDepth 100000 in
set_option maxHeartbeats 1000000 in
theorem read_any6 {w : World} {t : ByteArray} (ht : t.size ≤ 9223372036854775807) (hgl : Glob w) :
    Calls Tryz.prog 39 #[.string t] w fun e w' => ∃ v, e = .returned (.tuple #[v, .int .i64 (readF t).2]) ∧ RdSh w'.heap.size w' v (readF t).1 ∧ Below w.heap.size w w' := by
  by_cases hl : 1500 < t.size
  · have hlb : decide ((t.size : Int) > 1500) = true := decide_eq_true (by omega)
    have hlb2 : decide ((1500 : Int) < (t.size : Int)) = true := decide_eq_true (by omega)
    have HF := Lib.hid (show readF t = (zeroS, 3) by unfold readF; rw [if_pos hl])
    have hn : 1500 < t.size := hl
    clear hl
    refine calls_of_wp_marks Tryz.func39 rfl ?_
    simp only [Tryz.ntmps39, List.size_toArray, List.length_cons, List.length_nil, Nat.reduceAdd, Nat.reduceSub, Array.replicate_succ,
      Array.replicate_zero, List.push_toArray, List.append_toArray, List.nil_append, List.cons_append]
    go_wp2
    obtain ⟨W1, hW1, r1, z1, d1⟩ := box_any w #[.int .i64 0, .slice none 0 0, .slice none 0 0] 25
    obtain ⟨W2, hW2, r2, z2, d2⟩ := box_any W1 #[.int .i64 3] 26
    rw [← hW1, ← hW2]
    have r1' := (d2.block _ (by omega)).trans r1
    rw [z1] at r2
    refine ⟨_, results39_at r1' r2 rfl rfl, .agg #[.int .i64 0, .slice none 0 0, .slice none 0 0], by rw [HF.out], ?_, d1.trans (d2.mono d1.size)⟩
    rw [HF.out]
    exact ⟨_, _, rfl, Rd.nil _ _, Rd.nil _ _⟩
  · exact read_any (by omega) hgl
theorem read_at6 {w : World} {t : ByteArray} {r : ShR} {er : Int} (h : readF t = (r, er)) (ht : t.size ≤ 9223372036854775807) (hgl : Glob w) :
    Calls Tryz.prog 39 #[.string t] w fun e w' => ∃ Ap cp An cn, e = .returned (.tuple #[.agg #[.int .i64 r.iv, .slice Ap r.pts.length cp, .slice An r.notes.length cn], .int .i64 er]) ∧ RdSh w'.heap.size w' (.agg #[.int .i64 r.iv, .slice Ap r.pts.length cp, .slice An r.notes.length cn]) r ∧ Below w.heap.size w w' := by
  refine (read_any6 ht hgl).mono ?_
  rintro e w' ⟨v, rfl, hr, hb⟩
  rw [h] at hr ⊢
  obtain ⟨vp, vn, rfl, hp, hn⟩ := id hr
  obtain ⟨Ap, cp, rfl, _⟩ := id hp
  obtain ⟨An, cn, rfl, _⟩ := id hn
  exact ⟨Ap, cp, An, cn, rfl, hr, hb⟩
theorem rread_at6 {w : World} {t : ByteArray} {r : ShR} {er : Int} (h : readF t = (r, er)) (ht : t.size ≤ 9223372036854775807) :
    Calls Tryz.prog 40 #[.string t] w fun e w' => ∃ Ap cp An cn, e = .returned (.tuple #[.agg #[.int .i64 r.iv, .slice Ap r.pts.length cp, .slice An r.notes.length cn], .int .i64 er]) ∧ RdSh w'.heap.size w' (.agg #[.int .i64 r.iv, .slice Ap r.pts.length cp, .slice An r.notes.length cn]) r ∧ Below w.heap.size w w' := by
  refine (rread_any ht w).mono ?_
  rintro e w' ⟨v, rfl, hr, hb⟩
  rw [rread_eq, h] at hr ⊢
  obtain ⟨vp, vn, rfl, hp, hn⟩ := id hr
  obtain ⟨Ap, cp, rfl, _⟩ := id hp
  obtain ⟨An, cn, rfl, _⟩ := id hn
  exact ⟨Ap, cp, An, cn, rfl, hr, hb⟩
theorem read_few (t : ByteArray) : (readF t).1.pts.length ≤ 8 ∧ (readF t).1.notes.length ≤ 12 := by
  unfold readF
  split
  · exact ⟨by simp [zeroS], by simp [zeroS]⟩
  · rcases endF_two t (takesF zeroS ((linesOf t).map wordsOf)) with h | ⟨s, _, hg, _, h⟩
    · rw [h]
      exact ⟨by simp [zeroS], by simp [zeroS]⟩
    · rw [h]
      exact ⟨hg.plen.2, hg.nlen⟩
theorem same_at6 {B B' : Nat} {w : World} {v v' : Value} {a : ShR} (ha : RdSh B w v a) (hb : RdSh B' w v' a) (hB : B ≤ w.heap.size) (hB' : B' ≤ w.heap.size) (hg : a.pts.length ≤ 8 ∧ a.notes.length ≤ 12) :
    Calls Tryz.prog 41 #[v, v'] w fun e w' => e = .returned (.bool true) ∧ Below w.heap.size w w' := by
  refine (same_any ha hb hB hB' (by omega) (by omega)).mono ?_
  rintro e w' ⟨rfl, h⟩
  rw [decide_eq_true (eqS_iff.2 rfl)]
  exact ⟨rfl, h⟩
theorem write_at6 {B : Nat} {w : World} {v : Value} {s : ShR} {er : Int} {x : ByteArray} (he : errOf s = er) (hx : (⟨(writeF s).toArray⟩ : ByteArray) = x) (hs : RdSh B w v s) (hn : Named s) (hB : B ≤ w.heap.size) (hgl : Glob w) :
    Calls Tryz.prog 37 #[v] w fun e w' => e = .returned (.tuple #[.string x, .int .i64 er]) ∧ Below w.heap.size w w' := by
  subst he hx
  exact write_any hs hn hB hgl
theorem rwrite_at6 {B : Nat} {w : World} {v : Value} {s : ShR} {er : Int} {x : ByteArray} (he : errOf s = er) (hx : (⟨(writeF s).toArray⟩ : ByteArray) = x) (hs : RdSh B w v s) (hn : Named s) (hB : B ≤ w.heap.size) :
    Calls Tryz.prog 38 #[v] w fun e w' => e = .returned (.tuple #[.string x, .int .i64 er]) ∧ Below w.heap.size w w' := by
  subst he hx
  exact rwrite_any hs hn hB

set_option maxRecDepth 100000 in
set_option maxHeartbeats 4000000 in
theorem texts_any {B : Nat} {w : World} {v : Value} {s : ShR} {t : ByteArray} (hs : RdSh B w v s) (hn : Named s) (hB : B ≤ w.heap.size) (ht : t.size ≤ 9223372036854775807) (hgl : Glob w) :
    Calls Tryz.prog 6 #[v, .string t] w fun e w' => e = .returned (.bool true) ∧ Below w.heap.size w w' := by
  have HSR := Lib.hid (fun (X : World) (hb : Below w.heap.size w X) => hs.below (hb.mono hB))
  have HGl := Lib.hid (fun (X : World) (hb : Below w.heap.size w X) => hgl.below hb)
  have HA := Lib.hid (fun (X : World) (hb : Below w.heap.size w X) => awake_any (w := X) (hgl.below hb))
  obtain ⟨x, hx⟩ : ∃ x, (⟨(writeF s).toArray⟩ : ByteArray) = x := ⟨_, rfl⟩
  obtain ⟨er, her⟩ : ∃ er, errOf s = er := ⟨_, rfl⟩
  have HW := Lib.hid (fun (Z : World) (h : Below w.heap.size w Z) => write_at6 her hx (HSR.out Z h) hn (Nat.le_trans hB h.size) (HGl.out Z h))
  have HRw := Lib.hid (fun (Z : World) (h : Below w.heap.size w Z) => rwrite_at6 her hx (HSR.out Z h) hn (Nat.le_trans hB h.size))
  have hfew := read_few t
  obtain ⟨⟨r, er2⟩, hr⟩ : ∃ r, readF t = r := ⟨_, rfl⟩
  rw [hr] at hfew
  have HFw := Lib.hid hfew
  have HRt := Lib.hid (fun (Z : World) (h : Below w.heap.size w Z) => read_at6 hr ht (HGl.out Z h))
  have HRr := Lib.hid (fun (Z : World) => rread_at6 (w := Z) hr ht)
  obtain ⟨vp, vn, rfl, hpp, hnn⟩ := hs
  obtain ⟨Ap, cp, rfl, _⟩ := id hpp
  obtain ⟨An, cn, rfl, _⟩ := id hnn
  obtain ⟨W1, hW1, r1, z1, b1⟩ := box_any w #[.int .i64 s.iv, .slice Ap s.pts.length cp, .slice An s.notes.length cn] 25
  have HBY := Lib.hid b1
  have HC : Hid (∀ Z : World, Below W1.heap.size W1 Z → Z.cell? ⟨w.heap.size, 0, none⟩ = some (.int .i64 s.iv) ∧ Z.cell? ⟨w.heap.size, 1, none⟩ = some (.slice Ap s.pts.length cp) ∧ Z.cell? ⟨w.heap.size, 2, none⟩ = some (.slice An s.notes.length cn) ∧ Below w.heap.size w Z) :=
    Lib.hid fun Z h => by
      have j1 := (h.block _ (lt_of_block r1)).trans r1
      exact ⟨cellOf j1 0 rfl, cellOf j1 1 rfl, cellOf j1 2 rfl, HBY.out.trans (h.mono HBY.out.size)⟩
  clear r1 z1 b1 hn hgl hpp hnn hr hfew hx her
  go_enter Tryz.func6, Tryz.ntmps6
  go_upto_region 1 with (fail)
  rw [← hW1]
  clear hW1
  have hbx : Below W1.heap.size W1 W1 := Below.refl _ _
  obtain ⟨C0, C1, C2, hb⟩ := HC.out _ hbx
  go_upto_region 2 with (go_at_call 37; (with_reducible refine Calls.mono (HW.out _ hb) ?_); rintro e X ⟨rfl, h4⟩; replace hbx := hbx.trans (h4.mono hbx.size); clear C0 C1 C2 hb h4; obtain ⟨C0, C1, C2, hb⟩ := HC.out _ hbx)
  go_upto_region 5 with (go_at_call 38; (with_reducible refine Calls.mono (HRw.out _ hb) ?_); rintro e X ⟨rfl, h4⟩; replace hbx := hbx.trans (h4.mono hbx.size); clear C0 C1 C2 hb h4; obtain ⟨C0, C1, C2, hb⟩ := HC.out _ hbx)
  go_upto_region 6 with (first | (go_at_call 39; (with_reducible refine Calls.mono (HRt.out _ hb) ?_); rintro e X ⟨A1, c1, A2, c2, rfl, hr1, h4⟩; have HTr := Lib.hid (fun (Z : World) (h : Below X.heap.size X Z) => hr1.below h); clear hr1; replace hbx := hbx.trans (h4.mono hbx.size); clear C0 C1 C2 hb h4; obtain ⟨C0, C1, C2, hb⟩ := HC.out _ hbx) | (refine wpList_store_row rfl 25 (.tmp 9) (.tmp 32) rfl X.heap.size #[.int .i64 r.iv, .slice A1 r.pts.length c1, .slice A2 r.notes.length c2] rfl rfl 25 _ (heap_alloc_new _ _) (by kernel_rfl) rfl (by simp [Value.oneCell']) ?_))
  obtain ⟨Y, hY⟩ : ∃ Y, Y = (X.alloc (.cells #[.int .i64 0, .slice none 0 0, .slice none 0 0] 25)).setRow X.heap.size #[.int .i64 r.iv, .slice A1 r.pts.length c1, .slice A2 r.notes.length c2] := ⟨_, rfl⟩
  rw [← hY]
  have y1t : Below X.heap.size X Y := by rw [hY]; exact ((Below.refl _ _).alloc (Nat.le_refl _) _).trans (setRow_below _ (Nat.le_refl _))
  have r7 : Y.heap[X.heap.size]? = some (.cells #[.int .i64 r.iv, .slice A1 r.pts.length c1, .slice A2 r.notes.length c2] 25) := by rw [hY]; exact setRow_heap _ _ _ _ _ _ (heap_alloc_new _ _)
  replace hbx := hbx.trans (y1t.mono hbx.size)
  clear hY C0 C1 C2 hb
  obtain ⟨C0, C1, C2, hb⟩ := HC.out _ hbx
  have HSh1 := Lib.hid (HTr.out Y y1t)
  have HR7 := Lib.hid r7
  have HY1 := Lib.hid y1t.size
  have HXl := Lib.hid (lt_of_block r7)
  clear y1t r7 HTr
  generalize X.heap.size = gx at *
  go_upto_region 7 with (first | (go_at_call 40; (with_reducible refine Calls.mono (HRr.out _) ?_); rintro e Z ⟨A3, c3, A4, c4, rfl, hr3, h4⟩; have HTr3 := Lib.hid (fun (Z' : World) (h : Below Z.heap.size Z Z') => hr3.below h); have HYZ := Lib.hid h4; clear hr3; replace hbx := hbx.trans (h4.mono hbx.size); clear C0 C1 C2 hb h4; obtain ⟨C0, C1, C2, hb⟩ := HC.out _ hbx) | (refine wpList_store_row rfl 25 (.tmp 10) (.tmp 37) rfl Z.heap.size #[.int .i64 r.iv, .slice A3 r.pts.length c3, .slice A4 r.notes.length c4] rfl rfl 25 _ (heap_alloc_new _ _) (by kernel_rfl) rfl (by simp [Value.oneCell']) ?_))
  obtain ⟨V, hV⟩ : ∃ V, V = (Z.alloc (.cells #[.int .i64 0, .slice none 0 0, .slice none 0 0] 25)).setRow Z.heap.size #[.int .i64 r.iv, .slice A3 r.pts.length c3, .slice A4 r.notes.length c4] := ⟨_, rfl⟩
  rw [← hV]
  have y2t : Below Z.heap.size Z V := by rw [hV]; exact ((Below.refl _ _).alloc (Nat.le_refl _) _).trans (setRow_below _ (Nat.le_refl _))
  have r8 : V.heap[Z.heap.size]? = some (.cells #[.int .i64 r.iv, .slice A3 r.pts.length c3, .slice A4 r.notes.length c4] 25) := by rw [hV]; exact setRow_heap _ _ _ _ _ _ (heap_alloc_new _ _)
  replace hbx := hbx.trans (y2t.mono hbx.size)
  clear hV C0 C1 C2 hb
  obtain ⟨C0, C1, C2, hb⟩ := HC.out _ hbx
  have hYV := HYZ.out.trans (y2t.mono HYZ.out.size)
  have r9 := (hYV.block _ HXl.out).trans HR7.out
  have HSm := Lib.hid (same_at6 (HSh1.out.below (hYV.mono HY1.out)) (HTr3.out V y2t) (Nat.le_trans HY1.out hYV.size) y2t.size HFw.out)
  have e0 := cellOf r9 0 (v := .int .i64 r.iv) rfl
  have e1 := cellOf r9 1 (v := .slice A1 r.pts.length c1) rfl
  have e2 := cellOf r9 2 (v := .slice A2 r.notes.length c2) rfl
  have f0 := cellOf r8 0 (v := .int .i64 r.iv) rfl
  have f1 := cellOf r8 1 (v := .slice A3 r.pts.length c3) rfl
  have f2 := cellOf r8 2 (v := .slice A4 r.notes.length c4) rfl
  clear hYV r9 y2t r8
  go_wp2_with (first | (go_at_call 41; (with_reducible refine Calls.mono HSm.out ?_); rintro e X ⟨rfl, h4⟩; replace hbx := hbx.trans (h4.mono hbx.size); clear C0 C1 C2 hb h4; obtain ⟨C0, C1, C2, hb⟩ := HC.out _ hbx) | (go_at_call 20; (with_reducible refine Calls.mono (HA.out _ hb) ?_); rintro e X ⟨rfl, h4⟩; replace hbx := hbx.trans (h4.mono hbx.size); clear C0 C1 C2 hb h4; obtain ⟨C0, C1, C2, hb⟩ := HC.out _ hbx))
  go_ret
  exact ⟨rfl, hb⟩
end Go.Proofs.YtajdgdelhlfniaaGreatDoor
