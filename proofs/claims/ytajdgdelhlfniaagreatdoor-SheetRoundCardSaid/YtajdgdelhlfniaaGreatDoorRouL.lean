/- The law SheetRound: its walk. -/
import Derived.Test.YtajdgdelhlfniaaGreatDoorGPl
import Derived.Test.YtajdgdelhlfniaaGreatDoorMorL
import Derived.WalkKit
import Derived.Deep.Quiet
set_option linter.unusedSimpArgs false
set_option linter.unusedVariables false
namespace Go.Proofs.YtajdgdelhlfniaaGreatDoor
open Go.RowKit

set_option maxRecDepth 100000 in
set_option maxHeartbeats 1000000 in
theorem read_any2 {w : World} {t : ByteArray} (ht : t.size ≤ 9223372036854775807) (hgl : Glob w) :
    Calls Tryz.prog 39 #[.string t] w fun e w' => ∃ v, e = .returned (.tuple #[v, .int .i64 (readF t).2]) ∧ RdSh w'.heap.size w' v (readF t).1 ∧ Below w.heap.size w w' := by
  by_cases hl : 1500 < t.size
  · have hlb : decide ((t.size : Int) > 1500) = true := decide_eq_true (by omega)
    have hlb2 : decide ((1500 : Int) < (t.size : Int)) = true := decide_eq_true (by omega)
    have HF := Lib.hid (show readF t = (zeroS, 3) by unfold readF; rw [if_pos hl])
    have hn : 1500 < t.size := hl
    clear hl
    refine calls_of_wp_marks Tryz.func39 rfl ?_
    simp only [Tryz.ntmps39, List.size_toArray, List.length_cons, List.length_nil, Nat.reduceAdd, Nat.reduceSub, Array.replicate_succ,
      Array.replicate_zero, List.push_toArray, List.append_toArray, List.nil_append, List.cons_append]
    go_wp2
    obtain ⟨W1, hW1, r1, z1, d1⟩ := box_any w #[.int .i64 0, .slice none 0 0, .slice none 0 0] 25
    obtain ⟨W2, hW2, r2, z2, d2⟩ := box_any W1 #[.int .i64 3] 26
    rw [← hW1, ← hW2]
    have r1' := (d2.block _ (by omega)).trans r1
    rw [z1] at r2
    refine ⟨_, results39_at r1' r2 rfl rfl, .agg #[.int .i64 0, .slice none 0 0, .slice none 0 0], by rw [HF.out], ?_, d1.trans (d2.mono d1.size)⟩
    rw [HF.out]
    exact ⟨_, _, rfl, Rd.nil _ _, Rd.nil _ _⟩
  · exact read_any (by omega) hgl
theorem read_at {w : World} {t : ByteArray} {r : ShR} {er : Int} (h : readF t = (r, er)) (ht : t.size ≤ 9223372036854775807) (hgl : Glob w) :
    Calls Tryz.prog 39 #[.string t] w fun e w' => ∃ Ap cp An cn, e = .returned (.tuple #[.agg #[.int .i64 r.iv, .slice Ap r.pts.length cp, .slice An r.notes.length cn], .int .i64 er]) ∧ RdSh w'.heap.size w' (.agg #[.int .i64 r.iv, .slice Ap r.pts.length cp, .slice An r.notes.length cn]) r ∧ Below w.heap.size w w' := by
  refine (read_any2 ht hgl).mono ?_
  rintro e w' ⟨v, rfl, hr, hb⟩
  rw [h] at hr ⊢
  obtain ⟨vp, vn, rfl, hp, hn⟩ := id hr
  obtain ⟨Ap, cp, rfl, _⟩ := id hp
  obtain ⟨An, cn, rfl, _⟩ := id hn
  exact ⟨Ap, cp, An, cn, rfl, hr, hb⟩
theorem write_at {B : Nat} {w : World} {v : Value} {s : ShR} {er : Int} {x : ByteArray} (he : errOf s = er) (hx : (⟨(writeF s).toArray⟩ : ByteArray) = x) (hs : RdSh B w v s) (hn : Named s) (hB : B ≤ w.heap.size) (hgl : Glob w) :
    Calls Tryz.prog 37 #[v] w fun e w' => e = .returned (.tuple #[.string x, .int .i64 er]) ∧ Below w.heap.size w w' := by
  subst he hx
  exact write_any hs hn hB hgl
theorem same_at {B B' : Nat} {w : World} {v v' : Value} {a : ShR} (ha : RdSh B w v a) (hb : RdSh B' w v' a) (hB : B ≤ w.heap.size) (hB' : B' ≤ w.heap.size) (hg : Good a) :
    Calls Tryz.prog 41 #[v, v'] w fun e w' => e = .returned (.bool true) ∧ Below w.heap.size w w' := by
  refine (same_any ha hb hB hB' (by have := hg.plen; omega) (by have := hg.nlen; omega)).mono ?_
  rintro e w' ⟨rfl, h⟩
  rw [decide_eq_true (eqS_iff.2 rfl)]
  exact ⟨rfl, h⟩
theorem named_good {s : ShR} (hg : Good s) : Named s := fun p hp => by
  have h1 := name_len16 (hg.names p hp)
  have h2 : p.size = p.data.toList.length := by simp
  omega

set_option maxRecDepth 100000 in
set_option maxHeartbeats 4000000 in
theorem round_any {B : Nat} {w : World} {v : Value} {s : ShR} {t : ByteArray} (hs : RdSh B w v s) (hn : Named s) (hB : B ≤ w.heap.size) (ht : t.size ≤ 9223372036854775807) (hgl : Glob w) :
    Calls Tryz.prog 15 #[v, .string t] w fun e w' => e = .returned (.bool true) ∧ Below w.heap.size w w' := by
  have HSR := Lib.hid (fun (X : World) (hb : Below w.heap.size w X) => hs.below (hb.mono hB))
  have HGl := Lib.hid (fun (X : World) (hb : Below w.heap.size w X) => hgl.below hb)
  have HA := Lib.hid (fun (X : World) (hb : Below w.heap.size w X) => awake_any (w := X) (hgl.below hb))
  have HN := Lib.hid hn
  obtain ⟨vp, vn, rfl, hpp, hnn⟩ := hs
  obtain ⟨Ap, cp, rfl, _⟩ := id hpp
  obtain ⟨An, cn, rfl, _⟩ := id hnn
  obtain ⟨W1, hW1, r1, z1, b1⟩ := box_any w #[.int .i64 s.iv, .slice Ap s.pts.length cp, .slice An s.notes.length cn] 25
  have HBY := Lib.hid b1
  have HC : Hid (∀ Z : World, Below W1.heap.size W1 Z → Z.cell? ⟨w.heap.size, 0, none⟩ = some (.int .i64 s.iv) ∧ Z.cell? ⟨w.heap.size, 1, none⟩ = some (.slice Ap s.pts.length cp) ∧ Z.cell? ⟨w.heap.size, 2, none⟩ = some (.slice An s.notes.length cn) ∧ Below w.heap.size w Z) :=
    Lib.hid fun Z h => by
      have j1 := (h.block _ (lt_of_block r1)).trans r1
      exact ⟨cellOf j1 0 rfl, cellOf j1 1 rfl, cellOf j1 2 rfl, HBY.out.trans (h.mono HBY.out.size)⟩
  clear r1 z1 b1 hn hgl hpp hnn
  go_enter Tryz.func15, Tryz.ntmps15
  go_upto_region 1 with (fail)
  rw [← hW1]
  clear hW1
  have hbx : Below W1.heap.size W1 W1 := Below.refl _ _
  obtain ⟨C0, C1, C2, hb⟩ := HC.out _ hbx
  have HV := Lib.hid (fun (Z : World) (h : Below w.heap.size w Z) => valid_any (HSR.out Z h) HN.out (Nat.le_trans hB h.size))
  obtain ⟨⟨r, er2⟩, hr⟩ : ∃ r, readF t = r := ⟨_, rfl⟩
  have HRt := Lib.hid (fun (Z : World) (h : Below w.heap.size w Z) => read_at hr ht (HGl.out Z h))
  have HRok := Lib.hid (show er2 = 0 → Good r ∧ (⟨(textB r).toArray⟩ : ByteArray) = t from fun h => by have := read_ok (t := t) (by rw [hr]; exact h); rw [hr] at this; exact this)
  have HRno := Lib.hid (show er2 ≠ 0 → r = zeroS from fun h => by have := read_zero (t := t) (by rw [hr]; exact h); rw [hr] at this; exact this)
  clear hr ht
  by_cases hv : errOf s = 0
  · have hd : decide (errOf s = 0) = true := decide_eq_true hv
    rw [hd] at HV
    clear hd
    have hg := good_of_valid hv
    have HW := Lib.hid (fun (Z : World) (h : Below w.heap.size w Z) => write_at hv rfl (HSR.out Z h) HN.out (Nat.le_trans hB h.size) (HGl.out Z h))
    rw [show writeF s = textB s by unfold writeF; rw [if_pos hv]] at HW
    have hsz : (⟨(textB s).toArray⟩ : ByteArray).size ≤ 9223372036854775807 := by
      have := text_small hg
      simp [ByteArray.size]
      omega
    have HRd := Lib.hid (fun (Z : World) (h : Below w.heap.size w Z) => read_at (read_text hg) hsz (HGl.out Z h))
    generalize (⟨(textB s).toArray⟩ : ByteArray) = ts at *
    have HGd := Lib.hid hg
    clear hv hg hsz
    go_upto_region 2 with (go_at_call 37; (with_reducible refine Calls.mono (HW.out _ hb) ?_); rintro e X ⟨rfl, h4⟩; replace hbx := hbx.trans (h4.mono hbx.size); clear C0 C1 C2 hb h4; obtain ⟨C0, C1, C2, hb⟩ := HC.out _ hbx)
    go_upto_region 5 with (go_at_call 44; (with_reducible refine Calls.mono (HV.out _ hb) ?_); rintro e X ⟨rfl, h4⟩; replace hbx := hbx.trans (h4.mono hbx.size); clear C0 C1 C2 hb h4; obtain ⟨C0, C1, C2, hb⟩ := HC.out _ hbx)
    go_upto_region 6 with (first | (go_at_call 39; (with_reducible refine Calls.mono (HRd.out _ hb) ?_); rintro e X ⟨A1, c1, A2, c2, rfl, hr1, h4⟩; have HTr := Lib.hid (fun (Z : World) (h : Below X.heap.size X Z) => hr1.below h); clear hr1; replace hbx := hbx.trans (h4.mono hbx.size); clear C0 C1 C2 hb h4; obtain ⟨C0, C1, C2, hb⟩ := HC.out _ hbx) | (refine wpList_store_row rfl 25 (.tmp 7) (.tmp 27) rfl X.heap.size #[.int .i64 s.iv, .slice A1 s.pts.length c1, .slice A2 s.notes.length c2] rfl rfl 25 _ (heap_alloc_new _ _) (by kernel_rfl) rfl (by simp [Value.oneCell']) ?_))
    obtain ⟨Y, hY⟩ : ∃ Y, Y = (X.alloc (.cells #[.int .i64 0, .slice none 0 0, .slice none 0 0] 25)).setRow X.heap.size #[.int .i64 s.iv, .slice A1 s.pts.length c1, .slice A2 s.notes.length c2] := ⟨_, rfl⟩
    rw [← hY]
    have y1t : Below X.heap.size X Y := by rw [hY]; exact ((Below.refl _ _).alloc (Nat.le_refl _) _).trans (setRow_below _ (Nat.le_refl _))
    have r7 : Y.heap[X.heap.size]? = some (.cells #[.int .i64 s.iv, .slice A1 s.pts.length c1, .slice A2 s.notes.length c2] 25) := by rw [hY]; exact setRow_heap _ _ _ _ _ _ (heap_alloc_new _ _)
    replace hbx := hbx.trans (y1t.mono hbx.size)
    clear hY C0 C1 C2 hb
    obtain ⟨C0, C1, C2, hb⟩ := HC.out _ hbx
    have HSa := Lib.hid (fun (Z : World) (h : Below Y.heap.size Y Z) (h2 : Below w.heap.size w Z) => same_at (HTr.out Z (y1t.trans (h.mono y1t.size))) (HSR.out Z h2) (Nat.le_trans y1t.size h.size) (Nat.le_trans hB h2.size) HGd.out)
    have hb7 : Below Y.heap.size Y Y := Below.refl _ _
    have e0 := cellOf r7 0 (v := .int .i64 s.iv) rfl
    have e1 := cellOf r7 1 (v := .slice A1 s.pts.length c1) rfl
    have e2 := cellOf r7 2 (v := .slice A2 s.notes.length c2) rfl
    go_upto_region 8 with (go_at_call 41; (with_reducible refine Calls.mono (HSa.out _ hb7 hb) ?_); rintro e X ⟨rfl, h4⟩; replace hbx := hbx.trans (h4.mono hbx.size); replace hb7 := hb7.trans (h4.mono hb7.size); clear C0 C1 C2 hb h4; obtain ⟨C0, C1, C2, hb⟩ := HC.out _ hbx)
    try clear e0 e1 e2
    clear hb7
    go_upto_region 9 with (first | (go_at_call 39; (with_reducible refine Calls.mono (HRt.out _ hb) ?_); rintro e X ⟨A3, c3, A4, c4, rfl, hr3, h4⟩; have HTr3 := Lib.hid (fun (Z : World) (h : Below X.heap.size X Z) => hr3.below h); clear hr3; replace hbx := hbx.trans (h4.mono hbx.size); clear C0 C1 C2 hb h4; obtain ⟨C0, C1, C2, hb⟩ := HC.out _ hbx) | (refine wpList_store_row rfl 25 (.tmp 9) (.tmp 40) rfl X.heap.size #[.int .i64 r.iv, .slice A3 r.pts.length c3, .slice A4 r.notes.length c4] rfl rfl 25 _ (heap_alloc_new _ _) (by kernel_rfl) rfl (by simp [Value.oneCell']) ?_))
    obtain ⟨Y, hY⟩ : ∃ Y, Y = (X.alloc (.cells #[.int .i64 0, .slice none 0 0, .slice none 0 0] 25)).setRow X.heap.size #[.int .i64 r.iv, .slice A3 r.pts.length c3, .slice A4 r.notes.length c4] := ⟨_, rfl⟩
    rw [← hY]
    have y1t : Below X.heap.size X Y := by rw [hY]; exact ((Below.refl _ _).alloc (Nat.le_refl _) _).trans (setRow_below _ (Nat.le_refl _))
    have r7 : Y.heap[X.heap.size]? = some (.cells #[.int .i64 r.iv, .slice A3 r.pts.length c3, .slice A4 r.notes.length c4] 25) := by rw [hY]; exact setRow_heap _ _ _ _ _ _ (heap_alloc_new _ _)
    replace hbx := hbx.trans (y1t.mono hbx.size)
    clear hY C0 C1 C2 hb
    obtain ⟨C0, C1, C2, hb⟩ := HC.out _ hbx
    have e0 := cellOf r7 0 (v := .int .i64 r.iv) rfl
    have e1 := cellOf r7 1 (v := .slice A3 r.pts.length c3) rfl
    have e2 := cellOf r7 2 (v := .slice A4 r.notes.length c4) rfl
    by_cases he : er2 = 0
    · obtain ⟨hgr, htx⟩ := HRok.out he
      have hne2 : (er2 != 0) = false := by simp [he]
      have hwf : (⟨(writeF r).toArray⟩ : ByteArray) = t := by
        unfold writeF
        rw [if_pos (errOf_good hgr)]
        exact htx
      have HW2 := Lib.hid (fun (Z : World) (h : Below X.heap.size X Z) (h2 : Below w.heap.size w Z) => write_at (errOf_good hgr) hwf (HTr3.out Z h) (named_good hgr) h.size (HGl.out Z h2))
      have hb7 : Below Y.heap.size Y Y := Below.refl _ _
      clear htx hwf he
      go_upto_region 12 with (go_at_call 37; (with_reducible refine Calls.mono (HW2.out _ (y1t.trans (hb7.mono y1t.size)) hb) ?_); rintro e X ⟨rfl, h4⟩; replace hbx := hbx.trans (h4.mono hbx.size); clear C0 C1 C2 hb h4; obtain ⟨C0, C1, C2, hb⟩ := HC.out _ hbx)
      go_wp2_with (go_at_call 20; (with_reducible refine Calls.mono (HA.out _ hb) ?_); rintro e X ⟨rfl, h4⟩; replace hbx := hbx.trans (h4.mono hbx.size); clear C0 C1 C2 hb h4; obtain ⟨C0, C1, C2, hb⟩ := HC.out _ hbx)
      go_ret
      exact ⟨rfl, hb⟩
    · have hz := HRno.out he
      have hne2 : (er2 != 0) = true := by simpa using he
      subst hz
      clear he
      go_wp2_with (go_at_call 20; (with_reducible refine Calls.mono (HA.out _ hb) ?_); rintro e X ⟨rfl, h4⟩; replace hbx := hbx.trans (h4.mono hbx.size); clear C0 C1 C2 hb h4; obtain ⟨C0, C1, C2, hb⟩ := HC.out _ hbx)
      go_ret
      exact ⟨rfl, hb⟩
  · have hd : decide (errOf s = 0) = false := decide_eq_false hv
    obtain ⟨er, her⟩ : ∃ er, errOf s = er := ⟨_, rfl⟩
    have hne : (er == 0) = false := by rw [← her]; simpa using hv
    have HW := Lib.hid (fun (Z : World) (h : Below w.heap.size w Z) => write_at her rfl (HSR.out Z h) HN.out (Nat.le_trans hB h.size) (HGl.out Z h))
    rw [hd] at HV
    generalize (⟨(writeF s).toArray⟩ : ByteArray) = ts at *
    clear hd hv her
    go_upto_region 2 with (go_at_call 37; (with_reducible refine Calls.mono (HW.out _ hb) ?_); rintro e X ⟨rfl, h4⟩; replace hbx := hbx.trans (h4.mono hbx.size); clear C0 C1 C2 hb h4; obtain ⟨C0, C1, C2, hb⟩ := HC.out _ hbx)
    go_upto_region 8 with (go_at_call 44; (with_reducible refine Calls.mono (HV.out _ hb) ?_); rintro e X ⟨rfl, h4⟩; replace hbx := hbx.trans (h4.mono hbx.size); clear C0 C1 C2 hb h4; obtain ⟨C0, C1, C2, hb⟩ := HC.out _ hbx)
    clear hne
    go_upto_region 9 with (first | (go_at_call 39; (with_reducible refine Calls.mono (HRt.out _ hb) ?_); rintro e X ⟨A3, c3, A4, c4, rfl, hr3, h4⟩; have HTr3 := Lib.hid (fun (Z : World) (h : Below X.heap.size X Z) => hr3.below h); clear hr3; replace hbx := hbx.trans (h4.mono hbx.size); clear C0 C1 C2 hb h4; obtain ⟨C0, C1, C2, hb⟩ := HC.out _ hbx) | (refine wpList_store_row rfl 25 (.tmp 9) (.tmp 40) rfl X.heap.size #[.int .i64 r.iv, .slice A3 r.pts.length c3, .slice A4 r.notes.length c4] rfl rfl 25 _ (heap_alloc_new _ _) (by kernel_rfl) rfl (by simp [Value.oneCell']) ?_))
    obtain ⟨Y, hY⟩ : ∃ Y, Y = (X.alloc (.cells #[.int .i64 0, .slice none 0 0, .slice none 0 0] 25)).setRow X.heap.size #[.int .i64 r.iv, .slice A3 r.pts.length c3, .slice A4 r.notes.length c4] := ⟨_, rfl⟩
    rw [← hY]
    have y1t : Below X.heap.size X Y := by rw [hY]; exact ((Below.refl _ _).alloc (Nat.le_refl _) _).trans (setRow_below _ (Nat.le_refl _))
    have r7 : Y.heap[X.heap.size]? = some (.cells #[.int .i64 r.iv, .slice A3 r.pts.length c3, .slice A4 r.notes.length c4] 25) := by rw [hY]; exact setRow_heap _ _ _ _ _ _ (heap_alloc_new _ _)
    replace hbx := hbx.trans (y1t.mono hbx.size)
    clear hY C0 C1 C2 hb
    obtain ⟨C0, C1, C2, hb⟩ := HC.out _ hbx
    have e0 := cellOf r7 0 (v := .int .i64 r.iv) rfl
    have e1 := cellOf r7 1 (v := .slice A3 r.pts.length c3) rfl
    have e2 := cellOf r7 2 (v := .slice A4 r.notes.length c4) rfl
    by_cases he : er2 = 0
    · obtain ⟨hgr, htx⟩ := HRok.out he
      have hne2 : (er2 != 0) = false := by simp [he]
      have hwf : (⟨(writeF r).toArray⟩ : ByteArray) = t := by
        unfold writeF
        rw [if_pos (errOf_good hgr)]
        exact htx
      have HW2 := Lib.hid (fun (Z : World) (h : Below X.heap.size X Z) (h2 : Below w.heap.size w Z) => write_at (errOf_good hgr) hwf (HTr3.out Z h) (named_good hgr) h.size (HGl.out Z h2))
      have hb7 : Below Y.heap.size Y Y := Below.refl _ _
      clear htx hwf he
      go_upto_region 12 with (go_at_call 37; (with_reducible refine Calls.mono (HW2.out _ (y1t.trans (hb7.mono y1t.size)) hb) ?_); rintro e X ⟨rfl, h4⟩; replace hbx := hbx.trans (h4.mono hbx.size); clear C0 C1 C2 hb h4; obtain ⟨C0, C1, C2, hb⟩ := HC.out _ hbx)
      go_wp2_with (go_at_call 20; (with_reducible refine Calls.mono (HA.out _ hb) ?_); rintro e X ⟨rfl, h4⟩; replace hbx := hbx.trans (h4.mono hbx.size); clear C0 C1 C2 hb h4; obtain ⟨C0, C1, C2, hb⟩ := HC.out _ hbx)
      go_ret
      exact ⟨rfl, hb⟩
    · have hz := HRno.out he
      have hne2 : (er2 != 0) = true := by simpa using he
      subst hz
      clear he
      go_wp2_with (go_at_call 20; (with_reducible refine Calls.mono (HA.out _ hb) ?_); rintro e X ⟨rfl, h4⟩; replace hbx := hbx.trans (h4.mono hbx.size); clear C0 C1 C2 hb h4; obtain ⟨C0, C1, C2, hb⟩ := HC.out _ hbx)
      go_ret
      exact ⟨rfl, hb⟩
end Go.Proofs.YtajdgdelhlfniaaGreatDoor
