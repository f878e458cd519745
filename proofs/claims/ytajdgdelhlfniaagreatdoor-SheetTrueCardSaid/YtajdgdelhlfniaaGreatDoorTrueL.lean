/- The law SheetTrue: its walk. -/
import Derived.Test.YtajdgdelhlfniaaGreatDoorTolA
import Derived.Test.YtajdgdelhlfniaaGreatDoorGPw
import Derived.Test.YtajdgdelhlfniaaGreatDoorOrdL
import Derived.Test.YtajdgdelhlfniaaGreatDoorGB
import Derived.WalkKit
import Derived.Deep.Quiet
set_option linter.unusedSimpArgs false
set_option linter.unusedVariables false
namespace Go.Proofs.YtajdgdelhlfniaaGreatDoor
open Go.RowKit

theorem truth_at {B Bx : Nat} {w : World} {v vx : Value} {s : ShR} {l : List Int} (hs : RdSh B w v s) (hx : Rd U16At 1 Bx w vx l) (hl : ∀ x ∈ l, 0 ≤ x ∧ x ≤ 65535) (hB : B ≤ w.heap.size) (hBx : Bx ≤ w.heap.size) (hpl : s.pts.length ≤ 1000) :
    Calls Tryz.prog 45 #[v, vx] w fun e w' => ∃ A c, e = .returned (.slice A s.pts.length c) ∧ Rd IntAt 1 w'.heap.size w' (.slice A s.pts.length c) (truthL l s.pts.length) ∧ Below w.heap.size w w' := by
  refine (truth_any (hs.mono hB) (hx.mono hBx) hl (Nat.le_refl _) hpl).mono ?_
  rintro e w' ⟨A, c, rfl, ho, hb⟩
  refine ⟨A, c, rfl, ?_, hb⟩
  have := ho.rd
  exact this
/-- what holds of told notes and the heights that they tell -/
structure TrueP (t : ShR) (n : Nat) (h : List Int) : Prop where
  good : Good t
  len : t.pts.length = n
  hlen : h.length = n
  one : 1 ≤ n ∧ n ≤ 8
  op : openE t = 0
  fit : fitsB t = true
  wr : wrongF t = []
  wd : ∀ m, IsWider t m → m = 0
  ins : ∀ p, p < n → inB (h[p]?.getD 0) (- openM t p 8) (openM t 8 p) = true
  top : ∀ p, p < n → (∀ q, q < n → h[q]?.getD 0 ≤ h[p]?.getD 0) → (p : Int) ∈ highestF t
  apart : ∀ a c, a < n → c < n → - openM t a c ≤ h[a]?.getD 0 - h[c]?.getD 0 ∧ h[a]?.getD 0 - h[c]?.getD 0 ≤ openM t c a
  bnd : ∀ p, p < n → 0 ≤ h[p]?.getD 0 ∧ h[p]?.getD 0 ≤ 9000
theorem hgt_at {h : List Int} {p : Nat} (hp : p < h.length) : hgt h p = h[p]?.getD 0 := by
  unfold hgt
  rw [if_pos hp, List.getD_eq_getElem?_getD]
theorem hgt_sea {h : List Int} (hn : h.length ≤ 8) : hgt h 8 = 0 := by
  unfold hgt
  rw [if_neg (by omega)]
theorem true_law {s : ShR} (hg : Good s) (l off : List Int) : TrueP (toldS s (truthL l s.pts.length) off) s.pts.length (truthL l s.pts.length) := by
  have hl := truthL_len l s.pts.length
  have hb : ∀ x ∈ truthL l s.pts.length, 0 ≤ x ∧ x ≤ 9000 := fun x hx => truthL_mem hx
  have ht := told_truth hg off hl hb
  have hgt2 := told_good hg (truthL l s.pts.length) off
  generalize truthL l s.pts.length = h at *
  have hpl := hg.plen
  have hop := openE_fit hgt2 ⟨_, ht⟩
  have hsol := (open_sol hop _).2 ht
  have h8 := hgt_sea (h := h) (by omega)
  refine ⟨hgt2, rfl, hl, hpl, hop, (fitsB_iff hgt2).2 ⟨_, ht⟩, true_wrong hgt2 ⟨_, ht⟩, fun m hm => true_wider hgt2 ⟨_, ht⟩ hm, fun p hp => ?_, fun p hp hq => ?_, fun a c ha hc => ?_, fun p hp => ?_⟩
  · have e := hgt_at (h := h) (p := p) (by omega)
    have s1 := hsol p 8 (by omega) (by omega)
    have s2 := hsol 8 p (by omega) (by omega)
    rw [inB_iff]
    omega
  · refine (mem_highest hop).2 ⟨p, hp, rfl, _, ht, fun q hq2 => ?_⟩
    have hq2 : q < s.pts.length := hq2
    rw [hgt_at (by omega), hgt_at (by omega)]
    exact hq q hq2
  · have e1 := hgt_at (h := h) (p := a) (by omega)
    have e2 := hgt_at (h := h) (p := c) (by omega)
    have s1 := hsol a c (by omega) (by omega)
    have s2 := hsol c a (by omega) (by omega)
    omega
  · have := hb _ (getD_mem (show p < h.length by omega) 0)
    rwa [List.getD_eq_getElem?_getD] at this

set_option maxRecDepth 100000 in
set_option maxHeartbeats 4000000 in
theorem true_any {B B0 B1 : Nat} {w : World} {v v0 v1 : Value} {s : ShR} {l0 l1 : List Int} (p q : Nat) (hs : RdSh B w v s) (hn : Named s) (hB : B ≤ w.heap.size) (h0 : Rd U16At 1 B0 w v0 l0) (hl0 : ∀ x ∈ l0, 0 ≤ x ∧ x ≤ 65535) (hB0 : B0 ≤ w.heap.size) (h1 : Rd U16At 1 B1 w v1 l1) (hl1 : ∀ x ∈ l1, 0 ≤ x ∧ x ≤ 65535) (hB1 : B1 ≤ w.heap.size)
    (hp : p ≤ 255) (hq : q ≤ 255) (hgl : Glob w) :
    Calls Tryz.prog 8 #[v, .agg #[v0, v1], .agg #[.int .u8 p, .int .u8 q]] w fun e w' => e = .returned (.bool true) ∧ Below w.heap.size w w' := by
  have HSR := Lib.hid (fun (X : World) (hb : Below w.heap.size w X) => hs.below (hb.mono hB))
  have HX0 := Lib.hid (fun (X : World) (hb : Below w.heap.size w X) => h0.below (hb.mono hB0))
  have HX1 := Lib.hid (fun (X : World) (hb : Below w.heap.size w X) => h1.below (hb.mono hB1))
  have HA := Lib.hid (fun (X : World) (hb : Below w.heap.size w X) => awake_any (w := X) (hgl.below hb))
  have HN := Lib.hid hn
  have HL0 := Lib.hid hl0
  have HL1 := Lib.hid hl1
  obtain ⟨vp, vn, rfl, hpp, hnn⟩ := hs
  obtain ⟨Ap, cp, rfl, _⟩ := id hpp
  obtain ⟨An, cn, rfl, _⟩ := id hnn
  obtain ⟨A0, c0, rfl, _⟩ := id h0
  obtain ⟨A1, c1, rfl, _⟩ := id h1
  obtain ⟨W1, hW1, r1, z1, b1⟩ := box_any w #[.int .i64 s.iv, .slice Ap s.pts.length cp, .slice An s.notes.length cn] 25
  obtain ⟨W2, hW2, r2, z2, b2⟩ := box_any W1 #[.slice A0 l0.length c0, .slice A1 l1.length c1] 59
  obtain ⟨W3, hW3, r3, z3, b3⟩ := box_any W2 #[.int .u8 p, .int .u8 q] 60
  have b12 := b1.trans (b2.mono b1.size)
  have b123 := b12.trans (b3.mono b12.size)
  have q1 := (b3.block _ (by omega)).trans ((b2.block _ (by omega)).trans r1)
  have q2 := (b3.block _ (by omega)).trans r2
  rw [z1] at q2
  rw [z2, z1] at r3
  have r3 : W3.heap[w.heap.size + 2]? = some (.cells #[.int .u8 p, .int .u8 q] 60) := r3
  have HBY := Lib.hid b123
  have HC : Hid (∀ Z : World, Below W3.heap.size W3 Z → Z.cell? ⟨w.heap.size, 0, none⟩ = some (.int .i64 s.iv) ∧ Z.cell? ⟨w.heap.size, 1, none⟩ = some (.slice Ap s.pts.length cp) ∧ Z.cell? ⟨w.heap.size, 2, none⟩ = some (.slice An s.notes.length cn) ∧
      Z.cell? ⟨w.heap.size + 1, 0, none⟩ = some (.slice A0 l0.length c0) ∧ Z.cell? ⟨w.heap.size + 1, 1, none⟩ = some (.slice A1 l1.length c1) ∧ Z.cell? ⟨w.heap.size + 2, 0, none⟩ = some (.int .u8 p) ∧ Z.cell? ⟨w.heap.size + 2, 1, none⟩ = some (.int .u8 q) ∧ Below w.heap.size w Z) :=
    Lib.hid fun Z h => by
      have j1 := (h.block _ (lt_of_block q1)).trans q1
      have j2 := (h.block _ (lt_of_block q2)).trans q2
      have j3 := (h.block _ (lt_of_block r3)).trans r3
      exact ⟨cellOf j1 0 rfl, cellOf j1 1 rfl, cellOf j1 2 rfl, cellOf j2 0 rfl, cellOf j2 1 rfl, cellOf j3 0 rfl, cellOf j3 1 rfl, HBY.out.trans (h.mono HBY.out.size)⟩
  clear r1 r2 r3 z1 z2 z3 b1 b2 b3 b12 b123 q1 q2 hn hgl hpp hnn h0 h1 hl0 hl1
  go_enter Tryz.func8, Tryz.ntmps8
  go_upto_region 1 with (fail)
  rw [← hW1, ← hW2, ← hW3]
  clear hW1 hW2 hW3
  have hbx : Below W3.heap.size W3 W3 := Below.refl _ _
  obtain ⟨C0, C1, C2, D0, D1, G0, G1, hb⟩ := HC.out _ hbx
  have HV := Lib.hid (fun (Z : World) (h : Below w.heap.size w Z) => valid_any (HSR.out Z h) HN.out (Nat.le_trans hB h.size))
  by_cases hv : errOf s = 0
  · have hd : decide (errOf s = 0) = true := decide_eq_true hv
    rw [hd] at HV
    have hg := good_of_valid hv
    have hT := true_law hg l0 l1
    have HTr := Lib.hid (fun (Z : World) (h : Below w.heap.size w Z) => truth_at (HSR.out Z h) (HX0.out Z h) HL0.out (Nat.le_trans hB h.size) (Nat.le_trans hB0 h.size) (by have := hg.plen; omega))
    have HTo := Lib.hid (fun (Z : World) (h : Below w.heap.size w Z) (vh : Value) (hh : Rd IntAt 1 Z.heap.size Z vh (truthL l0 s.pts.length)) => told_any (HSR.out Z h) hg HN.out (Nat.le_trans hB h.size) hh (Nat.le_refl _) (truthL_len l0 s.pts.length) (fun x hx => truthL_mem hx) (HX1.out Z h) (Nat.le_trans hB1 h.size) HL1.out)
    have HNt : Hid (Named (toldS s (truthL l0 s.pts.length) l1)) := Lib.hid HN.out
    have hiv : (toldS s (truthL l0 s.pts.length) l1).iv = s.iv := rfl
    have htp : (toldS s (truthL l0 s.pts.length) l1).pts.length = s.pts.length := rfl
    clear hd hv hg
    generalize hhh : truthL l0 s.pts.length = h at *
    generalize htt : toldS s h l1 = t at *
    clear hhh htt
    have HIv := Lib.hid hiv
    have HTp := Lib.hid htp
    clear hiv htp
    go_upto_region 4 with (go_at_call 44; (with_reducible refine Calls.mono (HV.out _ hb) ?_); rintro e X ⟨rfl, h4⟩; replace hbx := hbx.trans (h4.mono hbx.size); clear C0 C1 C2 D0 D1 G0 G1 hb h4; obtain ⟨C0, C1, C2, D0, D1, G0, G1, hb⟩ := HC.out _ hbx)
    go_upto_region 5 with (go_at_call 45; (with_reducible refine Calls.mono (HTr.out _ hb) ?_); rintro e X ⟨Ah, ch, rfl, hrh, h4⟩; have HRh := Lib.hid (fun (Z : World) (h : Below X.heap.size X Z) => hrh.below h); clear hrh; replace hbx := hbx.trans (h4.mono hbx.size); clear C0 C1 C2 D0 D1 G0 G1 hb h4; obtain ⟨C0, C1, C2, D0, D1, G0, G1, hb⟩ := HC.out _ hbx; have hbh : Below X.heap.size X X := Below.refl _ _)
    go_upto_region 6 with (first | (go_at_call 46; (with_reducible refine Calls.mono (HTo.out _ hb _ ((HRh.out _ hbh).mono hbh.size)) ?_); rintro e X ⟨v', rfl, ⟨vp', vn', rfl, hp', hn'⟩, h4⟩; obtain ⟨Ap', cp', rfl, _⟩ := id hp'; obtain ⟨An', cn', rfl, _⟩ := id hn'; have HTs := Lib.hid (show RdSh X.heap.size X (.agg #[.int .i64 t.iv, .slice Ap' t.pts.length cp', .slice An' t.notes.length cn']) t from ⟨_, _, rfl, hp', hn'⟩); clear hp' hn'; replace hbx := hbx.trans (h4.mono hbx.size); replace hbh := hbh.trans (h4.mono hbh.size); clear C0 C1 C2 D0 D1 G0 G1 hb h4; obtain ⟨C0, C1, C2, D0, D1, G0, G1, hb⟩ := HC.out _ hbx) | (refine wpList_store_row rfl 25 (.tmp 10) (.tmp 51) rfl X.heap.size #[.int .i64 t.iv, .slice Ap' t.pts.length cp', .slice An' t.notes.length cn'] rfl rfl 25 _ (heap_alloc_new _ _) (by kernel_rfl) rfl (by simp [Value.oneCell']) ?_))
    obtain ⟨Y, hY⟩ : ∃ Y, Y = (X.alloc (.cells #[.int .i64 0, .slice none 0 0, .slice none 0 0] 25)).setRow X.heap.size #[.int .i64 t.iv, .slice Ap' t.pts.length cp', .slice An' t.notes.length cn'] := ⟨_, rfl⟩
    rw [← hY]
    have y1 : Below X.heap.size X Y := by rw [hY]; exact ((Below.refl _ _).alloc (Nat.le_refl _) _).trans (setRow_below _ (Nat.le_refl _))
    have r10 : Y.heap[X.heap.size]? = some (.cells #[.int .i64 t.iv, .slice Ap' t.pts.length cp', .slice An' t.notes.length cn'] 25) := by rw [hY]; exact setRow_heap _ _ _ _ _ _ (heap_alloc_new _ _)
    replace hbx := hbx.trans (y1.mono hbx.size)
    replace hbh := hbh.trans (y1.mono hbh.size)
    clear hY C0 C1 C2 D0 D1 G0 G1 hb
    obtain ⟨C0, C1, C2, D0, D1, G0, G1, hb⟩ := HC.out _ hbx
    have HTY := Lib.hid (fun (Z : World) (h : Below Y.heap.size Y Z) => HTs.out.below (y1.trans (h.mono y1.size)))
    have HLe := Lib.hid (show ∀ Z : World, Below Y.heap.size Y Z → X.heap.size ≤ Z.heap.size from fun Z h => Nat.le_trans y1.size h.size)
    generalize hg10 : X.heap.size = g10 at r10 HLe ⊢
    have HC2 : Hid (∀ Z : World, Below Y.heap.size Y Z → Z.cell? ⟨g10, 0, none⟩ = some (.int .i64 t.iv) ∧ Z.cell? ⟨g10, 1, none⟩ = some (.slice Ap' t.pts.length cp') ∧ Z.cell? ⟨g10, 2, none⟩ = some (.slice An' t.notes.length cn')) :=
      Lib.hid fun Z h => by
        have j1 := (h.block _ (lt_of_block r10)).trans r10
        exact ⟨cellOf j1 0 rfl, cellOf j1 1 rfl, cellOf j1 2 rfl⟩
    have hvt := errOf_good hT.good
    have HF := Lib.hid (fun (Z : World) (h : Below Y.heap.size Y Z) => fits_at hT.fit hvt (HTY.out Z h) HNt.out (by rw [hg10]; exact HLe.out Z h))
    have HH := Lib.hid (fun (Z : World) (h : Below Y.heap.size Y Z) => heights_at hT.op (HTY.out Z h) HNt.out (by rw [hg10]; exact HLe.out Z h))
    have HJ := Lib.hid (fun (Z : World) (h : Below Y.heap.size Y Z) => highest_at hT.op (HTY.out Z h) HNt.out (by rw [hg10]; exact HLe.out Z h))
    have HW := Lib.hid (fun (Z : World) (h : Below Y.heap.size Y Z) => wrong_at hT.wr hvt (HTY.out Z h) HNt.out (by rw [hg10]; exact HLe.out Z h))
    have HD := Lib.hid (fun (Z : World) (h : Below Y.heap.size Y Z) => wider_at hvt (HTY.out Z h) HNt.out (by rw [hg10]; exact HLe.out Z h))
    have HAp := Lib.hid (show ∀ a c : Nat, a < s.pts.length → c < s.pts.length → ∀ Z, Below Y.heap.size Y Z → Calls Tryz.prog 26 #[.agg #[.int .i64 t.iv, .slice Ap' t.pts.length cp', .slice An' t.notes.length cn'], .int .i64 a, .int .i64 c] Z fun e w' => e = .returned (.tuple #[.agg #[.int .i64 (-openM t a c), .int .i64 (openM t c a)], .int .i64 (orderF (-openM t a c) (openM t c a)), .int .i64 0]) ∧ Below Z.heap.size Z w' from fun a c ha hc Z h => by
      have := apart_any a c (HTY.out Z h) HNt.out (by rw [hg10]; exact HLe.out Z h)
      rw [apart_at hT.op (by rw [hT.len]; exact ha) (by rw [hT.len]; exact hc)] at this
      exact this)
    rw [(heights_len hT.op).trans hT.len] at HH
    rw [List.length_nil] at HW
    have HIns := Lib.hid hT.ins
    have HTop := Lib.hid hT.top
    have HApt := Lib.hid hT.apart
    have HBnd := Lib.hid hT.bnd
    have HWd := Lib.hid hT.wd
    have HHl := Lib.hid hT.hlen
    have HOne := Lib.hid hT.one
    have HGet := Lib.hid (fun (i : Nat) (hi : i < s.pts.length) => heights_get hT.op (show i < t.pts.length by rw [hT.len]; exact hi))
    have HLn := Lib.hid ((heights_len hT.op).trans hT.len)
    have HJl := Lib.hid (highest_len hT.op)
    have hb2 : Below Y.heap.size Y Y := Below.refl _ _
    obtain ⟨E0, E1, E2⟩ := HC2.out _ hb2
    clear hT hvt y1 r10 HTs
    generalize heightsF t = l1 at *
    generalize highestF t = l2 at *
    go_upto_region 7 with (go_at_call 21; (with_reducible refine Calls.mono (HF.out _ hb2) ?_); rintro e X ⟨rfl, h4⟩; replace hbx := hbx.trans (h4.mono hbx.size); replace hbh := hbh.trans (h4.mono hbh.size); replace hb2 := hb2.trans (h4.mono hb2.size); clear C0 C1 C2 D0 D1 G0 G1 hb h4; obtain ⟨C0, C1, C2, D0, D1, G0, G1, hb⟩ := HC.out _ hbx; clear E0 E1 E2; obtain ⟨E0, E1, E2⟩ := HC2.out _ hb2)
    go_upto_region 8 with (go_at_call 23; (with_reducible refine Calls.mono (HH.out _ hb2) ?_); rintro e X ⟨A2, c2, rfl, hr2, h4⟩; have HR2 := Lib.hid (fun (Z : World) (h : Below X.heap.size X Z) => hr2.below h); clear hr2; replace hbx := hbx.trans (h4.mono hbx.size); replace hbh := hbh.trans (h4.mono hbh.size); replace hb2 := hb2.trans (h4.mono hb2.size); clear C0 C1 C2 D0 D1 G0 G1 hb h4; obtain ⟨C0, C1, C2, D0, D1, G0, G1, hb⟩ := HC.out _ hbx; have hb3 : Below X.heap.size X X := Below.refl _ _; clear E0 E1 E2; obtain ⟨E0, E1, E2⟩ := HC2.out _ hb2)
    go_upto_region 9 with (go_at_call 28; (with_reducible refine Calls.mono (HJ.out _ hb2) ?_); rintro e X ⟨A3, c3, rfl, hr3, h4⟩; have HR3 := Lib.hid (fun (Z : World) (h : Below X.heap.size X Z) => hr3.below h); clear hr3; replace hbx := hbx.trans (h4.mono hbx.size); replace hbh := hbh.trans (h4.mono hbh.size); replace hb2 := hb2.trans (h4.mono hb2.size); replace hb3 := hb3.trans (h4.mono hb3.size); clear C0 C1 C2 D0 D1 G0 G1 hb h4; obtain ⟨C0, C1, C2, D0, D1, G0, G1, hb⟩ := HC.out _ hbx; have hb4 : Below X.heap.size X X := Below.refl _ _; clear E0 E1 E2; obtain ⟨E0, E1, E2⟩ := HC2.out _ hb2)
    go_upto_region 10 with (go_at_call 33; (with_reducible refine Calls.mono (HW.out _ hb2) ?_); rintro e X ⟨A4, c4, rfl, hr4, h4⟩; replace hbx := hbx.trans (h4.mono hbx.size); replace hbh := hbh.trans (h4.mono hbh.size); replace hb2 := hb2.trans (h4.mono hb2.size); replace hb3 := hb3.trans (h4.mono hb3.size); replace hb4 := hb4.trans (h4.mono hb4.size); clear C0 C1 C2 D0 D1 G0 G1 hb h4; obtain ⟨C0, C1, C2, D0, D1, G0, G1, hb⟩ := HC.out _ hbx; clear E0 E1 E2; obtain ⟨E0, E1, E2⟩ := HC2.out _ hb2)
    go_upto_region 11 with (go_at_call 35; (with_reducible refine Calls.mono (HD.out _ hb2) ?_); rintro e X ⟨m1, rfl, hw1, h4⟩; have Wd := Lib.hid hw1; clear hw1; replace hbx := hbx.trans (h4.mono hbx.size); replace hbh := hbh.trans (h4.mono hbh.size); replace hb2 := hb2.trans (h4.mono hb2.size); replace hb3 := hb3.trans (h4.mono hb3.size); replace hb4 := hb4.trans (h4.mono hb4.size); clear C0 C1 C2 D0 D1 G0 G1 hb h4; obtain ⟨C0, C1, C2, D0, D1, G0, G1, hb⟩ := HC.out _ hbx; clear E0 E1 E2; obtain ⟨E0, E1, E2⟩ := HC2.out _ hb2)
    obtain rfl := HWd.out _ Wd.out
    have hn1 := HOne.out
    generalize hnn : s.pts.length = n at *
    go_wp2
    clear E0 E1 E2 C0 C1 C2 D0 D1 G0 G1 hb
    go_loopw [21, 22] (fun lv i wr => ∃ (k : Nat) (best : Int), k ≤ n ∧ i = .int .i64 k ∧ lv = .int .i64 best ∧ 0 ≤ best ∧ best ≤ 9000 ∧ (∀ j, j < k → h[j]?.getD 0 ≤ best) ∧ Below X.heap.size X wr) (fun _ i _ => n - (intOf i).toNat)
    case atStart => exact ⟨0, 0, Nat.zero_le _, rfl, rfl, Int.le_refl _, by decide, fun j hj => by omega, Below.refl _ _⟩
    case round =>
      obtain ⟨k, best, hk, rfl, rfl, hb0, hb9, hall, hq2⟩ := hrel
      have HQ := Lib.hid hq2
      have HAll := Lib.hid hall
      clear hall
      by_cases hlt : k < n
      · obtain ⟨adh, had, _, ph⟩ := (HRh.out wr (hbh.trans (hq2.mono hbh.size))).int (i := k) (by rw [HHl.out]; exact hlt)
        subst had
        obtain ⟨ad2, had, _, p0, p1⟩ := (HR2.out wr (hb3.trans (hq2.mono hb3.size))).span (i := k) (by rw [HLn.out]; exact hlt)
        subst had
        rw [HGet.out k hlt] at p0 p1
        have hub := HBnd.out k hlt
        have HIn := Lib.hid (fun (Z : World) => inside_any (w := Z) (h[k]?.getD 0) (- openM t k 8) (openM t 8 k))
        rw [HIns.out k hlt] at HIn
        simp only at p0 p1
        generalize hu : h[k]?.getD 0 = u at *
        have HU := Lib.hid hu
        generalize - openM t k 8 = lo at *
        generalize openM t 8 k = hi at *
        clear hu
        go_upto_region 18 with (fail)
        have f0 := Aft.cell ph
        have f1 := Aft.cell p0
        have f2 := Aft.cell p1
        clear ph p0 p1
        refine wp_region_aft (by kernel_rfl) (by kernel_rfl) ?_
        repeat (first | go_big_quiet_step ((go_at_call 47; exact Aft.call (HIn.out _))) | quiet_step ((go_at_call 47; exact Aft.call (HIn.out _))))
        refine wpQuiet_nil ?_
        rintro _ ⟨⟨wx, hbx2⟩, rfl⟩
        have HQ2 := Lib.hid (HQ.out.trans (hbx2.mono HQ.out.size))
        clear hbx2 f0 f1 f2 hq2
        go_wp2
        go_roundw
        case rel => exact ⟨k + 1, max best u, by omega, by go_num, rfl, by omega, by omega, fun j hj => by
          by_cases e : j = k
          · rw [e, HU.out]; omega
          · have := HAll.out j (by omega); omega, HQ2.out⟩
        case measure => simp [intOf]; omega
      · obtain rfl : n = k := by omega
        replace hbx := hbx.trans (hq2.mono hbx.size)
        replace hbh := hbh.trans (hq2.mono hbh.size)
        replace hb2 := hb2.trans (hq2.mono hb2.size)
        replace hb4 := hb4.trans (hq2.mono hb4.size)
        clear hb3 hq2 HQ hlt hk
        go_wp2
        go_loopw [23] (fun i wr2 => ∃ k : Nat, k ≤ n ∧ i = .int .i64 k ∧ Qt wr wr2) (fun i _ => n - (intOf i).toNat)
        case atStart => exact ⟨0, Nat.zero_le _, rfl, Qt.refl _⟩
        case round =>
          obtain ⟨k, hk, rfl, hq3⟩ := hrel
          have HQ := Lib.hid hq3
          by_cases hlt : k < n
          · obtain ⟨adh, had, _, ph⟩ := (HRh.out wr (hbh.trans (hq3.below _))).int (i := k) (by rw [HHl.out]; exact hlt)
            subst had
            have HTk := Lib.hid (HTop.out k hlt)
            have HHas := Lib.hid (has_any (HR3.out wr (hb4.trans (hq3.below _))) (Nat.le_trans HJl.out (by omega)) (k : Int))
            have HAk := Lib.hid HAll.out
            generalize hu : h[k]?.getD 0 = u at *
            have HU := Lib.hid hu
            clear hu hq3
            by_cases hub : u = best
            · have e1 : (u == best) = true := by simp [hub]
              have hmem : (k : Int) ∈ l2 := HTk.out fun q hq => by have := HAk.out q hq; omega
              rw [decide_eq_true hmem] at HHas
              clear hmem hub
              go_wp2_with (go_at_call 48; refine HHas.out.mono ?_; rintro e wx ⟨rfl, hwx⟩; subst wx)
              go_roundw
              case rel => exact ⟨k + 1, by omega, by go_num, HQ.out⟩
              case measure => simp [intOf]; omega
            · have e1 : (u == best) = false := by simpa using hub
              clear hub
              go_wp2
              go_roundw
              case rel => exact ⟨k + 1, by omega, by go_num, HQ.out⟩
              case measure => simp [intOf]; omega
          · obtain rfl : n = k := by omega
            replace hbx := hbx.trans (hq3.below _)
            replace hbh := hbh.trans (hq3.below _)
            replace hb2 := hb2.trans (hq3.below _)
            clear hb4 hq3 HQ hlt hk
            obtain ⟨C0, C1, C2, D0, D1, G0, G1, hb⟩ := HC.out _ hbx
            have hn0 : 0 < n := hn1.1
            go_upto_region 25 with (fail)
            go_quiet (fail)
            go_upto_region 26 with (fail)
            rw [show ((p : Int) % (n : Int)) = ((p % n : Nat) : Int) from rfl, show ((q : Int) % (n : Int)) = ((q % n : Nat) : Int) from rfl]
            obtain ⟨Z, hZ⟩ : ∃ Z, Z = wr.drewN nq := ⟨_, rfl⟩
            rw [← hZ]
            have hzq : ∀ B, Below B wr Z := fun B => by rw [hZ]; exact below_drewN (Below.refl _ _) nq
            clear hZ
            obtain ⟨a, hea⟩ : ∃ a, p % n = a := ⟨_, rfl⟩
            obtain ⟨c, hec⟩ : ∃ c, q % n = c := ⟨_, rfl⟩
            have ha : a < n := by rw [← hea]; exact Nat.mod_lt _ hn0
            have hc : c < n := by rw [← hec]; exact Nat.mod_lt _ hn0
            rw [hea, hec]
            clear hea hec
            replace hbx := hbx.trans (hzq _)
            replace hbh := hbh.trans (hzq _)
            replace hb2 := hb2.trans (hzq _)
            clear C0 C1 C2 D0 D1 G0 G1 hb hzq
            obtain ⟨C0, C1, C2, D0, D1, G0, G1, hb⟩ := HC.out _ hbx
            obtain ⟨E0, E1, E2⟩ := HC2.out _ hb2
            have P1 := Lib.hid (HAp.out a c ha hc)
            have hin := HApt.out a c ha hc
            clear HAp HApt HTop HAll
            generalize ho : orderF (-openM t a c) (openM t c a) = o at *
            generalize -openM t a c = lo at *
            generalize openM t c a = hi at *
            have hba := HBnd.out a ha
            have hbc := HBnd.out c hc
            have HIn := Lib.hid (fun (Z : World) => inside_any (w := Z) (h[a]?.getD 0 - h[c]?.getD 0) lo hi)
            rw [inB_iff.2 hin] at HIn
            go_upto_region 27 with (go_at_call 26; (with_reducible refine Calls.mono (P1.out _ hb2) ?_); rintro e X ⟨rfl, h4⟩; replace hbx := hbx.trans (h4.mono hbx.size); replace hbh := hbh.trans (h4.mono hbh.size); replace hb2 := hb2.trans (h4.mono hb2.size); clear C0 C1 C2 D0 D1 G0 G1 hb h4; obtain ⟨C0, C1, C2, D0, D1, G0, G1, hb⟩ := HC.out _ hbx)
            obtain ⟨U1, hU1, rU1, zU1, bU1⟩ := box_any X #[.int .i64 lo, .int .i64 hi] 40
            rw [← hU1]
            replace hbx := hbx.trans (bU1.mono hbx.size)
            replace hbh := hbh.trans (bU1.mono hbh.size)
            clear hU1 zU1 bU1 C0 C1 C2 D0 D1 G0 G1 E0 E1 E2 hb hb2
            obtain ⟨C0, C1, C2, D0, D1, G0, G1, hb⟩ := HC.out _ hbx
            generalize X.heap.size = g1 at rU1 ⊢
            have v1 := cellOf rU1 0 (v := .int .i64 lo) rfl
            have v2 := cellOf rU1 1 (v := .int .i64 hi) rfl
            clear rU1
            obtain ⟨ada, hada, _, pa⟩ := (HRh.out U1 hbh).int (i := a) (by rw [HHl.out]; exact ha)
            subst hada
            obtain ⟨adc, hadc, _, pc⟩ := (HRh.out U1 hbh).int (i := c) (by rw [HHl.out]; exact hc)
            cases hadc
            generalize h[a]?.getD 0 = ua at *
            generalize h[c]?.getD 0 = uc at *
            have w1 : IntKind.i64.wrap (ua - uc) = ua - uc := IntWalk.i64_in _ (by omega)
            go_upto_region 27 with (fail)
            go_quiet (fail)
            go_upto_region 28 with (fail)
            obtain ⟨Z4, hZ4⟩ : ∃ Z4, Z4 = U1.drewN nq := ⟨_, rfl⟩
            rw [← hZ4]
            have hzq : ∀ B, Below B U1 Z4 := fun B => by rw [hZ4]; exact below_drewN (Below.refl _ _) nq
            clear hZ4 w1 pa pc
            replace v1 := ((hzq _).cell (cell_lt v1)).trans v1
            replace v2 := ((hzq _).cell (cell_lt v2)).trans v2
            replace hbx := hbx.trans (hzq _)
            clear C0 C1 C2 D0 D1 G0 G1 hb hzq hbh
            obtain ⟨C0, C1, C2, D0, D1, G0, G1, hb⟩ := HC.out _ hbx
            generalize ua - uc = d at *
            unfold orderF at ho
            by_cases h1 : lo = 0 ∧ hi = 0
            · rw [if_pos h1] at ho
              have e1 : (d == 0) = true := by simp; omega
              subst ho
              clear h1 hin
              go_wp2_with (first | (go_at_call 47; (with_reducible refine Calls.mono (HIn.out _) ?_); rintro e X ⟨rfl, h4⟩; replace hbx := hbx.trans (h4.mono hbx.size); clear C0 C1 C2 D0 D1 G0 G1 hb h4; obtain ⟨C0, C1, C2, D0, D1, G0, G1, hb⟩ := HC.out _ hbx) | (go_at_call 20; (with_reducible refine Calls.mono (HA.out _ hb) ?_); rintro e X ⟨rfl, h4⟩; replace hbx := hbx.trans (h4.mono hbx.size); clear C0 C1 C2 D0 D1 G0 G1 hb h4; obtain ⟨C0, C1, C2, D0, D1, G0, G1, hb⟩ := HC.out _ hbx))
              go_ret
              exact ⟨rfl, hb⟩
            · rw [if_neg h1] at ho
              by_cases h2 : 0 < lo
              · rw [if_pos h2] at ho
                have e1 : decide (d > 0) = true := decide_eq_true (by omega)
                have e2 : decide (0 < d) = true := decide_eq_true (by omega)
                subst ho
                clear h1 h2 hin
                go_wp2_with (first | (go_at_call 47; (with_reducible refine Calls.mono (HIn.out _) ?_); rintro e X ⟨rfl, h4⟩; replace hbx := hbx.trans (h4.mono hbx.size); clear C0 C1 C2 D0 D1 G0 G1 hb h4; obtain ⟨C0, C1, C2, D0, D1, G0, G1, hb⟩ := HC.out _ hbx) | (go_at_call 20; (with_reducible refine Calls.mono (HA.out _ hb) ?_); rintro e X ⟨rfl, h4⟩; replace hbx := hbx.trans (h4.mono hbx.size); clear C0 C1 C2 D0 D1 G0 G1 hb h4; obtain ⟨C0, C1, C2, D0, D1, G0, G1, hb⟩ := HC.out _ hbx))
                go_ret
                exact ⟨rfl, hb⟩
              · rw [if_neg h2] at ho
                by_cases h3 : hi < 0
                · rw [if_pos h3] at ho
                  have e1 : decide (d < 0) = true := decide_eq_true (by omega)
                  subst ho
                  clear h1 h2 h3 hin
                  go_wp2_with (first | (go_at_call 47; (with_reducible refine Calls.mono (HIn.out _) ?_); rintro e X ⟨rfl, h4⟩; replace hbx := hbx.trans (h4.mono hbx.size); clear C0 C1 C2 D0 D1 G0 G1 hb h4; obtain ⟨C0, C1, C2, D0, D1, G0, G1, hb⟩ := HC.out _ hbx) | (go_at_call 20; (with_reducible refine Calls.mono (HA.out _ hb) ?_); rintro e X ⟨rfl, h4⟩; replace hbx := hbx.trans (h4.mono hbx.size); clear C0 C1 C2 D0 D1 G0 G1 hb h4; obtain ⟨C0, C1, C2, D0, D1, G0, G1, hb⟩ := HC.out _ hbx))
                  go_ret
                  exact ⟨rfl, hb⟩
                · rw [if_neg h3] at ho
                  subst ho
                  clear h1 h2 h3 hin
                  go_wp2_with (first | (go_at_call 47; (with_reducible refine Calls.mono (HIn.out _) ?_); rintro e X ⟨rfl, h4⟩; replace hbx := hbx.trans (h4.mono hbx.size); clear C0 C1 C2 D0 D1 G0 G1 hb h4; obtain ⟨C0, C1, C2, D0, D1, G0, G1, hb⟩ := HC.out _ hbx) | (go_at_call 20; (with_reducible refine Calls.mono (HA.out _ hb) ?_); rintro e X ⟨rfl, h4⟩; replace hbx := hbx.trans (h4.mono hbx.size); clear C0 C1 C2 D0 D1 G0 G1 hb h4; obtain ⟨C0, C1, C2, D0, D1, G0, G1, hb⟩ := HC.out _ hbx))
                  go_ret
                  exact ⟨rfl, hb⟩
  · have hd : decide (errOf s = 0) = false := decide_eq_false hv
    obtain ⟨er, her⟩ : ∃ er, errOf s = er := ⟨_, rfl⟩
    have hne : (er != 0) = true := by rw [← her]; simpa using hv
    have heo : openE s = er := (openE_err hv).trans her
    have H1 := Lib.hid (fun (Z : World) (h : Below w.heap.size w Z) => heights_at heo (HSR.out Z h) HN.out (Nat.le_trans hB h.size))
    rw [hd] at HV
    clear hd hv her heo
    go_upto_region 3 with (first | (go_at_call 44; (with_reducible refine Calls.mono (HV.out _ hb) ?_); rintro e X ⟨rfl, h4⟩; replace hbx := hbx.trans (h4.mono hbx.size); clear C0 C1 C2 D0 D1 G0 G1 hb h4; obtain ⟨C0, C1, C2, D0, D1, G0, G1, hb⟩ := HC.out _ hbx) | (go_at_call 23; (with_reducible refine Calls.mono (H1.out _ hb) ?_); rintro e X ⟨Ah, ch, rfl, hr1, h4⟩; replace hbx := hbx.trans (h4.mono hbx.size); clear C0 C1 C2 D0 D1 G0 G1 hb h4; obtain ⟨C0, C1, C2, D0, D1, G0, G1, hb⟩ := HC.out _ hbx))
    go_wp2_with (go_at_call 20; (with_reducible refine Calls.mono (HA.out _ hb) ?_); rintro e X ⟨rfl, h4⟩; replace hbx := hbx.trans (h4.mono hbx.size); clear C0 C1 C2 D0 D1 G0 G1 hb h4; obtain ⟨C0, C1, C2, D0, D1, G0, G1, hb⟩ := HC.out _ hbx)
    go_ret
    exact ⟨rfl, hb⟩
end Go.Proofs.YtajdgdelhlfniaaGreatDoor
