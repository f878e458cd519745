/- Walks of the reference of the layer sheet: Read. -/
import Derived.Test.YtajdgdelhlfniaaGreatDoorH40
set_option linter.unusedSimpArgs false
set_option linter.unusedVariables false
namespace Go.Proofs.YtajdgdelhlfniaaGreatDoor
open Go.RowKit

theorem renter86 : ∀ args w, (callFunc 86 args).run Tryz.prog w = .ok (.enter 86 args) w := enters_of Tryz.func86 (by kernel_rfl) rfl
theorem renter87 : ∀ args w, (callFunc 87 args).run Tryz.prog w = .ok (.enter 87 args) w := enters_of Tryz.func87 (by kernel_rfl) rfl
theorem renter88 : ∀ args w, (callFunc 88 args).run Tryz.prog w = .ok (.enter 88 args) w := enters_of Tryz.func88 (by kernel_rfl) rfl

set_option maxRecDepth 100000 in
set_option maxHeartbeats 4000000 in
theorem rread_any {t : ByteArray} (ht : t.size ≤ 9223372036854775807) (w : World) :
    Calls Tryz.prog 40 #[.string t] w fun e w' => ∃ v, e = .returned (.tuple #[v, .int .i64 (rreadF t).2]) ∧ RdSh w'.heap.size w' v (rreadF t).1 ∧ Below w.heap.size w w' := by
  by_cases hl : 1500 < t.size
  · have hlb : decide ((t.size : Int) > 1500) = true := decide_eq_true (by omega)
    have hlb2 : decide ((1500 : Int) < (t.size : Int)) = true := decide_eq_true (by omega)
    have HF := Lib.hid (show rreadF t = (zeroS, 3) by unfold rreadF; rw [if_pos hl])
    go_enter Tryz.func40, Tryz.ntmps40
    go_wp2
    exact bodyPost_ret (results40 (heap_alloc_new _ _) rfl rfl) rfl ⟨_, by rw [HF.out], by rw [HF.out]; exact ⟨_, _, rfl, Rd.nil _ _, Rd.nil _ _⟩, (Below.refl _ _).alloc (Nat.le_refl _) _⟩
  · have hlb : decide ((t.size : Int) > 1500) = false := decide_eq_false (by omega)
    have hlb2 : decide ((1500 : Int) < (t.size : Int)) = false := decide_eq_false (by omega)
    have hsz : t.size ≤ 1500 := by omega
    obtain ⟨W1, hW1, r1, z1, b1⟩ := box_any w #[.int .i64 0, .slice none 0 0, .slice none 0 0] 25
    have HR1 := Lib.hid r1
    have HB1 := Lib.hid b1
    have HZ := Lib.hid z1
    have HC1 := Lib.hid (cut_any t 10 (by omega))
    obtain ⟨hl1, hl2⟩ := cutB_len t 10
    have HH : Hid (headOf t = cutB (wd (cutB t 10) 0) 32) := Lib.hid rfl
    have HS0 : Hid (startS t = ⟨signedF (wd (headOf t) 1), [], []⟩) := Lib.hid rfl
    have HWs := Lib.hid (fun i => Nat.le_trans (wd_cut (t := t) (c := 10) i) hsz)
    have HMl := Lib.hid (mids_len t)
    have HMa := Lib.hid (fun k (hk : k < (midsOf t).length) => mids_at hk)
    have HF := Lib.hid (show rreadF t = if (headOf t).length ≠ 2 then (zeroS, 6) else endF t (rowsF (startS t) (midsOf t)) by unfold rreadF; rw [if_neg hl])
    have HhL := Lib.hid (show (headOf t).length ≤ 1501 from Nat.le_trans (cutB_len _ _).2 (by have := HWs.out 0; omega))
    have HhW := Lib.hid (show (wd (headOf t) 1).size ≤ 1000000 from Nat.le_trans (wd_cut 1) (by have := HWs.out 0; omega))
    clear r1 b1 z1
    generalize cutB t 10 = rows at *
    have hl3 : rows.length ≤ 1501 := by omega
    have HC2 := Lib.hid (cut_any (wd rows 0) 32 (by have := HWs.out 0; omega))
    rw [← HH.out] at HC2
    generalize headOf t = hd at *
    go_enter Tryz.func40, Tryz.ntmps40
    go_upto_region 3 with (fail)
    rw [← hW1]
    clear hW1
    go_upto_region 4 with (go_at_call 86; refine (HC1.out _).mono ?_; rintro e X1 ⟨gr, cr, rfl, hrd, hb1⟩)
    have HRd := Lib.hid hrd
    have HX1 := Lib.hid (HB1.out.trans (hb1.mono HB1.out.size))
    have HR2 := Lib.hid ((hb1.block _ (lt_of_block HR1.out)).trans HR1.out)
    have c0 := word_at hrd (i := 0) (by omega)
    clear hrd hb1
    have q1 : 0 < rows.length := by omega
    go_upto_region 5 with (go_at_call 86; refine (HC2.out _).mono ?_; rintro e X2 ⟨gh, ch, rfl, hrd2, hb2⟩)
    have HRh := Lib.hid hrd2
    have HX2 := Lib.hid (HX1.out.trans (hb2.mono HX1.out.size))
    have HX12 := Lib.hid hb2
    have HR3 := Lib.hid ((hb2.block _ (lt_of_block HR2.out)).trans HR2.out)
    clear hrd2 hb2 c0
    by_cases h2 : hd.length = 2
    · have hne : (((hd.length : Nat) : Int) != 2) = false := by simp [h2]
      have HF2 := Lib.hid (show rreadF t = endF t (rowsF (startS t) (midsOf t)) by rw [HF.out, if_neg (by simp [h2])])
      go_upto_region 7 with (fail)
      have c1 := word_at HRh.out (i := 1) (by omega)
      have HSg := Lib.hid (fun Z => signed_any (wd hd 1) HhW.out Z)
      have HS1 : Hid (startS t = ⟨signedF (wd hd 1), [], []⟩) := HS0
      have q2 : 1 < hd.length := by omega
      have q3 : ¬ ((hd.length : Int) ≤ 1) := by omega
      clear HS0
      generalize signedF (wd hd 1) = sg at *
      generalize wd hd 1 = x1 at *
      go_upto_region 8 with (first | (go_at_call 87; refine (HSg.out X2).mono ?_; rintro e wz ⟨rfl, hz⟩; subst wz) | (refine wpList_store_row rfl 25 (.tmp 6) (.tmp 31) rfl X2.heap.size #[.int .i64 sg, .slice none 0 0, .slice none 0 0] rfl rfl 25 _ (heap_alloc_new _ _) (by kernel_rfl) rfl (by simp [Value.oneCell']) ?_))
      obtain ⟨X3, hX3⟩ : ∃ X3, X3 = (X2.alloc (.cells #[.int .i64 0, .slice none 0 0, .slice none 0 0] 25)).setRow X2.heap.size #[.int .i64 sg, .slice none 0 0, .slice none 0 0] := ⟨_, rfl⟩
      rw [← hX3]
      have r3 : X3.heap[X2.heap.size]? = some (.cells #[.int .i64 sg, .slice none 0 0, .slice none 0 0] 25) := by rw [hX3]; exact setRow_heap _ _ _ _ _ _ (heap_alloc_new _ _)
      have b3 : Below X2.heap.size X2 X3 := by rw [hX3]; exact ((Below.refl _ _).alloc (Nat.le_refl _) _).trans (setRow_below _ (Nat.le_refl _))
      have HR4 := Lib.hid r3
      have HB4 := Lib.hid b3
      have HW0 : Hid (∀ Z : World, Below X2.heap.size X2 Z → Z.heap[w.heap.size]? = some (.cells #[.int .i64 0, .slice none 0 0, .slice none 0 0] 25) ∧ Below w.heap.size w Z) := Lib.hid fun Z h => ⟨(h.block _ (lt_of_block HR3.out)).trans HR3.out, HX2.out.trans (h.mono HX2.out.size)⟩
      have HRows : Hid (∀ (Z : World) (i : Nat), Below X2.heap.size X2 Z → i < rows.length → Z.cell? ⟨gr, i, none⟩ = some (.string (wd rows i))) := Lib.hid fun Z i h hi => word_at (HRd.out.below (HX12.out.trans (h.mono HX12.out.size))) hi
      clear hX3 r3 b3 c1 h2
      go_wp2
      go_loopw [7] (fun i wr => ∃ (j k : Nat) (sk : ShR) (A1 A2 : Option Addr) (c1 c2 : Nat), j = k + 1 ∧ i = .int .i64 j ∧ k ≤ (midsOf t).length ∧ rowsF (startS t) ((midsOf t).take k) = some sk ∧ RowsB k sk ∧ wr.heap[X2.heap.size]? = some (.cells #[.int .i64 sk.iv, .slice A1 sk.pts.length c1, .slice A2 sk.notes.length c2] 25) ∧ RdSh wr.heap.size wr (.agg #[.int .i64 sk.iv, .slice A1 sk.pts.length c1, .slice A2 sk.notes.length c2]) sk ∧ Below X2.heap.size X2 wr) (fun i _ => rows.length - (intOf i).toNat)
      case atStart => exact ⟨1, 0, ⟨sg, [], []⟩, none, none, 0, 0, rfl, rfl, Nat.zero_le _, by rw [HS1.out]; rfl, ⟨Nat.le_refl _, Nat.le_refl _, fun p hp => by cases hp⟩, HR4.out, ⟨_, _, rfl, Rd.nil _ _, Rd.nil _ _⟩, HB4.out⟩
      case round =>
        obtain ⟨j, k, sk, A1, A2, c1, c2, hjk, rfl, hk, hrows, hrb, hrow, hsh, hbx⟩ := hrel
        have HRow := Lib.hid hrow
        have HSh := Lib.hid hsh
        have HRb := Lib.hid hrb
        have HRs := Lib.hid hrows
        have HJk := Lib.hid hjk
        have hk1 : k ≤ 1501 := by have := HMl.out; omega
        have hp9 : sk.pts.length ≤ 1501 := Nat.le_trans hrb.pts hk1
        have hn9 : sk.notes.length ≤ 1501 := Nat.le_trans hrb.nts hk1
        have hj9 : j ≤ 1502 := by omega
        have hbz : Below wr.heap.size wr wr := Below.refl _ _
        have P0 := Lib.hid (cellOf hrow 0 (v := .int .i64 sk.iv) rfl)
        have P1 := Lib.hid (cellOf hrow 1 (v := .slice A1 sk.pts.length c1) rfl)
        have P2 := Lib.hid (cellOf hrow 2 (v := .slice A2 sk.notes.length c2) rfl)
        have w1 : IntKind.i64.wrap ((j : Int) + 1) = (j : Int) + 1 := IntWalk.i64_in _ (by omega)
        clear hrow hsh hrb hrows hbz
        by_cases hlt : j + 1 < rows.length
        · have hkm : k < (midsOf t).length := by have := HMl.out; omega
          have HNx := Lib.hid (rowsF_next hkm HRs.out)
          have HM1 := HMa.out k hkm
          have hxz := HWs.out j
          rw [← HJk.out] at HM1
          have Qi := Lib.hid (HRows.out _ j hbx (by omega))
          generalize wd rows j = x at *
          have HCx : Hid (∀ Z, Calls Tryz.prog 86 #[.string x, .int .u8 32] Z fun e w' => ∃ g cp, e = .returned (.slice (some ⟨g, 0, none⟩) (cutB x 32).length cp) ∧ Rd StrAt 1 w'.heap.size w' (.slice (some ⟨g, 0, none⟩) (cutB x 32).length cp) (cutB x 32) ∧ Below Z.heap.size Z w') := Lib.hid (fun Z => cut_any x 32 (by omega) Z)
          obtain ⟨hw1, hw2⟩ := cutB_len x 32
          have HWz := Lib.hid (fun y (hy : y ∈ cutB x 32) => Nat.le_trans (cutB_small hy) hxz)
          rw [HM1] at HNx
          clear HM1
          generalize cutB x 32 = ws at *
          have HBx := Lib.hid hbx
          have hlj : ¬ ((rows.length : Int) ≤ j) := by omega
          have hlj2 : j < rows.length := by omega
          clear hjk
          go_upto_region 11 with (fail)
          refine wp_region_ghost (T40I wr sk ws (fun jj => ([.agg #[.int .i64 sk.iv, .slice A1 sk.pts.length c1, .slice A2 sk.notes.length c2], .slice (some ⟨gr, 0, none⟩) rows.length cr, .int .i64 j, .pointer (some ⟨gr, j, none⟩), .string x, undef, undef, undef, undef, .bool (rowF sk ws).isSome, undef, undef, .bool (rowF sk ws).isSome] : List Value).getD jj undef)) (by kernel_rfl) (by kernel_rfl) T40I.start ?_ ?_
          · refine ⟨?_, ?_, ?_, ?_, ?_, ?_, ?_, ?_, ?_, ?_, ?_, ?_, ?_, trivial⟩
            all_goals
              intro L vs X b hL hw hcl hI hf
            · have n11 : L 11 = false := not_yet hcl 11 hL rfl (by kernel_rfl)
              have hG := hI.go n11
              have hb := hG.bel
              have e6 := hf.old 6 (by kernel_rfl)
              have qP0 := (hb.cell (cell_lt P0.out)).trans P0.out
              have qP1 := (hb.cell (cell_lt P1.out)).trans P1.out
              have qP2 := (hb.cell (cell_lt P2.out)).trans P2.out
              refine wp_of_run (v := .agg #[.int .i64 sk.iv, .slice A1 sk.pts.length c1, .slice A2 sk.notes.length c2]) (w' := X) (by unfold execOp; go_simp) ?_
              exact hI.step n11 (by omega) (by omega) (by omega) (by omega) (Below.refl _ _) rfl
            · have n11 : L 11 = false := not_yet hcl 11 hL rfl (by kernel_rfl)
              have hG := hI.go n11
              have hb := hG.bel
              have e4 := hf.old 4 (by kernel_rfl)
              refine wp_of_run (v := .slice (some ⟨gr, 0, none⟩) rows.length cr) (w' := X) (by unfold execOp; go_simp) ?_
              exact hI.step n11 (by omega) (by omega) (by omega) (by omega) (Below.refl _ _) rfl
            · have n11 : L 11 = false := not_yet hcl 11 hL rfl (by kernel_rfl)
              have hG := hI.go n11
              have hb := hG.bel
              have e7 := hf.old 7 (by kernel_rfl)
              refine wp_of_run (v := .int .i64 j) (w' := X) (by unfold execOp; go_simp) ?_
              exact hI.step n11 (by omega) (by omega) (by omega) (by omega) (Below.refl _ _) rfl
            · have n11 : L 11 = false := not_yet hcl 11 hL rfl (by kernel_rfl)
              have hG := hI.go n11
              have hb := hG.bel
              have h1 : L 1 = true := done_of hw 1 (by kernel_rfl)
              have e41 : b.tmps[41]?.getD undef = .slice (some ⟨gr, 0, none⟩) rows.length cr := (hf.new 1 41 rfl h1 (by simp)).trans (hG.fs 1 h1)
              have h2 : L 2 = true := done_of hw 2 (by kernel_rfl)
              have e42 : b.tmps[42]?.getD undef = .int .i64 j := (hf.new 2 42 rfl h2 (by simp)).trans (hG.fs 2 h2)
              refine wp_of_run (v := .pointer (some ⟨gr, j, none⟩)) (w' := X) (by unfold execOp; go_simp) ?_
              exact hI.step n11 (by omega) (by omega) (by omega) (by omega) (Below.refl _ _) rfl
            · have n11 : L 11 = false := not_yet hcl 11 hL rfl (by kernel_rfl)
              have hG := hI.go n11
              have hb := hG.bel
              have h3 : L 3 = true := done_of hw 3 (by kernel_rfl)
              have e43 : b.tmps[43]?.getD undef = .pointer (some ⟨gr, j, none⟩) := (hf.new 3 43 rfl h3 (by simp)).trans (hG.fs 3 h3)
              have qQi := (hb.cell (cell_lt Qi.out)).trans Qi.out
              refine wp_of_run (v := .string x) (w' := X) (by unfold execOp; go_simp) ?_
              exact hI.step n11 (by omega) (by omega) (by omega) (by omega) (Below.refl _ _) rfl
            · have n11 : L 11 = false := not_yet hcl 11 hL rfl (by kernel_rfl)
              have hG := hI.go n11
              have hb := hG.bel
              have h4 : L 4 = true := done_of hw 4 (by kernel_rfl)
              have e44 : b.tmps[44]?.getD undef = .string x := (hf.new 4 44 rfl h4 (by simp)).trans (hG.fs 4 h4)
              refine wp_of_call (f := 86) (args := #[.string x, .int .u8 32]) (run_call_clo (.func 86) _ _ rfl (c := #[]) rfl renter86 (by simp [eval_cst40, eval_tmp e44])) ?_
              refine (HCx.out X).mono ?_
              rintro e wz ⟨g, cp, rfl, hrd, hbz⟩
              exact ⟨_, rfl, hI.step n11 (by omega) (by omega) (by omega) (by omega) hbz ⟨g, cp, rfl, hrd⟩⟩
            · have n11 : L 11 = false := not_yet hcl 11 hL rfl (by kernel_rfl)
              have hG := hI.go n11
              have hb := hG.bel
              have h0 : L 0 = true := done_of hw 0 (by kernel_rfl)
              have e40 : b.tmps[40]?.getD undef = .agg #[.int .i64 sk.iv, .slice A1 sk.pts.length c1, .slice A2 sk.notes.length c2] := (hf.new 0 40 rfl h0 (by simp)).trans (hG.fs 0 h0)
              have h5 : L 5 = true := done_of hw 5 (by kernel_rfl)
              have e45 : b.tmps[45]?.getD undef = vs 5 := hf.new 5 45 rfl h5 (by simp)
              obtain ⟨g5, c5, q5, hr5⟩ := hG.fs 5 h5
              rw [q5] at e45
              refine wp_of_call (f := 88) (args := #[.agg #[.int .i64 sk.iv, .slice A1 sk.pts.length c1, .slice A2 sk.notes.length c2], .slice (some ⟨g5, 0, none⟩) ws.length c5]) (run_call_clo (.func 88) _ _ rfl (c := #[]) rfl renter88 (by simp [eval_tmp e40, eval_tmp e45])) ?_
              refine (row_any ⟨HSh.out.below hb, hb.size, hr5, Nat.le_refl _, hw1, by omega, fun y hy => Nat.le_trans (HWz.out y hy) (by omega), by omega, by omega⟩).mono ?_
              rintro e wz ⟨iv, B1, m1, d1, B2, m2, d2, rfl, hrs, hbz⟩
              exact ⟨_, rfl, hI.step n11 (by omega) (by omega) (by omega) (by omega) hbz ⟨iv, B1, m1, d1, B2, m2, d2, rfl, hrs⟩⟩
            · have n11 : L 11 = false := not_yet hcl 11 hL rfl (by kernel_rfl)
              have hG := hI.go n11
              have hb := hG.bel
              have h6 : L 6 = true := done_of hw 6 (by kernel_rfl)
              have e46 : b.tmps[46]?.getD undef = vs 6 := hf.new 6 46 rfl h6 (by simp)
              obtain ⟨iv, B1, m1, d1, B2, m2, d2, q6, hrs⟩ := hG.fs 6 h6
              rw [q6] at e46
              refine wp_of_run (v := .tuple #[shV iv B1 m1 d1 B2 m2 d2, .bool (rowF sk ws).isSome]) (w' := X) (by unfold execOp; go_simp) ?_
              exact hI.step7 n11 ⟨iv, B1, m1, d1, B2, m2, d2, rfl, hrs⟩
            · have n11 : L 11 = false := not_yet hcl 11 hL rfl (by kernel_rfl)
              have hG := hI.go n11
              have hb := hG.bel
              have h7 : L 7 = true := done_of hw 7 (by kernel_rfl)
              have e39 : b.tmps[39]?.getD undef = vs 7 := hf.new 7 39 rfl h7 (by simp)
              obtain ⟨iv, B1, m1, d1, B2, m2, d2, q7, hrs⟩ := hG.fs 7 h7
              rw [q7] at e39
              refine wp_of_run (v := shV iv B1 m1 d1 B2 m2 d2) (w' := X) (by unfold execOp; go_simp) ?_
              exact hI.step n11 (by omega) (by omega) (by omega) (by omega) (Below.refl _ _) ⟨iv, B1, m1, d1, B2, m2, d2, rfl, hrs⟩
            · have h7 : L 7 = true := done_of hw 7 (by kernel_rfl)
              have e39 : b.tmps[39]?.getD undef = vs 7 := hf.new 7 39 rfl h7 (by simp)
              obtain ⟨iv, B1, m1, d1, B2, m2, d2, q7⟩ := hI.p7 h7
              rw [q7] at e39
              refine wp_of_run (v := .bool (rowF sk ws).isSome) (w' := X) (by unfold execOp; go_simp) ?_
              exact hI.late (.inl rfl) rfl
            · have n11 : L 11 = false := not_yet hcl 11 hL rfl (by kernel_rfl)
              have hG := hI.go n11
              have hb := hG.bel
              refine wp_of_run (v := .pointer (some ⟨X.heap.size, 0, none⟩)) (w' := X.alloc (.cells #[.int .i64 0, .slice none 0 0, .slice none 0 0] 25)) (by unfold execOp; go_simp) ?_
              exact hI.step n11 (by omega) (by omega) (by omega) (by omega) ((Below.refl _ _).alloc (Nat.le_refl _) _) ⟨_, rfl, hb.size, heap_alloc_new X _⟩
            · have hG := hI.go hL
              have hb := hG.bel
              have h8 : L 8 = true := done_of hw 8 (by kernel_rfl)
              have e47 : b.tmps[47]?.getD undef = vs 8 := hf.new 8 47 rfl h8 (by simp)
              have h10 : L 10 = true := done_of hw 10 (by kernel_rfl)
              have e8 : b.tmps[8]?.getD undef = vs 10 := hf.new 10 8 rfl h10 (by simp)
              obtain ⟨iv, B1, m1, d1, B2, m2, d2, q8, hrs⟩ := hG.fs 8 h8
              obtain ⟨g, q10, hg, hx⟩ := hG.fs 10 h10
              rw [q8] at e47
              rw [q10] at e8
              unfold shV at e47
              refine wp_store_row 25 (.tmp 8) (.tmp 47) rfl g #[.int .i64 iv, .slice B1 m1 d1, .slice B2 m2 d2] (eval_tmp e8) (eval_tmp e47) 25 _ hx (by kernel_rfl) rfl (by simp [Value.oneCell']) ?_
              exact ⟨_, rfl, hI.store hL hrs q10 hg hx⟩
            · have h9 : L 9 = true := done_of hw 9 (by kernel_rfl)
              have e48 : b.tmps[48]?.getD undef = vs 9 := hf.new 9 48 rfl h9 (by simp)
              rw [hI.p9 h9] at e48
              refine wp_of_run (v := .bool (rowF sk ws).isSome) (w' := X) (by unfold execOp; go_simp) ?_
              exact hI.late (.inr rfl) rfl
          refine fun vs Y hI => ?_
          obtain ⟨X0, g, iv, B1, m1, d1, B2, m2, d2, hb0, hrs, q10, hg, hx, hY⟩ := hI.st rfl
          have q12 := hI.p12 rfl
          clear hI
          simp [fill, slotOf, Act.put]
          simp only [Exit.inBlock, Exit.then]
          rw [q10, q12]
          clear q10 q12
          generalize vs 0 = yg0
          generalize vs 1 = yg1
          generalize vs 2 = yg2
          generalize vs 3 = yg3
          generalize vs 4 = yg4
          generalize vs 5 = yg5
          generalize vs 6 = yg6
          generalize vs 7 = yg7
          generalize vs 8 = yg8
          generalize vs 9 = yg9
          generalize vs 10 = yg10
          generalize vs 11 = yg11
          generalize vs 12 = yg12
          have rY : Y.heap[g]? = some (.cells #[.int .i64 iv, .slice B1 m1 d1, .slice B2 m2 d2] 25) := by rw [hY]; exact setRow_heap _ _ _ _ _ _ hx
          have bY : Below wr.heap.size wr Y := by rw [hY]; exact hb0.trans (setRow_below _ hg)
          have HrsY : Hid (∀ t', rowF sk ws = some t' → RdSh Y.heap.size Y (shV iv B1 m1 d1 B2 m2 d2) t') := Lib.hid (fun t' ht' => by rw [hY]; exact ((hrs t' ht').setRow25 hx _).mono (by simp))
          have y0 := cellOf rY 0 rfl
          have y1 := cellOf rY 1 rfl
          have y2 := cellOf rY 2 rfl
          have HbY := Lib.hid (HBx.out.trans (bY.mono HBx.out.size))
          have HgY := Lib.hid ((bY.block _ (lt_of_block HRow.out)).trans HRow.out)
          clear hY hb0 hrs hx rY bY hbx
          obtain ⟨hr0, hbw⟩ := HW0.out _ HbY.out
          have Hr0 := Lib.hid hr0
          have Hbw := Lib.hid hbw
          clear hr0 hbw
          cases hro : rowF sk ws with
          | none =>
            have HF6 := Lib.hid (show rreadF t = (zeroS, 6) by rw [HF2.out, rowsF_none (k := k + 1) (HNx.out.trans hro)]; rfl)
            clear hro
            simp only [Option.isSome_none]
            go_wp2_with (refine wpList_store_row rfl 25 (.tmp 2) (.tmp 51) rfl w.heap.size #[.int .i64 0, .slice none 0 0, .slice none 0 0] rfl rfl 25 _ Hr0.out (by kernel_rfl) rfl (by simp [Value.oneCell']) ?_)
            exact bodyPost_ret (results40 (setRow_heap _ _ _ _ _ _ Hr0.out) rfl rfl) rfl ⟨_, by rw [HF6.out], by rw [HF6.out]; exact ⟨_, _, rfl, Rd.nil _ _, Rd.nil _ _⟩, Hbw.out.trans (setRow_below _ (Nat.le_refl _))⟩
          | some t' =>
            have hrd := HrsY.out t' hro
            obtain ⟨rfl, rfl, rfl⟩ := hrd.shV
            have HT := Lib.hid hrd
            have HRb2 := Lib.hid (rowF_b HRb.out (fun y hy => Nat.le_trans (HWz.out y hy) (by omega)) hro)
            have HNn := Lib.hid (HNx.out.trans hro)
            clear hrd hro HrsY
            simp only [Option.isSome_some]
            go_wp2_with (refine wpList_store_row rfl 25 (.tmp 6) (.tmp 52) rfl X2.heap.size #[.int .i64 t'.iv, .slice B1 t'.pts.length d1, .slice B2 t'.notes.length d2] rfl rfl 25 _ HgY.out (by kernel_rfl) rfl (by simp [Value.oneCell']) ?_)
            go_roundw
            case rel => exact ⟨j + 1, k + 1, t', B1, B2, d1, d2, by rw [HJk.out], by go_num, by omega, HNn.out, HRb2.out, setRow_heap _ _ _ _ _ _ HgY.out, (HT.out.setRow25 HgY.out _).mono (by simp), HbY.out.trans (setRow_below _ (Nat.le_refl _))⟩
            case measure => simp [intOf]; omega
        · have hke : k = (midsOf t).length := by have := HMl.out; omega
          have HF3 := Lib.hid (show rreadF t = endF t (some sk) by
            have h := HRs.out
            rw [hke, List.take_length] at h
            rw [HF2.out, h])
          have HCk := Lib.hid (rcheck_any HSh.out HRb.out.named (Nat.le_refl _))
          have HBx := Lib.hid hbx
          have p0 := P0.out
          have p1 := P1.out
          have p2 := P2.out
          clear hjk hke hbx
          unfold checkV at HCk
          have heo : errOf sk = (check sk).2.2 := rfl
          rw [← heo] at HCk
          generalize (check sk).1 = e1 at *
          generalize (check sk).2.1 = e2 at *
          clear heo
          by_cases he : errOf sk = 0
          · have hne : (errOf sk != 0) = false := by simp [he]
            have HGd := Lib.hid (good_of_valid he)
            have HT := Lib.hid (fun (X : World) (hb : Below wr.heap.size wr X) => rtext_any (w := X) (HSh.out.below hb) HGd.out hb.size)
            have HEt := Lib.hid (show endF t (some sk) = if toB (textB sk) = t then (sk, 0) else (zeroS, 6) by
              unfold endF
              simp only [he, true_and]
              rfl)
            clear he
            generalize toB (textB sk) = tx at *
            by_cases htx : tx = t
            · have HF4 := Lib.hid (show rreadF t = (sk, 0) by rw [HF3.out, HEt.out, if_pos htx])
              have n1 : (tx.toList == t.toList) = true := by rw [htx]; simp
              clear htx
              go_wp2_with (first | (go_at_call 17; refine HCk.out.mono ?_; rintro e w3 ⟨rfl, hb3⟩; clear p0 p1 p2; have p0 := (hb3.cell (cell_lt P0.out)).trans P0.out; have p1 := (hb3.cell (cell_lt P1.out)).trans P1.out; have p2 := (hb3.cell (cell_lt P2.out)).trans P2.out) | (go_at_call 79; refine (HT.out _ hb3).mono ?_; rintro e w4 ⟨rfl, hb4⟩; have hb5 := hb3.trans (hb4.mono hb3.size); clear p0 p1 p2; have p0 := (hb5.cell (cell_lt P0.out)).trans P0.out; have p1 := (hb5.cell (cell_lt P1.out)).trans P1.out; have p2 := (hb5.cell (cell_lt P2.out)).trans P2.out; have hr5 := HW0.out _ (HBx.out.trans (hb5.mono HBx.out.size))) | (refine wpList_store_row rfl 25 (.tmp 2) (.tmp 68) rfl w.heap.size #[.int .i64 sk.iv, .slice A1 sk.pts.length c1, .slice A2 sk.notes.length c2] rfl rfl 25 _ hr5.1 (by kernel_rfl) rfl (by simp [Value.oneCell']) ?_))
              exact bodyPost_ret (results40 (setRow_heap _ _ _ _ _ _ hr5.1) rfl rfl) rfl ⟨_, by rw [HF4.out], by rw [HF4.out]; exact ((HSh.out.below hb5).setRow25 hr5.1 _).mono (by simpa using hb5.size), hr5.2.trans (setRow_below _ (Nat.le_refl _))⟩
            · have HF6 := Lib.hid (show rreadF t = (zeroS, 6) by rw [HF3.out, HEt.out, if_neg htx])
              have n1 : (tx.toList == t.toList) = false := beq_false40 htx
              clear htx
              go_wp2_with (first | (go_at_call 17; refine HCk.out.mono ?_; rintro e w3 ⟨rfl, hb3⟩; clear p0 p1 p2; have p0 := (hb3.cell (cell_lt P0.out)).trans P0.out; have p1 := (hb3.cell (cell_lt P1.out)).trans P1.out; have p2 := (hb3.cell (cell_lt P2.out)).trans P2.out) | (go_at_call 79; refine (HT.out _ hb3).mono ?_; rintro e w4 ⟨rfl, hb4⟩; have hb5 := hb3.trans (hb4.mono hb3.size); clear p0 p1 p2; have p0 := (hb5.cell (cell_lt P0.out)).trans P0.out; have p1 := (hb5.cell (cell_lt P1.out)).trans P1.out; have p2 := (hb5.cell (cell_lt P2.out)).trans P2.out; have hr5 := HW0.out _ (HBx.out.trans (hb5.mono HBx.out.size))) | (refine wpList_store_row rfl 25 (.tmp 2) (.tmp 67) rfl w.heap.size #[.int .i64 0, .slice none 0 0, .slice none 0 0] rfl rfl 25 _ hr5.1 (by kernel_rfl) rfl (by simp [Value.oneCell']) ?_))
              exact bodyPost_ret (results40 (setRow_heap _ _ _ _ _ _ hr5.1) rfl rfl) rfl ⟨_, by rw [HF6.out], by rw [HF6.out]; exact ⟨_, _, rfl, Rd.nil _ _, Rd.nil _ _⟩, hr5.2.trans (setRow_below _ (Nat.le_refl _))⟩
          · have hne : (errOf sk != 0) = true := by simp [he]
            have HF6 := Lib.hid (show rreadF t = (zeroS, 6) by rw [HF3.out]; unfold endF; simp only; rw [if_neg (fun h => he h.1)])
            clear he
            go_wp2_with (first | (go_at_call 17; refine HCk.out.mono ?_; rintro e w3 ⟨rfl, hb3⟩; clear p0 p1 p2; have p0 := (hb3.cell (cell_lt P0.out)).trans P0.out; have p1 := (hb3.cell (cell_lt P1.out)).trans P1.out; have p2 := (hb3.cell (cell_lt P2.out)).trans P2.out) | (refine wpList_store_row rfl 25 (.tmp 2) (.tmp 67) rfl w.heap.size #[.int .i64 0, .slice none 0 0, .slice none 0 0] rfl rfl 25 _ (HW0.out _ (HBx.out.trans (hb3.mono HBx.out.size))).1 (by kernel_rfl) rfl (by simp [Value.oneCell']) ?_))
            exact bodyPost_ret (results40 (setRow_heap _ _ _ _ _ _ (HW0.out _ (HBx.out.trans (hb3.mono HBx.out.size))).1) rfl rfl) rfl ⟨_, by rw [HF6.out], by rw [HF6.out]; exact ⟨_, _, rfl, Rd.nil _ _, Rd.nil _ _⟩, (HW0.out _ (HBx.out.trans (hb3.mono HBx.out.size))).2.trans (setRow_below _ (Nat.le_refl _))⟩


    · have hne : (((hd.length : Nat) : Int) != 2) = true := by simp; omega
      have hne2 : ¬ ((hd.length : Int) = 2) := by omega
      have HF6 := Lib.hid (show rreadF t = (zeroS, 6) by rw [HF.out, if_pos h2])
      clear h2
      go_wp2_with (refine wpList_store_row rfl 25 (.tmp 2) (.tmp 26) rfl w.heap.size #[.int .i64 0, .slice none 0 0, .slice none 0 0] rfl rfl 25 _ HR3.out (by kernel_rfl) rfl (by simp [Value.oneCell']) ?_)
      exact bodyPost_ret (results40 (setRow_heap _ _ _ _ _ _ HR3.out) rfl rfl) rfl ⟨_, by rw [HF6.out], by rw [HF6.out]; exact ⟨_, _, rfl, Rd.nil _ _, Rd.nil _ _⟩, HX2.out.trans (setRow_below _ (Nat.le_refl _))⟩
end Go.Proofs.YtajdgdelhlfniaaGreatDoor
