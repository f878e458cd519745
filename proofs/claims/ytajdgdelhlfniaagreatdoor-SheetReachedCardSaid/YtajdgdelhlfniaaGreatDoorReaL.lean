/- The law SheetReached: its walk. -/
import Derived.Test.YtajdgdelhlfniaaGreatDoorMorL
import Derived.Test.YtajdgdelhlfniaaGreatDoorGhB
import Derived.WalkKit
import Derived.Deep.Quiet
set_option linter.unusedSimpArgs false
set_option linter.unusedVariables false
namespace Go.Proofs.YtajdgdelhlfniaaGreatDoor
open Go.RowKit

theorem enter50 : ∀ args w, (callFunc 50 args).run Tryz.prog w = .ok (.enter 50 args) w := enters_of Tryz.func50 (by kernel_rfl) rfl
theorem enter49 : ∀ args w, (callFunc 49 args).run Tryz.prog w = .ok (.enter 49 args) w := enters_of Tryz.func49 (by kernel_rfl) rfl
theorem enter21 : ∀ args w, (callFunc 21 args).run Tryz.prog w = .ok (.enter 21 args) w := enters_of Tryz.func21 (by kernel_rfl) rfl
theorem eval_const (b : Act) (v : Value) : b.eval (.const v) = v := rfl
theorem fits_at {B : Nat} {w : World} {v : Value} {s : ShR} {f : Bool} {er : Int} (hf : fitsB s = f) (he : errOf s = er) (hs : RdSh B w v s) (hn : Named s) (hB : B ≤ w.heap.size) :
    Calls Tryz.prog 21 #[v] w fun e w' => e = .returned (.tuple #[.bool f, .int .i64 er]) ∧ Below w.heap.size w w' := by
  subst hf he
  exact fits_any hs hn hB
theorem run_bsI3 (a b c : Int) (w : World) : (Instr.buildSlice 43 3 #[(0, .int .i64 a), (1, .int .i64 b), (2, .int .i64 c)]).run Tryz.prog w = .ok (.slice (some ⟨w.heap.size, 0, none⟩) 3 3) (w.alloc (.cells #[.int .i64 a, .int .i64 b, .int .i64 c] 3)) := by kernel_rfl
theorem rd_lit3 (w : World) (a b c : Int) : Rd IntAt 1 (w.alloc (.cells #[.int .i64 a, .int .i64 b, .int .i64 c] 3)).heap.size (w.alloc (.cells #[.int .i64 a, .int .i64 b, .int .i64 c] 3)) (.slice (some ⟨w.heap.size, 0, none⟩) 3 3) [a, b, c] :=
  (own_lit (α := Int) (e := 3) [a, b, c] (by simp) (heap_alloc_new w _)).rd
theorem wpList_bsG {ops : Array Oper} {rest : List Oper} {o : Oper} {a : Act} {w w' : World} {Q : Exit → Act → World → Prop} (hgd : o.guard = none) (T : TypeId) (n : Nat) (parts : Array (Nat × Operand)) (ho : o.op = .buildSlice T n parts)
    {vs : Array (Nat × Value)} (hv : parts.toList.map (fun (i, x) => (i, a.eval x)) = vs.toList) {v : Value} (hr : (Instr.buildSlice T n vs).run Tryz.prog w = .ok v w') (h : wpList Tryz.prog ops Q rest (a.put o.dst v) w') : wpList Tryz.prog ops Q (o :: rest) a w := by
  refine wpList_plain hgd fun K hK => ?_
  unfold Oper.wp
  rw [run_exec_bs T n parts ho hv hr]
  exact hK _ _ h
theorem three_of {P : Int → Prop} {a b c : Int} (ha : P a) (hb : P b) (hc : P c) : ∀ k, k < 3 → P (([a, b, c] : List Int)[k]?.getD 0) := by
  intro k hk
  match k, hk with
  | 0, _ => exact ha
  | 1, _ => exact hb
  | 2, _ => exact hc

set_option maxRecDepth 100000 in
set_option maxHeartbeats 4000000 in
theorem reached_any {B : Nat} {w : World} {v : Value} {s : ShR} (p q : Nat) (u : Int) (hs : RdSh B w v s) (hn : Named s) (hsm : Small s) (hB : B ≤ w.heap.size) (hp : p ≤ 255) (hq : q ≤ 255) (hu0 : 0 ≤ u) (hu1 : u ≤ 65535) (hgl : Glob w) :
    Calls Tryz.prog 9 #[v, .agg #[.int .u8 p, .int .u8 q], .int .u16 u] w fun e w' => e = .returned (.bool true) ∧ Below w.heap.size w w' := by
  have HSR := Lib.hid (fun (X : World) (hb : Below w.heap.size w X) => hs.below (hb.mono hB))
  have HA := Lib.hid (fun (X : World) (hb : Below w.heap.size w X) => awake_any (w := X) (hgl.below hb))
  have HN := Lib.hid hn
  have HSm := Lib.hid hsm
  obtain ⟨vp, vn, rfl, hpp, hnn⟩ := hs
  obtain ⟨Ap, cp, rfl, _⟩ := id hpp
  obtain ⟨An, cn, rfl, _⟩ := id hnn
  obtain ⟨W1, hW1, r1, z1, b1⟩ := box_any w #[.int .i64 s.iv, .slice Ap s.pts.length cp, .slice An s.notes.length cn] 25
  obtain ⟨W2, hW2, r2, z2, b2⟩ := box_any W1 #[.int .u8 p, .int .u8 q] 60
  have b12 := b1.trans (b2.mono b1.size)
  have k1 := (b2.block _ (by omega)).trans r1
  rw [z1] at r2
  have HBY := Lib.hid b12
  have HC : Hid (∀ Z : World, Below W2.heap.size W2 Z → Z.cell? ⟨w.heap.size, 0, none⟩ = some (.int .i64 s.iv) ∧ Z.cell? ⟨w.heap.size, 1, none⟩ = some (.slice Ap s.pts.length cp) ∧ Z.cell? ⟨w.heap.size, 2, none⟩ = some (.slice An s.notes.length cn) ∧
      Z.cell? ⟨w.heap.size + 1, 0, none⟩ = some (.int .u8 p) ∧ Z.cell? ⟨w.heap.size + 1, 1, none⟩ = some (.int .u8 q) ∧ Below w.heap.size w Z) :=
    Lib.hid fun Z h => by
      have j1 := (h.block _ (lt_of_block k1)).trans k1
      have j3 := (h.block _ (lt_of_block r2)).trans r2
      exact ⟨cellOf j1 0 rfl, cellOf j1 1 rfl, cellOf j1 2 rfl, cellOf j3 0 rfl, cellOf j3 1 rfl, HBY.out.trans (h.mono HBY.out.size)⟩
  clear r1 r2 z1 z2 b1 b2 b12 k1 hn hsm hgl hpp hnn
  go_enter Tryz.func9, Tryz.ntmps9
  go_upto_region 1 with (fail)
  rw [← hW1, ← hW2]
  clear hW1 hW2
  have hbx : Below W2.heap.size W2 W2 := Below.refl _ _
  obtain ⟨C0, C1, C2, G0, G1, hb⟩ := HC.out _ hbx
  have HV := Lib.hid (fun (Z : World) (h : Below w.heap.size w Z) => valid_any (HSR.out Z h) HN.out (Nat.le_trans hB h.size))
  by_cases hv : errOf s = 0
  · have hd : decide (errOf s = 0) = true := decide_eq_true hv
    rw [hd] at HV
    clear hd
    have hg := good_of_valid hv
    by_cases hnl : s.notes.length = 12
    · have h12 : ((s.notes.length : Int) == 12) = true := by simp [hnl]
      clear hnl hg hv
      go_wp2_with (first | (go_at_call 44; (with_reducible refine Calls.mono (HV.out _ hb) ?_); rintro e X ⟨rfl, h4⟩; replace hbx := hbx.trans (h4.mono hbx.size); clear C0 C1 C2 G0 G1 hb h4; obtain ⟨C0, C1, C2, G0, G1, hb⟩ := HC.out _ hbx) | (go_at_call 20; (with_reducible refine Calls.mono (HA.out _ hb) ?_); rintro e X ⟨rfl, h4⟩; replace hbx := hbx.trans (h4.mono hbx.size); clear C0 C1 C2 G0 G1 hb h4; obtain ⟨C0, C1, C2, G0, G1, hb⟩ := HC.out _ hbx))
      go_ret
      exact ⟨rfl, hb⟩
    · have h12 : ((s.notes.length : Int) == 12) = false := by simp; omega
      have HN12 := Lib.hid (show s.notes.length < 12 by have := hg.nlen; omega)
      have HG := Lib.hid (fun (er : Int) (he : openE s = er) (Z : World) (h : Below w.heap.size w Z) => heights_at he (HSR.out Z h) HN.out (Nat.le_trans hB h.size))
      rcases openE_two hg with ⟨hs0, _⟩ | ⟨hs0, hno⟩
      · have H1 := Lib.hid (HG.out 0 hs0)
        rw [heights_len hs0] at H1
        have hpl := hg.plen
        have HGet := Lib.hid (fun (i : Nat) (hi : i < s.pts.length) => heights_get hs0 hi)
        have HLn1 := Lib.hid (heights_len hs0)
        have HSpot := Lib.hid (fun (a : Nat) (ha : a < s.pts.length) (z : Int) (hz : 0 ≤ z ∧ z ≤ 9000) => spot_fits hs0 ha HN12.out (v := z) hz)
        have HSlope := Lib.hid (fun (a c : Nat) (ha : a < s.pts.length) (hc : c < s.pts.length) (hac : a ≠ c) (z : Int) (hz : -9000 ≤ z ∧ z ≤ 9000) => slope_fits hs0 ha hc hac HN12.out (v := z) hz)
        have HE1 := Lib.hid (fun (a : Nat) (ha : a < s.pts.length) => ends_spot hs0 (a := a) (by omega))
        have HE2 := Lib.hid (fun (a c : Nat) (ha : a < s.pts.length) (hc : c < s.pts.length) => ends_slope hs0 (a := a) (b := c) (by omega) (by omega))
        have HP1 := Lib.hid (show ∀ a c : Nat, a < s.pts.length → c < s.pts.length → ∀ Z, Below w.heap.size w Z → Calls Tryz.prog 26 #[.agg #[.int .i64 s.iv, .slice Ap s.pts.length cp, .slice An s.notes.length cn], .int .i64 a, .int .i64 c] Z fun e w' => e = .returned (.tuple #[.agg #[.int .i64 (-openM s a c), .int .i64 (openM s c a)], .int .i64 (orderF (-openM s a c) (openM s c a)), .int .i64 0]) ∧ Below Z.heap.size Z w' from fun a c ha hc Z h => by
          have := apart_any a c (HSR.out Z h) HN.out (Nat.le_trans hB h.size)
          rw [apart_at hs0 ha hc] at this
          exact this)
        have HPl := Lib.hid hpl
        clear HG hs0 hg hv hnl hpl
        generalize heightsF s = l1 at *
        go_upto_region 3 with (go_at_call 44; (with_reducible refine Calls.mono (HV.out _ hb) ?_); rintro e X ⟨rfl, h4⟩; replace hbx := hbx.trans (h4.mono hbx.size); clear C0 C1 C2 G0 G1 hb h4; obtain ⟨C0, C1, C2, G0, G1, hb⟩ := HC.out _ hbx)
        go_upto_region 4 with (go_at_call 23; (with_reducible refine Calls.mono (H1.out _ hb) ?_); rintro e X ⟨A1, c1, rfl, hr1, h4⟩; have HR1 := Lib.hid (fun (Z : World) (h : Below X.heap.size X Z) => hr1.below h); clear hr1; replace hbx := hbx.trans (h4.mono hbx.size); clear C0 C1 C2 G0 G1 hb h4; obtain ⟨C0, C1, C2, G0, G1, hb⟩ := HC.out _ hbx; have hb1 : Below X.heap.size X X := Below.refl _ _)
        have hn1 : 0 < s.pts.length := by have := HPl.out; omega
        go_upto_region 9 with (fail)
        go_quiet (fail)
        go_upto_region 10 with (fail)
        rw [show ((p : Int) % (s.pts.length : Int)) = ((p % s.pts.length : Nat) : Int) from rfl, show ((q : Int) % (s.pts.length : Int)) = ((q % s.pts.length : Nat) : Int) from rfl]
        obtain ⟨Z, hZ⟩ : ∃ Z, Z = X.drewN nq := ⟨_, rfl⟩
        rw [← hZ]
        have hzq : ∀ B, Below B X Z := fun B => by rw [hZ]; exact below_drewN (Below.refl _ _) nq
        clear hZ
        obtain ⟨a, hea⟩ : ∃ a, p % s.pts.length = a := ⟨_, rfl⟩
        obtain ⟨c, hec⟩ : ∃ c, q % s.pts.length = c := ⟨_, rfl⟩
        have ha : a < s.pts.length := by rw [← hea]; exact Nat.mod_lt _ hn1
        have hc : c < s.pts.length := by rw [← hec]; exact Nat.mod_lt _ hn1
        rw [hea, hec]
        clear hea hec
        replace hbx := hbx.trans (hzq _)
        replace hb1 := hb1.trans (hzq _)
        clear C0 C1 C2 G0 G1 hb hzq
        obtain ⟨C0, C1, C2, G0, G1, hb⟩ := HC.out _ hbx
        go_upto_region 11 with (fail)
        obtain ⟨ad1, rfl, _, p0, p1⟩ := (HR1.out Z hb1).span (i := a) (by rw [HLn1.out]; exact ha)
        have hk0 : 0 ≤ u % 9001 ∧ u % 9001 ≤ 9000 := by omega
        have E1 := HE1.out a ha
        have HSp := Lib.hid (HSpot.out a ha)
        have hge := HGet.out a ha
        rw [hge] at p0 p1
        have HGe := Lib.hid hge
        clear hge HE1 HSpot HGet
        generalize -openM s a 8 = lo at *
        generalize openM s 8 a = hi at *
        generalize u % 9001 = kk at *
        have HZ3 := Lib.hid (three_of (P := fun z => 0 ≤ z ∧ z ≤ 9000) E1.1 E1.2 hk0)
        refine region_quiet_tail (C := fun w' => ∃ n, w' = Z.drewN n) 11 (by kernel_rfl) (by kernel_rfl) ⟨1, rfl⟩ ?_
        simp only [List.take_succ_cons, List.take_zero, List.drop_succ_cons, List.drop_zero]
        repeat (first | go_big_quiet_step (fail) | quiet_step (fail))
        refine wpQuiet_nil ?_
        rintro _ ⟨n1, rfl⟩
        obtain ⟨Z2, hZ2⟩ : ∃ Z2, Z2 = Z.drewN n1 := ⟨_, rfl⟩
        rw [← hZ2]
        have hzq : ∀ B, Below B Z Z2 := fun B => by rw [hZ2]; exact below_drewN (Below.refl _ _) n1
        clear hZ2 p0 p1
        go_wp2_with (refine wpList_bsG rfl 43 3 _ rfl (vs := #[(0, .int .i64 lo), (1, .int .i64 hi), (2, .int .i64 kk)]) rfl (run_bsI3 _ _ _ _) ?_; simp only [Act.put, List.setIfInBounds_toArray, List.set_cons_succ, List.set_cons_zero])
        replace hbx := hbx.trans (hzq _)
        replace hb1 := hb1.trans (hzq _)
        clear C0 C1 C2 G0 G1 hb hzq
        have hnm := rd_lit3 Z2 lo hi kk
        obtain ⟨Z3, hZ3, rZ3, zZ3, bZ3⟩ := box_any Z2 #[.int .i64 lo, .int .i64 hi, .int .i64 kk] 3
        rw [← hZ3] at hnm ⊢
        replace hbx := hbx.trans (bZ3.mono hbx.size)
        replace hb1 := hb1.trans (bZ3.mono hb1.size)
        clear hZ3 rZ3 zZ3 bZ3
        generalize (⟨Z2.heap.size, 0, none⟩ : Addr) = ad at hnm ⊢
        have HNm := Lib.hid (fun (Z : World) (h : Below Z3.heap.size Z3 Z) => hnm.below h)
        clear hnm
        obtain ⟨C0, C1, C2, G0, G1, hb⟩ := HC.out _ hbx
        go_loopw [15] (fun i wr => ∃ k : Nat, k ≤ 3 ∧ i = .int .i64 k ∧ Below Z3.heap.size Z3 wr) (fun i _ => 3 - (intOf i).toNat)
        case atStart => exact ⟨0, Nat.zero_le _, rfl, Below.refl _ _⟩
        case round =>
          obtain ⟨k, hk, rfl, hq⟩ := hrel
          have HQ := Lib.hid hq
          replace hbx := hbx.trans (hq.mono hbx.size)
          replace hb1 := hb1.trans (hq.mono hb1.size)
          clear C0 C1 C2 G0 G1 hb
          obtain ⟨C0, C1, C2, G0, G1, hb⟩ := HC.out _ hbx
          by_cases hlt : k < 3
          · have hz := HZ3.out k hlt
            obtain ⟨ad', had, _, qz⟩ := (HNm.out wr hq).int (i := k) (by simpa using hlt)
            cases had
            generalize ([lo, hi, kk] : List Int)[k]?.getD 0 = z at *
            obtain ⟨hen, hfn⟩ := HSp.out z hz
            obtain ⟨bb, hbb⟩ : ∃ bb, inB z lo hi = bb := ⟨_, rfl⟩
            rw [hbb] at hfn
            have HWi := Lib.hid (show ∀ X, Below w.heap.size w X → Calls Tryz.prog 49 #[.agg #[.int .i64 s.iv, .slice Ap s.pts.length cp, .slice An s.notes.length cn], .agg #[.int .i64 1, .int .i64 a, .int .i64 0, .int .i64 z, .int .i64 z]] X fun e w' => ∃ v', e = .returned v' ∧ RdSh w'.heap.size w' v' (withS s (spotX a z)) ∧ Below X.heap.size X w' from fun X h => lwith_any (spotX a z) (HSR.out X h) HSm.out (Nat.le_trans hB h.size))
            have HFi := Lib.hid (fun (X : World) (v : Value) (hr : RdSh X.heap.size X v (withS s (spotX a z))) => fits_at hfn hen hr (show Named (withS s (spotX a z)) from HN.out) (Nat.le_refl _))
            have HIn := Lib.hid (fun (Z : World) => inside_any (w := Z) z lo hi)
            rw [hbb] at HIn
            have QC0 := Lib.hid C0; have QC1 := Lib.hid C1; have QC2 := Lib.hid C2; have QZ := Lib.hid qz
            have HWr := Lib.hid hb
            have HB1 := Lib.hid hb1
            clear hen hfn hbb hq C0 C1 C2 G0 G1 hb hb1 hbx qz hz
            go_upto_region 15 with (fail)
            have hF := FS.keeps (fun k => k == 11) (withS s (spotX a z)) (fun jj => ([.agg #[.int .i64 s.iv, .slice Ap s.pts.length cp, .slice An s.notes.length cn], .int .i64 a, .slice (some ad) 3 3, .int .i64 k, .pointer (some (ad.add k)), .int .i64 z, .slice (some ad) 3 3, .int .i64 k, .pointer (some (ad.add k)), .int .i64 z, .agg #[.int .i64 1, .int .i64 a, .int .i64 0, .int .i64 z, .int .i64 z], undef, .tuple #[.bool bb, .int .i64 0], .tuple #[.bool bb, .int .i64 0], .bool bb, .int .i64 0, .bool bb, .int .i64 0] : List Value).getD jj undef)
            refine wp_region_ghost (BlI wr (FS (fun k => k == 11) (withS s (spotX a z)) (fun jj => ([.agg #[.int .i64 s.iv, .slice Ap s.pts.length cp, .slice An s.notes.length cn], .int .i64 a, .slice (some ad) 3 3, .int .i64 k, .pointer (some (ad.add k)), .int .i64 z, .slice (some ad) 3 3, .int .i64 k, .pointer (some (ad.add k)), .int .i64 z, .agg #[.int .i64 1, .int .i64 a, .int .i64 0, .int .i64 z, .int .i64 z], undef, .tuple #[.bool bb, .int .i64 0], .tuple #[.bool bb, .int .i64 0], .bool bb, .int .i64 0, .bool bb, .int .i64 0] : List Value).getD jj undef))) (by kernel_rfl) (by kernel_rfl) BlI.start ?_ ?_
            · refine ⟨?_, ?_, ?_, ?_, ?_, ?_, ?_, ?_, ?_, ?_, ?_, ?_, ?_, ?_, ?_, ?_, ?_, ?_, trivial⟩
              all_goals
                intro L vs X b hL hw hcl hI hf
              · have hb := hI.bel
                have e3 := hf.old 3 (by kernel_rfl)
                have qQC0 := (hb.cell (cell_lt QC0.out)).trans QC0.out
                have qQC1 := (hb.cell (cell_lt QC1.out)).trans QC1.out
                have qQC2 := (hb.cell (cell_lt QC2.out)).trans QC2.out
                refine wp_of_run (v := .agg #[.int .i64 s.iv, .slice Ap s.pts.length cp, .slice An s.notes.length cn]) (w' := X) (by unfold execOp; go_simp) ?_
                exact hI.read hF (FS.known rfl)
              · have hb := hI.bel
                have e11 := hf.old 11 (by kernel_rfl)
                refine wp_of_run (v := .int .i64 a) (w' := X) (by unfold execOp; go_simp) ?_
                exact hI.read hF (FS.known rfl)
              · have hb := hI.bel
                have e14 := hf.old 14 (by kernel_rfl)
                refine wp_of_run (v := .slice (some ad) 3 3) (w' := X) (by unfold execOp; go_simp) ?_
                exact hI.read hF (FS.known rfl)
              · have hb := hI.bel
                have e15 := hf.old 15 (by kernel_rfl)
                refine wp_of_run (v := .int .i64 k) (w' := X) (by unfold execOp; go_simp) ?_
                exact hI.read hF (FS.known rfl)
              · have hb := hI.bel
                have h2 : L 2 = true := done_of hw 2 (by kernel_rfl)
                have e100 : b.tmps[100]?.getD undef = .slice (some ad) 3 3 := (hf.new 2 100 rfl h2 (by simp)).trans ((hI.fs 2 h2).2 rfl)
                have h3 : L 3 = true := done_of hw 3 (by kernel_rfl)
                have e101 : b.tmps[101]?.getD undef = .int .i64 k := (hf.new 3 101 rfl h3 (by simp)).trans ((hI.fs 3 h3).2 rfl)
                refine wp_of_run (v := .pointer (some (ad.add k))) (w' := X) (by unfold execOp; go_simp) ?_
                exact hI.read hF (FS.known rfl)
              · have hb := hI.bel
                have h4 : L 4 = true := done_of hw 4 (by kernel_rfl)
                have e102 : b.tmps[102]?.getD undef = .pointer (some (ad.add k)) := (hf.new 4 102 rfl h4 (by simp)).trans ((hI.fs 4 h4).2 rfl)
                have qQZ := (hb.cell (cell_lt QZ.out)).trans QZ.out
                refine wp_of_run (v := .int .i64 z) (w' := X) (by unfold execOp; go_simp) ?_
                exact hI.read hF (FS.known rfl)
              · have hb := hI.bel
                have e14 := hf.old 14 (by kernel_rfl)
                refine wp_of_run (v := .slice (some ad) 3 3) (w' := X) (by unfold execOp; go_simp) ?_
                exact hI.read hF (FS.known rfl)
              · have hb := hI.bel
                have e15 := hf.old 15 (by kernel_rfl)
                refine wp_of_run (v := .int .i64 k) (w' := X) (by unfold execOp; go_simp) ?_
                exact hI.read hF (FS.known rfl)
              · have hb := hI.bel
                have h6 : L 6 = true := done_of hw 6 (by kernel_rfl)
                have e104 : b.tmps[104]?.getD undef = .slice (some ad) 3 3 := (hf.new 6 104 rfl h6 (by simp)).trans ((hI.fs 6 h6).2 rfl)
                have h7 : L 7 = true := done_of hw 7 (by kernel_rfl)
                have e105 : b.tmps[105]?.getD undef = .int .i64 k := (hf.new 7 105 rfl h7 (by simp)).trans ((hI.fs 7 h7).2 rfl)
                refine wp_of_run (v := .pointer (some (ad.add k))) (w' := X) (by unfold execOp; go_simp) ?_
                exact hI.read hF (FS.known rfl)
              · have hb := hI.bel
                have h8 : L 8 = true := done_of hw 8 (by kernel_rfl)
                have e106 : b.tmps[106]?.getD undef = .pointer (some (ad.add k)) := (hf.new 8 106 rfl h8 (by simp)).trans ((hI.fs 8 h8).2 rfl)
                have qQZ := (hb.cell (cell_lt QZ.out)).trans QZ.out
                refine wp_of_run (v := .int .i64 z) (w' := X) (by unfold execOp; go_simp) ?_
                exact hI.read hF (FS.known rfl)
              · have hb := hI.bel
                have h1 : L 1 = true := done_of hw 1 (by kernel_rfl)
                have e99 : b.tmps[99]?.getD undef = .int .i64 a := (hf.new 1 99 rfl h1 (by simp)).trans ((hI.fs 1 h1).2 rfl)
                have h5 : L 5 = true := done_of hw 5 (by kernel_rfl)
                have e103 : b.tmps[103]?.getD undef = .int .i64 z := (hf.new 5 103 rfl h5 (by simp)).trans ((hI.fs 5 h5).2 rfl)
                have h9 : L 9 = true := done_of hw 9 (by kernel_rfl)
                have e107 : b.tmps[107]?.getD undef = .int .i64 z := (hf.new 9 107 rfl h9 (by simp)).trans ((hI.fs 9 h9).2 rfl)
                refine wp_of_call (f := 50) (args := #[.int .i64 1, .int .i64 a, .int .i64 0, .int .i64 z, .int .i64 z]) (run_call_clo (.func 50) _ _ rfl (c := #[]) rfl enter50 (by simp [eval_const, eval_tmp e99, eval_tmp e103, eval_tmp e107])) ?_
                refine (lnote_any _ _ _ _ _ X).mono ?_
                rintro e wz ⟨rfl, hbz⟩
                exact ⟨_, rfl, hI.step hF hbz (FS.known rfl)⟩
              · have hb := hI.bel
                have h0 : L 0 = true := done_of hw 0 (by kernel_rfl)
                have e98 : b.tmps[98]?.getD undef = .agg #[.int .i64 s.iv, .slice Ap s.pts.length cp, .slice An s.notes.length cn] := (hf.new 0 98 rfl h0 (by simp)).trans ((hI.fs 0 h0).2 rfl)
                have h10 : L 10 = true := done_of hw 10 (by kernel_rfl)
                have e108 : b.tmps[108]?.getD undef = .agg #[.int .i64 1, .int .i64 a, .int .i64 0, .int .i64 z, .int .i64 z] := (hf.new 10 108 rfl h10 (by simp)).trans ((hI.fs 10 h10).2 rfl)
                refine wp_of_call (f := 49) (args := #[.agg #[.int .i64 s.iv, .slice Ap s.pts.length cp, .slice An s.notes.length cn], .agg #[.int .i64 1, .int .i64 a, .int .i64 0, .int .i64 z, .int .i64 z]]) (run_call_clo (.func 49) _ _ rfl (c := #[]) rfl enter49 (by simp [eval_tmp e98, eval_tmp e108])) ?_
                refine (HWi.out X (HWr.out.trans (hb.mono HWr.out.size))).mono ?_
                rintro e wz ⟨v', rfl, hs', hbz⟩
                exact ⟨v', rfl, hI.step hF hbz ⟨fun _ => hs', fun h => by cases h⟩⟩
              · have hb := hI.bel
                have h11 : L 11 = true := done_of hw 11 (by kernel_rfl)
                have e109 : b.tmps[109]?.getD undef = vs 11 := hf.new 11 109 rfl h11 (by simp)
                refine wp_of_call (f := 21) (args := #[vs 11]) (run_call_clo (.func 21) _ _ rfl (c := #[]) rfl enter21 (by simp [eval_tmp e109])) ?_
                refine (HFi.out X (vs 11) ((hI.fs 11 h11).1 rfl)).mono ?_
                rintro e wz ⟨rfl, hbz⟩
                exact ⟨_, rfl, hI.step hF hbz (FS.known rfl)⟩
              · have hb := hI.bel
                have h12 : L 12 = true := done_of hw 12 (by kernel_rfl)
                have e110 : b.tmps[110]?.getD undef = .tuple #[.bool bb, .int .i64 0] := (hf.new 12 110 rfl h12 (by simp)).trans ((hI.fs 12 h12).2 rfl)
                refine wp_of_run (v := .tuple #[.bool bb, .int .i64 0]) (w' := X) (by unfold execOp; go_simp) ?_
                exact hI.read hF (FS.known rfl)
              · have hb := hI.bel
                have h13 : L 13 = true := done_of hw 13 (by kernel_rfl)
                have e97 : b.tmps[97]?.getD undef = .tuple #[.bool bb, .int .i64 0] := (hf.new 13 97 rfl h13 (by simp)).trans ((hI.fs 13 h13).2 rfl)
                refine wp_of_run (v := .bool bb) (w' := X) (by unfold execOp; go_simp) ?_
                exact hI.read hF (FS.known rfl)
              · have hb := hI.bel
                have h13 : L 13 = true := done_of hw 13 (by kernel_rfl)
                have e97 : b.tmps[97]?.getD undef = .tuple #[.bool bb, .int .i64 0] := (hf.new 13 97 rfl h13 (by simp)).trans ((hI.fs 13 h13).2 rfl)
                refine wp_of_run (v := .int .i64 0) (w' := X) (by unfold execOp; go_simp) ?_
                exact hI.read hF (FS.known rfl)
              · have hb := hI.bel
                have h14 : L 14 = true := done_of hw 14 (by kernel_rfl)
                have e111 : b.tmps[111]?.getD undef = .bool bb := (hf.new 14 111 rfl h14 (by simp)).trans ((hI.fs 14 h14).2 rfl)
                refine wp_of_run (v := .bool bb) (w' := X) (by unfold execOp; go_simp) ?_
                exact hI.read hF (FS.known rfl)
              · have hb := hI.bel
                have h15 : L 15 = true := done_of hw 15 (by kernel_rfl)
                have e112 : b.tmps[112]?.getD undef = .int .i64 0 := (hf.new 15 112 rfl h15 (by simp)).trans ((hI.fs 15 h15).2 rfl)
                refine wp_of_run (v := .int .i64 0) (w' := X) (by unfold execOp; go_simp) ?_
                exact hI.read hF (FS.known rfl)
            · intro vs X hI
              have e16 := (hI.fs 16 rfl).2 rfl
              have e17 := (hI.fs 17 rfl).2 rfl
              have hbX := hI.bel
              clear hI hF
              simp [fill, slotOf, Act.put]
              simp only [Exit.inBlock, Exit.then]
              rw [e16, e17]
              simp only [List.getD_cons_succ, List.getD_cons_zero]
              clear e16 e17
              generalize vs 0 = u0
              generalize vs 1 = u1
              generalize vs 2 = u2
              generalize vs 3 = u3
              generalize vs 4 = u4
              generalize vs 5 = u5
              generalize vs 6 = u6
              generalize vs 7 = u7
              generalize vs 8 = u8
              generalize vs 9 = u9
              generalize vs 10 = u10
              generalize vs 11 = u11
              generalize vs 12 = u12
              generalize vs 13 = u13
              generalize vs 14 = u14
              generalize vs 15 = u15
              generalize vs 16 = u16
              generalize vs 17 = u17

              have hbw := HWr.out.trans (hbX.mono HWr.out.size)
              have hb1w := HB1.out.trans (hbX.mono HB1.out.size)
              obtain ⟨ade, hade, _, p0, p1⟩ := (HR1.out X hb1w).span (i := a) (by rw [HLn1.out]; exact ha)
              cases hade
              rw [HGe.out] at p0 p1
              have qz := (hbX.cell (cell_lt QZ.out)).trans QZ.out
              have f0 := Aft.cell p0
              have f1 := Aft.cell p1
              have f2 := Aft.cell qz
              have HbX := Lib.hid hbX
              clear hbX hbw hb1w p0 p1 qz
              cases bb
              all_goals
                go_upto_region 16 with (fail)
                refine wp_region_aft (by kernel_rfl) (by kernel_rfl) ?_
                repeat (first | go_big_quiet_step ((go_at_call 47; exact Aft.call (HIn.out _))) | quiet_step ((go_at_call 47; exact Aft.call (HIn.out _))))
                refine wpQuiet_nil ?_
                rintro _ ⟨⟨wx, hbx2⟩, rfl⟩
                have HQ2 := Lib.hid (HQ.out.trans ((HbX.out.trans (hbx2.mono HbX.out.size)).mono HQ.out.size))
                clear hbx2 f0 f1 f2
                go_wp2
                go_roundw
                case rel => exact ⟨k + 1, by omega, by go_num, HQ2.out⟩
                case measure => simp [intOf]; omega
          · have t3 : decide ((k : Int) < 3) = false := decide_eq_false (by omega)
            clear HSp HZ3 hlt hk hq
            by_cases hac : a = c
            · have eac : ((a : Int) == (c : Int)) = true := by simp [hac]
              clear hac
              go_wp2_with (go_at_call 20; (with_reducible refine Calls.mono (HA.out _ hb) ?_); rintro e X ⟨rfl, h4⟩; replace hbx := hbx.trans (h4.mono hbx.size); clear C0 C1 C2 G0 G1 hb h4; obtain ⟨C0, C1, C2, G0, G1, hb⟩ := HC.out _ hbx)
              go_ret
              exact ⟨rfl, hb⟩
            · have eac : ((a : Int) == (c : Int)) = false := by simp; omega
              have P1 := Lib.hid (HP1.out a c ha hc)
              have E2 := HE2.out a c ha hc
              have HSp := Lib.hid (HSlope.out a c ha hc hac)
              clear HP1 HE2 HSlope hac
              generalize orderF (-openM s a c) (openM s c a) = o1 at *
              generalize -openM s a c = lo2 at *
              generalize openM s c a = hi2 at *
              go_upto_region 21 with (go_at_call 26; (with_reducible refine Calls.mono (P1.out _ hb) ?_); rintro e X ⟨rfl, h4⟩; replace hbx := hbx.trans (h4.mono hbx.size); clear C0 C1 C2 G0 G1 hb h4; obtain ⟨C0, C1, C2, G0, G1, hb⟩ := HC.out _ hbx)
              obtain ⟨U1, hU1, rU1, zU1, bU1⟩ := box_any X #[.int .i64 lo2, .int .i64 hi2] 40
              rw [← hU1]
              replace hbx := hbx.trans (bU1.mono hbx.size)
              clear hU1 zU1 bU1 C0 C1 C2 G0 G1 hb
              obtain ⟨C0, C1, C2, G0, G1, hb⟩ := HC.out _ hbx
              generalize X.heap.size = g1 at rU1 ⊢
              have v1 := cellOf rU1 0 (v := .int .i64 lo2) rfl
              have v2 := cellOf rU1 1 (v := .int .i64 hi2) rfl
              have RU1 := Lib.hid rU1
              clear rU1
              have hm0 : 0 ≤ u % 18001 ∧ u % 18001 ≤ 18000 := by omega
              have HZ4 := Lib.hid (three_of (P := fun z => -9000 ≤ z ∧ z ≤ 9000) (a := lo2) (b := hi2) (c := u % 18001 - 9000) E2.1 E2.2 (by omega))
              have hwr : IntKind.i64.wrap (u % 18001 - 9000) = u % 18001 - 9000 := IntWalk.i64_in _ (by omega)
              go_upto_region 22 with (refine wpList_bsG rfl 43 3 _ rfl (vs := #[(0, .int .i64 lo2), (1, .int .i64 hi2), (2, .int .i64 (u % 18001 - 9000))]) rfl (run_bsI3 _ _ _ _) ?_; simp only [Act.put, List.setIfInBounds_toArray, List.set_cons_succ, List.set_cons_zero])
              clear hwr hm0
              generalize u % 18001 - 9000 = m0 at *
              have hnm := rd_lit3 U1 lo2 hi2 m0
              obtain ⟨Z4, hZ4, rZ4, zZ4, bZ4⟩ := box_any U1 #[.int .i64 lo2, .int .i64 hi2, .int .i64 m0] 3
              rw [← hZ4] at hnm ⊢
              replace hbx := hbx.trans (bZ4.mono hbx.size)
              have RU1 := Lib.hid ((bZ4.block _ (lt_of_block RU1.out)).trans RU1.out)
              clear hZ4 rZ4 zZ4 bZ4 C0 C1 C2 G0 G1 hb v1 v2
              generalize (⟨U1.heap.size, 0, none⟩ : Addr) = ad2 at hnm ⊢
              have HNm2 := Lib.hid (fun (Z : World) (h : Below Z4.heap.size Z4 Z) => hnm.below h)
              clear hnm HNm
              obtain ⟨C0, C1, C2, G0, G1, hb⟩ := HC.out _ hbx
              go_wp2
              go_loopw [22] (fun i wr => ∃ k : Nat, k ≤ 3 ∧ i = .int .i64 k ∧ Below Z4.heap.size Z4 wr) (fun i _ => 3 - (intOf i).toNat)
              case atStart => exact ⟨0, Nat.zero_le _, rfl, Below.refl _ _⟩
              case round =>
                clear t3
                obtain ⟨k, hk, rfl, hq⟩ := hrel
                have HQ := Lib.hid hq
                replace hbx := hbx.trans (hq.mono hbx.size)
                clear C0 C1 C2 G0 G1 hb
                obtain ⟨C0, C1, C2, G0, G1, hb⟩ := HC.out _ hbx
                by_cases hlt : k < 3
                · have hz := HZ4.out k hlt
                  obtain ⟨ad', had, _, qz⟩ := (HNm2.out wr hq).int (i := k) (by simpa using hlt)
                  cases had
                  generalize ([lo2, hi2, m0] : List Int)[k]?.getD 0 = z at *
                  obtain ⟨hen, hfn⟩ := HSp.out z hz
                  obtain ⟨bb, hbb⟩ : ∃ bb, inB z lo2 hi2 = bb := ⟨_, rfl⟩
                  rw [hbb] at hfn
                  have HWi := Lib.hid (show ∀ X, Below w.heap.size w X → Calls Tryz.prog 49 #[.agg #[.int .i64 s.iv, .slice Ap s.pts.length cp, .slice An s.notes.length cn], .agg #[.int .i64 4, .int .i64 a, .int .i64 c, .int .i64 z, .int .i64 z]] X fun e w' => ∃ v', e = .returned v' ∧ RdSh w'.heap.size w' v' (withS s (slopeX a c z)) ∧ Below X.heap.size X w' from fun X h => lwith_any (slopeX a c z) (HSR.out X h) HSm.out (Nat.le_trans hB h.size))
                  have HFi := Lib.hid (fun (X : World) (v : Value) (hr : RdSh X.heap.size X v (withS s (slopeX a c z))) => fits_at hfn hen hr (show Named (withS s (slopeX a c z)) from HN.out) (Nat.le_refl _))
                  have HIn := Lib.hid (fun (Z : World) => inside_any (w := Z) z lo2 hi2)
                  rw [hbb] at HIn
                  have QC0 := Lib.hid C0; have QC1 := Lib.hid C1; have QC2 := Lib.hid C2; have QZ := Lib.hid qz
                  have HWr := Lib.hid hb
                  clear hen hfn hbb hq C0 C1 C2 G0 G1 hb hbx qz hz
                  go_upto_region 25 with (fail)
                  have hF := FS.keeps (fun k => k == 12) (withS s (slopeX a c z)) (fun jj => ([.agg #[.int .i64 s.iv, .slice Ap s.pts.length cp, .slice An s.notes.length cn], .int .i64 a, .int .i64 c, .slice (some ad2) 3 3, .int .i64 k, .pointer (some (ad2.add k)), .int .i64 z, .slice (some ad2) 3 3, .int .i64 k, .pointer (some (ad2.add k)), .int .i64 z, .agg #[.int .i64 4, .int .i64 a, .int .i64 c, .int .i64 z, .int .i64 z], undef, .tuple #[.bool bb, .int .i64 0], .tuple #[.bool bb, .int .i64 0], .bool bb, .int .i64 0, .bool bb, .int .i64 0] : List Value).getD jj undef)
                  refine wp_region_ghost (BlI wr (FS (fun k => k == 12) (withS s (slopeX a c z)) (fun jj => ([.agg #[.int .i64 s.iv, .slice Ap s.pts.length cp, .slice An s.notes.length cn], .int .i64 a, .int .i64 c, .slice (some ad2) 3 3, .int .i64 k, .pointer (some (ad2.add k)), .int .i64 z, .slice (some ad2) 3 3, .int .i64 k, .pointer (some (ad2.add k)), .int .i64 z, .agg #[.int .i64 4, .int .i64 a, .int .i64 c, .int .i64 z, .int .i64 z], undef, .tuple #[.bool bb, .int .i64 0], .tuple #[.bool bb, .int .i64 0], .bool bb, .int .i64 0, .bool bb, .int .i64 0] : List Value).getD jj undef))) (by kernel_rfl) (by kernel_rfl) BlI.start ?_ ?_
                  · refine ⟨?_, ?_, ?_, ?_, ?_, ?_, ?_, ?_, ?_, ?_, ?_, ?_, ?_, ?_, ?_, ?_, ?_, ?_, ?_, trivial⟩
                    all_goals
                      intro L vs X b hL hw hcl hI hf
                    · have hb := hI.bel
                      have e3 := hf.old 3 (by kernel_rfl)
                      have qQC0 := (hb.cell (cell_lt QC0.out)).trans QC0.out
                      have qQC1 := (hb.cell (cell_lt QC1.out)).trans QC1.out
                      have qQC2 := (hb.cell (cell_lt QC2.out)).trans QC2.out
                      refine wp_of_run (v := .agg #[.int .i64 s.iv, .slice Ap s.pts.length cp, .slice An s.notes.length cn]) (w' := X) (by unfold execOp; go_simp) ?_
                      exact hI.read hF (FS.known rfl)
                    · have hb := hI.bel
                      have e11 := hf.old 11 (by kernel_rfl)
                      refine wp_of_run (v := .int .i64 a) (w' := X) (by unfold execOp; go_simp) ?_
                      exact hI.read hF (FS.known rfl)
                    · have hb := hI.bel
                      have e12 := hf.old 12 (by kernel_rfl)
                      refine wp_of_run (v := .int .i64 c) (w' := X) (by unfold execOp; go_simp) ?_
                      exact hI.read hF (FS.known rfl)
                    · have hb := hI.bel
                      have e21 := hf.old 21 (by kernel_rfl)
                      refine wp_of_run (v := .slice (some ad2) 3 3) (w' := X) (by unfold execOp; go_simp) ?_
                      exact hI.read hF (FS.known rfl)
                    · have hb := hI.bel
                      have e22 := hf.old 22 (by kernel_rfl)
                      refine wp_of_run (v := .int .i64 k) (w' := X) (by unfold execOp; go_simp) ?_
                      exact hI.read hF (FS.known rfl)
                    · have hb := hI.bel
                      have h3 : L 3 = true := done_of hw 3 (by kernel_rfl)
                      have e157 : b.tmps[157]?.getD undef = .slice (some ad2) 3 3 := (hf.new 3 157 rfl h3 (by simp)).trans ((hI.fs 3 h3).2 rfl)
                      have h4 : L 4 = true := done_of hw 4 (by kernel_rfl)
                      have e158 : b.tmps[158]?.getD undef = .int .i64 k := (hf.new 4 158 rfl h4 (by simp)).trans ((hI.fs 4 h4).2 rfl)
                      refine wp_of_run (v := .pointer (some (ad2.add k))) (w' := X) (by unfold execOp; go_simp) ?_
                      exact hI.read hF (FS.known rfl)
                    · have hb := hI.bel
                      have h5 : L 5 = true := done_of hw 5 (by kernel_rfl)
                      have e159 : b.tmps[159]?.getD undef = .pointer (some (ad2.add k)) := (hf.new 5 159 rfl h5 (by simp)).trans ((hI.fs 5 h5).2 rfl)
                      have qQZ := (hb.cell (cell_lt QZ.out)).trans QZ.out
                      refine wp_of_run (v := .int .i64 z) (w' := X) (by unfold execOp; go_simp) ?_
                      exact hI.read hF (FS.known rfl)
                    · have hb := hI.bel
                      have e21 := hf.old 21 (by kernel_rfl)
                      refine wp_of_run (v := .slice (some ad2) 3 3) (w' := X) (by unfold execOp; go_simp) ?_
                      exact hI.read hF (FS.known rfl)
                    · have hb := hI.bel
                      have e22 := hf.old 22 (by kernel_rfl)
                      refine wp_of_run (v := .int .i64 k) (w' := X) (by unfold execOp; go_simp) ?_
                      exact hI.read hF (FS.known rfl)
                    · have hb := hI.bel
                      have h7 : L 7 = true := done_of hw 7 (by kernel_rfl)
                      have e161 : b.tmps[161]?.getD undef = .slice (some ad2) 3 3 := (hf.new 7 161 rfl h7 (by simp)).trans ((hI.fs 7 h7).2 rfl)
                      have h8 : L 8 = true := done_of hw 8 (by kernel_rfl)
                      have e162 : b.tmps[162]?.getD undef = .int .i64 k := (hf.new 8 162 rfl h8 (by simp)).trans ((hI.fs 8 h8).2 rfl)
                      refine wp_of_run (v := .pointer (some (ad2.add k))) (w' := X) (by unfold execOp; go_simp) ?_
                      exact hI.read hF (FS.known rfl)
                    · have hb := hI.bel
                      have h9 : L 9 = true := done_of hw 9 (by kernel_rfl)
                      have e163 : b.tmps[163]?.getD undef = .pointer (some (ad2.add k)) := (hf.new 9 163 rfl h9 (by simp)).trans ((hI.fs 9 h9).2 rfl)
                      have qQZ := (hb.cell (cell_lt QZ.out)).trans QZ.out
                      refine wp_of_run (v := .int .i64 z) (w' := X) (by unfold execOp; go_simp) ?_
                      exact hI.read hF (FS.known rfl)
                    · have hb := hI.bel
                      have h1 : L 1 = true := done_of hw 1 (by kernel_rfl)
                      have e155 : b.tmps[155]?.getD undef = .int .i64 a := (hf.new 1 155 rfl h1 (by simp)).trans ((hI.fs 1 h1).2 rfl)
                      have h2 : L 2 = true := done_of hw 2 (by kernel_rfl)
                      have e156 : b.tmps[156]?.getD undef = .int .i64 c := (hf.new 2 156 rfl h2 (by simp)).trans ((hI.fs 2 h2).2 rfl)
                      have h6 : L 6 = true := done_of hw 6 (by kernel_rfl)
                      have e160 : b.tmps[160]?.getD undef = .int .i64 z := (hf.new 6 160 rfl h6 (by simp)).trans ((hI.fs 6 h6).2 rfl)
                      have h10 : L 10 = true := done_of hw 10 (by kernel_rfl)
                      have e164 : b.tmps[164]?.getD undef = .int .i64 z := (hf.new 10 164 rfl h10 (by simp)).trans ((hI.fs 10 h10).2 rfl)
                      refine wp_of_call (f := 50) (args := #[.int .i64 4, .int .i64 a, .int .i64 c, .int .i64 z, .int .i64 z]) (run_call_clo (.func 50) _ _ rfl (c := #[]) rfl enter50 (by simp [eval_const, eval_tmp e155, eval_tmp e156, eval_tmp e160, eval_tmp e164])) ?_
                      refine (lnote_any _ _ _ _ _ X).mono ?_
                      rintro e wz ⟨rfl, hbz⟩
                      exact ⟨_, rfl, hI.step hF hbz (FS.known rfl)⟩
                    · have hb := hI.bel
                      have h0 : L 0 = true := done_of hw 0 (by kernel_rfl)
                      have e154 : b.tmps[154]?.getD undef = .agg #[.int .i64 s.iv, .slice Ap s.pts.length cp, .slice An s.notes.length cn] := (hf.new 0 154 rfl h0 (by simp)).trans ((hI.fs 0 h0).2 rfl)
                      have h11 : L 11 = true := done_of hw 11 (by kernel_rfl)
                      have e165 : b.tmps[165]?.getD undef = .agg #[.int .i64 4, .int .i64 a, .int .i64 c, .int .i64 z, .int .i64 z] := (hf.new 11 165 rfl h11 (by simp)).trans ((hI.fs 11 h11).2 rfl)
                      refine wp_of_call (f := 49) (args := #[.agg #[.int .i64 s.iv, .slice Ap s.pts.length cp, .slice An s.notes.length cn], .agg #[.int .i64 4, .int .i64 a, .int .i64 c, .int .i64 z, .int .i64 z]]) (run_call_clo (.func 49) _ _ rfl (c := #[]) rfl enter49 (by simp [eval_tmp e154, eval_tmp e165])) ?_
                      refine (HWi.out X (HWr.out.trans (hb.mono HWr.out.size))).mono ?_
                      rintro e wz ⟨v', rfl, hs', hbz⟩
                      exact ⟨v', rfl, hI.step hF hbz ⟨fun _ => hs', fun h => by cases h⟩⟩
                    · have hb := hI.bel
                      have h12 : L 12 = true := done_of hw 12 (by kernel_rfl)
                      have e166 : b.tmps[166]?.getD undef = vs 12 := hf.new 12 166 rfl h12 (by simp)
                      refine wp_of_call (f := 21) (args := #[vs 12]) (run_call_clo (.func 21) _ _ rfl (c := #[]) rfl enter21 (by simp [eval_tmp e166])) ?_
                      refine (HFi.out X (vs 12) ((hI.fs 12 h12).1 rfl)).mono ?_
                      rintro e wz ⟨rfl, hbz⟩
                      exact ⟨_, rfl, hI.step hF hbz (FS.known rfl)⟩
                    · have hb := hI.bel
                      have h13 : L 13 = true := done_of hw 13 (by kernel_rfl)
                      have e167 : b.tmps[167]?.getD undef = .tuple #[.bool bb, .int .i64 0] := (hf.new 13 167 rfl h13 (by simp)).trans ((hI.fs 13 h13).2 rfl)
                      refine wp_of_run (v := .tuple #[.bool bb, .int .i64 0]) (w' := X) (by unfold execOp; go_simp) ?_
                      exact hI.read hF (FS.known rfl)
                    · have hb := hI.bel
                      have h14 : L 14 = true := done_of hw 14 (by kernel_rfl)
                      have e153 : b.tmps[153]?.getD undef = .tuple #[.bool bb, .int .i64 0] := (hf.new 14 153 rfl h14 (by simp)).trans ((hI.fs 14 h14).2 rfl)
                      refine wp_of_run (v := .bool bb) (w' := X) (by unfold execOp; go_simp) ?_
                      exact hI.read hF (FS.known rfl)
                    · have hb := hI.bel
                      have h14 : L 14 = true := done_of hw 14 (by kernel_rfl)
                      have e153 : b.tmps[153]?.getD undef = .tuple #[.bool bb, .int .i64 0] := (hf.new 14 153 rfl h14 (by simp)).trans ((hI.fs 14 h14).2 rfl)
                      refine wp_of_run (v := .int .i64 0) (w' := X) (by unfold execOp; go_simp) ?_
                      exact hI.read hF (FS.known rfl)
                    · have hb := hI.bel
                      have h15 : L 15 = true := done_of hw 15 (by kernel_rfl)
                      have e168 : b.tmps[168]?.getD undef = .bool bb := (hf.new 15 168 rfl h15 (by simp)).trans ((hI.fs 15 h15).2 rfl)
                      refine wp_of_run (v := .bool bb) (w' := X) (by unfold execOp; go_simp) ?_
                      exact hI.read hF (FS.known rfl)
                    · have hb := hI.bel
                      have h16 : L 16 = true := done_of hw 16 (by kernel_rfl)
                      have e169 : b.tmps[169]?.getD undef = .int .i64 0 := (hf.new 16 169 rfl h16 (by simp)).trans ((hI.fs 16 h16).2 rfl)
                      refine wp_of_run (v := .int .i64 0) (w' := X) (by unfold execOp; go_simp) ?_
                      exact hI.read hF (FS.known rfl)
                  · intro vs X hI
                    have e16 := (hI.fs 17 rfl).2 rfl
                    have e17 := (hI.fs 18 rfl).2 rfl
                    have hbX := hI.bel
                    clear hI hF
                    simp [fill, slotOf, Act.put]
                    simp only [Exit.inBlock, Exit.then]
                    rw [e16, e17]
                    simp only [List.getD_cons_succ, List.getD_cons_zero]
                    clear e16 e17
                    generalize vs 0 = u0
                    generalize vs 1 = u1
                    generalize vs 2 = u2
                    generalize vs 3 = u3
                    generalize vs 4 = u4
                    generalize vs 5 = u5
                    generalize vs 6 = u6
                    generalize vs 7 = u7
                    generalize vs 8 = u8
                    generalize vs 9 = u9
                    generalize vs 10 = u10
                    generalize vs 11 = u11
                    generalize vs 12 = u12
                    generalize vs 13 = u13
                    generalize vs 14 = u14
                    generalize vs 15 = u15
                    generalize vs 16 = u16
                    generalize vs 17 = u17
                    generalize vs 18 = u18

                    have ru1 := (hbX.block _ (lt_of_block ((HQ.out.block _ (lt_of_block RU1.out)).trans RU1.out))).trans ((HQ.out.block _ (lt_of_block RU1.out)).trans RU1.out)
                    have f0 := Aft.cell (cellOf ru1 0 (v := .int .i64 lo2) rfl)
                    have f1 := Aft.cell (cellOf ru1 1 (v := .int .i64 hi2) rfl)
                    have f2 := Aft.cell ((hbX.cell (cell_lt QZ.out)).trans QZ.out)
                    have HbX := Lib.hid hbX
                    clear hbX ru1
                    cases bb
                    all_goals
                      go_upto_region 26 with (fail)
                      refine wp_region_aft (by kernel_rfl) (by kernel_rfl) ?_
                      repeat (first | go_big_quiet_step ((go_at_call 47; exact Aft.call (HIn.out _))) | quiet_step ((go_at_call 47; exact Aft.call (HIn.out _))))
                      refine wpQuiet_nil ?_
                      rintro _ ⟨⟨wx, hbx2⟩, rfl⟩
                      have HQ2 := Lib.hid (HQ.out.trans ((HbX.out.trans (hbx2.mono HbX.out.size)).mono HQ.out.size))
                      clear hbx2 f0 f1 f2
                      go_wp2
                      go_roundw
                      case rel => exact ⟨k + 1, by omega, by go_num, HQ2.out⟩
                      case measure => simp [intOf]; omega
                · have t3 : decide ((k : Int) < 3) = false := decide_eq_false (by omega)
                  clear hlt hk hq
                  go_wp2_with (go_at_call 20; (with_reducible refine Calls.mono (HA.out _ hb) ?_); rintro e X ⟨rfl, h4⟩; replace hbx := hbx.trans (h4.mono hbx.size); clear C0 C1 C2 G0 G1 hb h4; obtain ⟨C0, C1, C2, G0, G1, hb⟩ := HC.out _ hbx)
                  go_ret
                  exact ⟨rfl, hb⟩
      · have H1 := Lib.hid (HG.out 9 hs0)
        have hf0 : fitsB s = false := by
          cases hf : fitsB s with
          | false => rfl
          | true => exact absurd ((fitsB_iff hg).1 hf) hno
        have HFi := Lib.hid (fun (Z : World) (h : Below w.heap.size w Z) => fits_at hf0 hv (HSR.out Z h) HN.out (Nat.le_trans hB h.size))
        clear HG hs0 hno hf0 hg hv hnl
        go_upto_region 3 with (go_at_call 44; (with_reducible refine Calls.mono (HV.out _ hb) ?_); rintro e X ⟨rfl, h4⟩; replace hbx := hbx.trans (h4.mono hbx.size); clear C0 C1 C2 G0 G1 hb h4; obtain ⟨C0, C1, C2, G0, G1, hb⟩ := HC.out _ hbx)
        go_upto_region 4 with (go_at_call 23; (with_reducible refine Calls.mono (H1.out _ hb) ?_); rintro e X ⟨A1, c1, rfl, hr1, h4⟩; replace hbx := hbx.trans (h4.mono hbx.size); clear C0 C1 C2 G0 G1 hb h4; obtain ⟨C0, C1, C2, G0, G1, hb⟩ := HC.out _ hbx)
        go_wp2_with (first | (go_at_call 21; (with_reducible refine Calls.mono (HFi.out _ hb) ?_); rintro e X ⟨rfl, h4⟩; replace hbx := hbx.trans (h4.mono hbx.size); clear C0 C1 C2 G0 G1 hb h4; obtain ⟨C0, C1, C2, G0, G1, hb⟩ := HC.out _ hbx) | (go_at_call 20; (with_reducible refine Calls.mono (HA.out _ hb) ?_); rintro e X ⟨rfl, h4⟩; replace hbx := hbx.trans (h4.mono hbx.size); clear C0 C1 C2 G0 G1 hb h4; obtain ⟨C0, C1, C2, G0, G1, hb⟩ := HC.out _ hbx))
        go_ret
        exact ⟨rfl, hb⟩
  · have hd : decide (errOf s = 0) = false := decide_eq_false hv
    rw [hd] at HV
    clear hd hv
    go_wp2_with (first | (go_at_call 44; (with_reducible refine Calls.mono (HV.out _ hb) ?_); rintro e X ⟨rfl, h4⟩; replace hbx := hbx.trans (h4.mono hbx.size); clear C0 C1 C2 G0 G1 hb h4; obtain ⟨C0, C1, C2, G0, G1, hb⟩ := HC.out _ hbx) | (go_at_call 20; (with_reducible refine Calls.mono (HA.out _ hb) ?_); rintro e X ⟨rfl, h4⟩; replace hbx := hbx.trans (h4.mono hbx.size); clear C0 C1 C2 G0 G1 hb h4; obtain ⟨C0, C1, C2, G0, G1, hb⟩ := HC.out _ hbx))
    go_ret
    exact ⟨rfl, hb⟩
end Go.Proofs.YtajdgdelhlfniaaGreatDoor
