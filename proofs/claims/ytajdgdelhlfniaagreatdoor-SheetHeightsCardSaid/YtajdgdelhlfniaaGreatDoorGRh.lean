/- Walks of the reference of the layer sheet: Heights, Top. Walks of the reference of the layer sheet: Highest, Apart. -/
import Derived.Test.YtajdgdelhlfniaaGreatDoorGBd
import Derived.Test.YtajdgdelhlfniaaGreatDoorGMx
set_option linter.unusedSimpArgs false
set_option linter.unusedVariables false
namespace Go.Proofs.YtajdgdelhlfniaaGreatDoor
open Go.RowKit

set_option maxRecDepth 100000 in
set_option maxHeartbeats 4000000 in
theorem rheights_any {B : Nat} {w : World} {v : Value} {s : ShR} (hs : RdSh B w v s) (hn : Named s) (hB : B ≤ w.heap.size) :
    Calls Tryz.prog 24 #[v] w fun e w' => ∃ A c, e = .returned (.tuple #[.slice A (heightsF s).length c, .int .i64 (openE s)]) ∧ Rd SpanAt 2 w'.heap.size w' (.slice A (heightsF s).length c) (heightsF s) ∧ Below w.heap.size w w' := by
  obtain ⟨vp, vn, rfl, hp, ho⟩ := id hs
  obtain ⟨Ap, cp, rfl, _⟩ := id hp
  obtain ⟨An, cn, rfl, _⟩ := id ho
  have HSR := Lib.hid (fun (X : World) (hb : Below w.heap.size w X) => hs.below (hb.mono hB))
  obtain ⟨W1, hW1, r1, z1, b1⟩ := box_any w #[.int .i64 s.iv, .slice Ap s.pts.length cp, .slice An s.notes.length cn] 25
  have HC : Hid (∀ Z : World, Below W1.heap.size W1 Z → Z.cell? ⟨w.heap.size, 0, none⟩ = some (.int .i64 s.iv) ∧ Z.cell? ⟨w.heap.size, 1, none⟩ = some (.slice Ap s.pts.length cp) ∧ Z.cell? ⟨w.heap.size, 2, none⟩ = some (.slice An s.notes.length cn) ∧ Below w.heap.size w Z) :=
    Lib.hid fun Z h => by
      have j1 := (h.block _ (lt_of_block r1)).trans r1
      exact ⟨cellOf j1 0 rfl, cellOf j1 1 rfl, cellOf j1 2 rfl, b1.trans (h.mono b1.size)⟩
  have HZ := Lib.hid (show w.heap.size ≤ W1.heap.size by omega)
  have hbx : Below W1.heap.size W1 W1 := Below.refl _ _
  obtain ⟨C0, C1, C2, hb⟩ := HC.out _ hbx
  clear hp ho r1 z1 b1
  by_cases h0 : openE s = 0
  · have hg := good_of_open h0
    have hpl := hg.plen
    have HF := Lib.hid (heights_ref h0)
    have HBo := Lib.hid (fun (X : World) (hb : Below w.heap.size w X) => rbound_ok h0 (HSR.out X hb) hn (Nat.le_trans hB hb.size))
    have HRg := Lib.hid (fun i k (hi : i < s.pts.length + 1) (hk : k < s.pts.length + 1) => refT_range h0 hi hk)
    rw [h0]
    clear hg h0 hs
    go_enter Tryz.func24, Tryz.ntmps24
    go_upto_region 1 with (fail)
    rw [← hW1]
    clear hW1
    go_upto_region 2 with (go_at_call 71; (with_reducible refine Calls.mono (HBo.out _ hb) ?_); rintro e X ⟨g, cg, R, C, rfl, hmx, h4⟩; have HMx := Lib.hid hmx; clear hmx; have HXb := Lib.hid (Below.refl X.heap.size X); have HXs := Lib.hid h4.size; replace hbx := hbx.trans (h4.mono hbx.size); clear C0 C1 C2 hb h4; obtain ⟨C0, C1, C2, hb⟩ := HC.out _ hbx)
    obtain ⟨wb, rfl⟩ : ∃ wb : World, wb = X := ⟨_, rfl⟩
    have HM : Hid (∀ Z, Below wb.heap.size wb Z → MxAt _ Z g (s.pts.length + 1) R C (refT s)) := Lib.hid fun Z hZ => HMx.out.below hZ
    clear HMx
    go_wp2
    have Hbx := Lib.hid hbx
    clear C0 C1 C2 hb hbx
    go_loopw [6, 8] (fun lv i wr => ∃ (k : Nat) (A : Option Addr) (c : Nat), k ≤ s.pts.length ∧ i = .int .i64 k ∧ lv = .slice A k c ∧ Own wb.heap.size 40 wr (.slice A k c) (heightsR (refT s) s.pts.length k) ∧ Below wb.heap.size wb wr) (fun _ i _ => s.pts.length - (intOf i).toNat)
    case atStart => exact ⟨0, none, 0, Nat.zero_le _, rfl, rfl, Own.nil _ _ _, Below.refl _ _⟩
    case round =>
      obtain ⟨k, A, c, hk, rfl, rfl, hown, hbr⟩ := hrel
      by_cases hlt : k < s.pts.length
      · have hm := HM.out wr hbr
        have p0 := hm.top k (by omega)
        have p1 := hm.top s.pts.length (by omega)
        have c0 := hm.cell k s.pts.length (by omega) (by omega)
        have c1 := hm.cell s.pts.length k (by omega) (by omega)
        have q1 := HRg.out k s.pts.length (by omega) (by omega)
        have HSn := Lib.hid (heightsR_snoc (refT s) s.pts.length k)
        have HLn := Lib.hid (heightsR_len (refT s) s.pts.length k)
        have Hown := Lib.hid hown
        have Hbr := Lib.hid hbr
        have hk1 : k < s.pts.length + 1 := by omega
        have hk2 : s.pts.length < s.pts.length + 1 := by omega
        clear hown hbr hm
        generalize heightsR (refT s) s.pts.length k = l at *
        generalize refT s k s.pts.length = x1 at *
        generalize refT s s.pts.length k = x2 at *
        have s1 : IntKind.i64.wrap (-x1) = -x1 := IntWalk.i64_in _ (by omega)
        go_upto_region 9 with (fail)
        refine region_move_quiet_tail2 (C := fun w' => ∃ n, w' = wr.drewN n) 17 _ rfl rfl (by kernel_rfl) (by kernel_rfl) ⟨1, rfl⟩ ?_
        simp only [List.take_succ_cons, List.take_zero, List.drop_succ_cons, List.drop_zero, Nat.reduceSub]
        repeat (first | go_big_quiet_step (fail) | quiet_step (fail))
        refine wpQuiet_nil ?_
        rintro _ ⟨n1, rfl⟩
        obtain ⟨wq, hwq⟩ : ∃ wq, wq = wr.drewN n1 := ⟨_, rfl⟩
        rw [← hwq]
        have hownq : Own wb.heap.size 40 wq (.slice A k c) l := by rw [hwq]; exact Hown.out.qt ⟨n1, rfl⟩
        have hbq : Below wb.heap.size wb wq := by rw [hwq]; exact below_drewN Hbr.out n1
        obtain ⟨A2, c2', w2, hrun, hown2, hb2, _⟩ := append_span hownq (-x1, x2) (by rw [HLn.out]; omega) hbq.size
        rw [HLn.out] at hrun hown2
        have Hown2 := Lib.hid hown2
        have Hb2 := Lib.hid (hbq.trans hb2)
        clear hwq hownq hbq hown2 hb2 p0 p1 c0 c1
        go_wp2_with (at_builtin; refine wpList_append_run rfl _ _ _ rfl rfl rfl hrun ?_)
        refine NoPanic.normal ?_
        simp only [Exit.inBlock, Exit.then]
        go_wp2
        go_roundw
        case rel => exact ⟨k + 1, A2, c2', by omega, by go_num, rfl, by rw [HSn.out]; exact Hown2.out, Hb2.out⟩
        case measure => simp [intOf]; omega
      · have hkn : k = s.pts.length := by omega
        subst hkn
        have Hown := Lib.hid hown
        have Hbr := Lib.hid hbr
        have HLn := Lib.hid (heightsR_len (refT s) s.pts.length s.pts.length)
        clear hown hbr
        go_wp2
        go_ret2
        refine ⟨A, c, ?_, ?_, ?_⟩
        · rw [← HF.out, HLn.out]; rfl
        · rw [← HF.out, HLn.out]
          have := Hown.out.rd
          exact this
        · exact (HC.out _ Hbx.out).2.2.2.trans (Hbr.out.mono (HC.out _ Hbx.out).2.2.2.size)
  · have HBo := Lib.hid (fun (X : World) (hb : Below w.heap.size w X) => rbound_err h0 (HSR.out X hb) hn (Nat.le_trans hB hb.size))
    have hF : heightsF s = [] := by unfold heightsF; rw [if_pos h0]
    have hne : (openE s != 0) = true := by simp [h0]
    rw [hF]
    generalize openE s = er at *
    clear h0 hs hF
    go_enter Tryz.func24, Tryz.ntmps24
    go_upto_region 1 with (fail)
    rw [← hW1]
    clear hW1
    go_wp2_with (go_at_call 71; (with_reducible refine Calls.mono (HBo.out _ hb) ?_); rintro e X ⟨rfl, h4⟩; replace hbx := hbx.trans (h4.mono hbx.size); clear C0 C1 C2 hb h4; obtain ⟨C0, C1, C2, hb⟩ := HC.out _ hbx)
    go_ret2
    exact ⟨none, 0, rfl, Rd.nil _ _, hb⟩

set_option maxRecDepth 100000 in
set_option maxHeartbeats 4000000 in
theorem rtop_any {base : Nat} {w : World} {g N c : Nat} {R C : Nat → Nat} {t : Mat} (p : Nat) (h : MxAt base w g N R C t) (hN : N ≤ 9) (hN0 : 0 < N) (hp : p < N) (hr : ∀ a b, a < N → b < N → -9000 ≤ t a b ∧ t a b ≤ 9000) :
    Calls Tryz.prog 73 #[.slice (some ⟨g, 0, none⟩) N c, .int .i64 p] w fun e w' => e = .returned (.bool (diagB N (fwM N (topR t p (N - 1))))) ∧ Below w.heap.size w w' := by
  have HM : Hid (∀ Z, Below w.heap.size w Z → MxAt base Z g N R C t) := Lib.hid fun Z hZ => h.below hZ
  have HRg := Lib.hid hr
  clear h hr
  go_enter Tryz.func73, Tryz.ntmps73
  go_wp2
  go_loopw [5, 6] (fun lv i wr => ∃ (k : Nat) (A : Option Addr) (c : Nat) (hs : List SlH), k ≤ N ∧ i = .int .i64 k ∧ lv = .slice A k c ∧ Own w.heap.size 43 wr (.slice A k c) hs ∧ RowsO w.heap.size wr hs (rowsL t N k) ∧ Below w.heap.size w wr) (fun _ i _ => N - (intOf i).toNat)
  case atStart => exact ⟨0, none, 0, [], Nat.zero_le _, rfl, rfl, Own.nil _ _ _, RowsO.nil _ _, Below.refl _ _⟩
  case round =>
    obtain ⟨k, A, ca, hs, hk, rfl, rfl, hown, hrows, hbr⟩ := hrel
    have hln : hs.length = k := by rw [hrows.len, rowsL_len]
    by_cases hlt : k < N
    · have hm := HM.out wr hbr
      have p0 := hm.top k hlt
      have hcap := hm.cap k hlt
      -- the empty literal
      have E0 : Own wr.heap.size 3 (wr.alloc (.cells #[] 3)) (.slice (some ⟨wr.heap.size, 0, none⟩) 0 0) ([] : List Int) := own_empty_at (heap_alloc_new wr _) (Nat.le_refl _)
      have hbE : Below wr.heap.size wr (wr.alloc (.cells #[] 3)) := (Below.refl _ _).alloc (Nat.le_refl _) _
      have hrow : Rd IntAt 1 wr.heap.size (wr.alloc (.cells #[] 3)) (.slice (some ⟨R k, 0, none⟩) (rowL t N k).length (C k)) (rowL t N k) := by
        refine ⟨_, _, rfl, by rw [rowL_len]; exact hcap, hm.capM k hlt, fun i x hi => ⟨_, rfl, hm.rlt k hlt, ?_⟩⟩
        have hi2 := (List.getElem?_eq_some_iff.1 hi).1
        rw [rowL_len] at hi2
        have hadd : (⟨R k, 0, none⟩ : Addr).add (i * 1) = ⟨R k, i, none⟩ := by unfold Addr.add; split <;> simp_all
        rw [hadd]
        have hv := rowL_at (t := t) (i := k) hi2
        rw [hi] at hv
        have hc := hm.cell k i hlt hi2
        rw [← hv] at hc
        exact (hbE.cell (p := ⟨R k, i, none⟩) (hm.rlt k hlt)).trans hc
      obtain ⟨A1, c1, w1, hrun1, hown1, hb1, hz1⟩ := append_ints E0 hrow (by rw [rowL_len]; simp; omega) (by simp)
      simp only [List.length_nil, List.nil_append, Nat.zero_add, rowL_len] at hrun1 hown1
      have hb01 : Below wr.heap.size wr w1 := hbE.trans hb1
      have hown' := hown.below hb01
      obtain ⟨A2, c2, w2, hrun2, hown2, hb2, hz2, _, _, _, hst2⟩ := append_slh hown' ⟨A1, N, c1⟩ (by rw [hln]; omega) (Nat.le_trans hbr.size hz1)
      rw [hln] at hrun2 hown2
      have HOwn2 := Lib.hid hown2
      have HRows2 := Lib.hid (show RowsO w.heap.size w2 (hs ++ [⟨A1, N, c1⟩]) (rowsL t N (k + 1)) by
        rw [rowsL_snoc]
        refine RowsO.snoc (B := wr.heap.size) hrows (fun b cs f hb hh => ?_) hbr.size (Nat.le_refl _) (hown1.keepD fun b cs f hb hh => hst2 b _ hh (by intro c f h; cases h))
        exact hst2 b _ ((hb01.block b (lt_of_block hh)).trans hh) (by intro c f h; cases h))
      have HBr2 := Lib.hid (hbr.trans ((hb01.mono hbr.size).trans hb2))
      have p0' := (hbE.cell (p := ⟨g, k, none⟩) hm.lt).trans p0
      have hsv : SlH.val ⟨A1, N, c1⟩ = .slice A1 N c1 := rfl
      rw [hsv] at hrun2
      clear hown hrows hm E0 hbE hrow hown1 hb1 hz1 hb01 hown' hown2 hb2 hz2 hst2 hsv hbr hln hcap
      go_wp2_with (first | (at_builtin; refine wpList_append_run rfl _ _ _ rfl rfl rfl hrun1 ?_) | (at_builtin; refine wpList_append_run rfl _ _ _ rfl rfl rfl hrun2 ?_))
      go_roundw
      case rel => exact ⟨k + 1, A2, c2, _, by omega, by go_num, rfl, HOwn2.out, HRows2.out, HBr2.out⟩
      case measure => simp [intOf]; omega
    · have hke : k = N := by omega
      subst hke
      obtain ⟨g2, R2, C2, rfl, hm2⟩ := hrows.mx hown hN0
      have HM2 := Lib.hid hm2
      have HBr := Lib.hid hbr
      clear hown hrows hbr hln hm2 HM
      go_wp2
      obtain ⟨wo, rfl⟩ : ∃ wo : World, wo = wr := ⟨_, rfl⟩
      go_loopw [7] (fun i wr => ∃ n : Nat, n + 1 ≤ k ∧ i = .int .i64 n ∧ MxAt w.heap.size wr g2 k R2 C2 (topR t p n) ∧ Below w.heap.size w wr) (fun i _ => k - (intOf i).toNat)
      case atStart => exact ⟨0, by omega, rfl, by rw [topR_zero]; exact HM2.out, HBr.out⟩
      case round =>
        obtain ⟨n, hn, rfl, hm, hb⟩ := hrel
        have w1 : IntKind.i64.wrap ((n : Int) + 1) = (n : Int) + 1 := IntWalk.i64_in _ (by omega)
        by_cases hnl : n + 1 < k
        · have hnk : n < k := by omega
          have p0 := hm.top p hp
          have c0 := hm.cell p n hp hnk
          have fz := hm.fz p n hp hnk
          have HS := Lib.hid (show ∀ Z, Qt wr Z → MxAt w.heap.size (Z.setCell ⟨R2 p, n, none⟩ _) g2 k R2 C2 (topR t p (n + 1)) from fun Z hq => by rw [← topR_step]; exact (hm.qt hq).set hp hnk _)
          have HBn := Lib.hid (show ∀ Z, Qt wr Z → ∀ v, Below w.heap.size w (Z.setCell ⟨R2 p, n, none⟩ v) from fun Z hq v => (hm.qt hq).setB hp (Nat.le_refl _) (hb.trans (hq.below _)) n v)
          have hlt1 : ((n : Int) + 1 < (k : Int)) := by omega
          clear hm hb
          generalize topR t p n p n = x0 at *
          go_wp2
          refine region_quiet_tail (C := fun w' => ∃ n, w' = wr.drewN n) 13 (by kernel_rfl) (by kernel_rfl) ⟨1, rfl⟩ ?_
          simp only [List.take_succ_cons, List.take_zero, List.drop_succ_cons, List.drop_zero]
          repeat (first | go_big_quiet_step (fail) | quiet_step (fail))
          refine wpQuiet_nil ?_
          rintro _ ⟨n1, rfl⟩
          go_wp2
          go_roundw
          case rel => exact ⟨n + 1, by omega, by go_num, HS.out _ ⟨n1, rfl⟩, HBn.out _ ⟨n1, rfl⟩ _⟩
          case measure => simp [intOf]; omega
        · have hne : n = k - 1 := by omega
          have HNr := Lib.hid (narrow_any (c := ca) (hm.congr (fun _ _ _ _ => rfl)) hN (fun a b ha hb => by
            have := HRg.out a b ha hb
            unfold topR
            split <;> omega))
          have HB3 := Lib.hid hb
          have HNe := Lib.hid hne
          clear hm hb hne
          have hlt1 : ¬ ((n : Int) + 1 < (k : Int)) := by omega
          go_wp2_with (go_at_call 96; (with_reducible refine Calls.mono HNr.out ?_); rintro e X ⟨rfl, _, h4⟩)
          go_ret
          exact ⟨by rw [← HNe.out]; rfl, HB3.out.trans h4⟩

end Go.Proofs.YtajdgdelhlfniaaGreatDoor
namespace Go.Proofs.YtajdgdelhlfniaaGreatDoor
open Go.RowKit

set_option maxRecDepth 100000 in
set_option maxHeartbeats 4000000 in
theorem rhighest_any {B : Nat} {w : World} {v : Value} {s : ShR} (hs : RdSh B w v s) (hn : Named s) (hB : B ≤ w.heap.size) :
    Calls Tryz.prog 29 #[v] w fun e w' => ∃ A c, e = .returned (.tuple #[.slice A (highestF s).length c, .int .i64 (openE s)]) ∧ Rd IntAt 1 w'.heap.size w' (.slice A (highestF s).length c) (highestF s) ∧ Below w.heap.size w w' := by
  obtain ⟨vp, vn, rfl, hp, ho⟩ := id hs
  obtain ⟨Ap, cp, rfl, _⟩ := id hp
  obtain ⟨An, cn, rfl, _⟩ := id ho
  have HSR := Lib.hid (fun (X : World) (hb : Below w.heap.size w X) => hs.below (hb.mono hB))
  obtain ⟨W1, hW1, r1, z1, b1⟩ := box_any w #[.int .i64 s.iv, .slice Ap s.pts.length cp, .slice An s.notes.length cn] 25
  have HC : Hid (∀ Z : World, Below W1.heap.size W1 Z → Z.cell? ⟨w.heap.size, 0, none⟩ = some (.int .i64 s.iv) ∧ Z.cell? ⟨w.heap.size, 1, none⟩ = some (.slice Ap s.pts.length cp) ∧ Z.cell? ⟨w.heap.size, 2, none⟩ = some (.slice An s.notes.length cn) ∧ Below w.heap.size w Z) :=
    Lib.hid fun Z h => by
      have j1 := (h.block _ (lt_of_block r1)).trans r1
      exact ⟨cellOf j1 0 rfl, cellOf j1 1 rfl, cellOf j1 2 rfl, b1.trans (h.mono b1.size)⟩
  have HZ := Lib.hid (show w.heap.size ≤ W1.heap.size by omega)
  have hbx : Below W1.heap.size W1 W1 := Below.refl _ _
  obtain ⟨C0, C1, C2, hb⟩ := HC.out _ hbx
  clear hp ho r1 z1 b1
  by_cases h0 : openE s = 0
  · have hg := good_of_open h0
    have hpl := hg.plen
    have HF := Lib.hid (highest_ref h0)
    have HBo := Lib.hid (fun (X : World) (hb : Below w.heap.size w X) => rbound_ok h0 (HSR.out X hb) hn (Nat.le_trans hB hb.size))
    have HRg := Lib.hid (fun i k (hi : i < s.pts.length + 1) (hk : k < s.pts.length + 1) => refT_range h0 hi hk)
    rw [h0]
    clear hg h0 hs
    go_enter Tryz.func29, Tryz.ntmps29
    go_upto_region 1 with (fail)
    rw [← hW1]
    clear hW1
    go_upto_region 2 with (go_at_call 71; (with_reducible refine Calls.mono (HBo.out _ hb) ?_); rintro e X ⟨g, cg, R, C, rfl, hmx, h4⟩; have HMx := Lib.hid hmx; clear hmx; have HXb := Lib.hid (Below.refl X.heap.size X); have HXs := Lib.hid h4.size; replace hbx := hbx.trans (h4.mono hbx.size); clear C0 C1 C2 hb h4; obtain ⟨C0, C1, C2, hb⟩ := HC.out _ hbx)
    obtain ⟨wb, rfl⟩ : ∃ wb : World, wb = X := ⟨_, rfl⟩
    have HTp : Hid (∀ (Z : World) (_ : Below wb.heap.size wb Z) (p : Nat), p < s.pts.length + 1 → Calls Tryz.prog 73 #[.slice (some ⟨g, 0, none⟩) (s.pts.length + 1) cg, .int .i64 p] Z fun e w' => e = .returned (.bool (refTop s p)) ∧ Below Z.heap.size Z w') :=
      Lib.hid fun Z hZ p hp => rtop_any p (HMx.out.below hZ) (by omega) (by omega) hp (fun a b ha hb => HRg.out a b ha hb)
    clear HMx
    go_wp2
    have Hbx := Lib.hid hbx
    have Q1 := Lib.hid C1
    clear C0 C1 C2 hb hbx
    go_loopw [6, 7] (fun lv i wr => ∃ (k len : Nat) (A : Option Addr) (c : Nat), k ≤ s.pts.length ∧ i = .int .i64 k ∧ lv = .slice A len c ∧ (highestR s k).length = len ∧ Own wb.heap.size 3 wr (.slice A len c) (highestR s k) ∧ Below wb.heap.size wb wr) (fun _ i _ => s.pts.length - (intOf i).toNat)
    case atStart => exact ⟨0, 0, none, 0, Nat.zero_le _, rfl, rfl, rfl, Own.nil _ _ _, Below.refl _ _⟩
    case round =>
      obtain ⟨k, len, A, c, hk, rfl, rfl, hln, hown, hbr⟩ := hrel
      have HLn := Lib.hid hln
      have Hown := Lib.hid hown
      have Hbr := Lib.hid hbr
      have q1 := (hbr.cell (p := ⟨w.heap.size, 1, none⟩) (cell_lt Q1.out)).trans Q1.out
      clear hown hln
      by_cases hlt : k < s.pts.length
      · have HTp := Lib.hid (HTp.out wr hbr k (by omega))
        clear hbr
        have hbr : True := trivial
        cases hd : refTop s k with
        | true =>
          have HTp := Lib.hid (show ∀ _ : True, _ from fun _ => HTp.out)
          rw [hd] at HTp
          have HY := Lib.hid (highestR_yes hd)
          have HLe := Lib.hid (highestR_le s k)
          clear hd
          generalize highestR s k = l at *
          go_upto_region 9 with (go_at_call 73; (with_reducible refine Calls.mono (HTp.out trivial) ?_); rintro e X ⟨rfl, h4⟩)
          have hown1 := Hown.out.below h4
          have hbr1 := Hbr.out.trans (h4.mono Hbr.out.size)
          obtain ⟨A2, c2', w2, hrun, hown2, hb2, _⟩ := append_int hown1 (k : Int) (by have := HLe.out; omega) hbr1.size
          rw [HLn.out] at hrun hown2
          have Hown2 := Lib.hid hown2
          have Hb2 := Lib.hid (hbr1.trans hb2)
          clear hown1 hbr1 hown2 hb2 h4 q1
          go_wp2_with (at_builtin; refine wpList_append_run rfl _ _ _ rfl rfl rfl hrun ?_)
          go_roundw
          case rel => exact ⟨k + 1, len + 1, A2, c2', by omega, by go_num, rfl, by rw [HY.out, List.length_append, HLn.out]; rfl, by rw [HY.out]; exact Hown2.out, Hb2.out⟩
          case measure => simp [intOf]; omega
        | false =>
          have HTp := Lib.hid (show ∀ _ : True, _ from fun _ => HTp.out)
          rw [hd] at HTp
          have HY := Lib.hid (highestR_no hd)
          clear hd
          go_upto_region 7 with (go_at_call 73; (with_reducible refine Calls.mono (HTp.out trivial) ?_); rintro e X ⟨rfl, h4⟩)
          have Hown2 := Lib.hid (Hown.out.below h4)
          have Hb2 := Lib.hid (Hbr.out.trans (h4.mono Hbr.out.size))
          clear h4 q1
          go_wp2
          go_roundw
          case rel => exact ⟨k + 1, len, A, c, by omega, by go_num, rfl, by rw [HY.out]; exact HLn.out, by rw [HY.out]; exact Hown2.out, Hb2.out⟩
          case measure => simp [intOf]; omega
      · have hkn : k = s.pts.length := by omega
        subst hkn
        clear hbr
        go_wp2
        go_ret2
        refine ⟨A, c, ?_, ?_, ?_⟩
        · rw [← HF.out, HLn.out]; rfl
        · rw [← HF.out, HLn.out]
          have := Hown.out.rd
          exact this
        · exact (HC.out _ Hbx.out).2.2.2.trans (Hbr.out.mono (HC.out _ Hbx.out).2.2.2.size)
  · have HBo := Lib.hid (fun (X : World) (hb : Below w.heap.size w X) => rbound_err h0 (HSR.out X hb) hn (Nat.le_trans hB hb.size))
    have hF : highestF s = [] := by unfold highestF; rw [if_pos h0]
    have hne : (openE s != 0) = true := by simp [h0]
    rw [hF]
    generalize openE s = er at *
    clear h0 hs hF
    go_enter Tryz.func29, Tryz.ntmps29
    go_upto_region 1 with (fail)
    rw [← hW1]
    clear hW1
    go_wp2_with (go_at_call 71; (with_reducible refine Calls.mono (HBo.out _ hb) ?_); rintro e X ⟨rfl, h4⟩; replace hbx := hbx.trans (h4.mono hbx.size); clear C0 C1 C2 hb h4; obtain ⟨C0, C1, C2, hb⟩ := HC.out _ hbx)
    go_ret2
    exact ⟨none, 0, rfl, Rd.nil _ _, hb⟩

theorem results27 {w : World} {g : Nat} {x y o r : Int} {tmps : Array Value} (h1 : w.heap[g]? = some (.cells #[.int .i64 x, .int .i64 y] 40)) (t1 : tmps[6]?.getD undef = .pointer (some ⟨g, 0, none⟩)) (t2 : tmps[7]?.getD undef = .int .i64 o) (t3 : tmps[8]?.getD undef = .int .i64 r) :
    (results Tryz.f27 tmps).run Tryz.prog w = .ok (.tuple #[.agg #[.int .i64 x, .int .i64 y], .int .i64 o, .int .i64 r]) w := by
  have hl := load40 h1
  clear h1
  simp [results, Tryz.results27, t1, t2, t3, asAddr, hl]
set_option maxRecDepth 100000 in
set_option maxHeartbeats 4000000 in
theorem rapart_any {B : Nat} {w : World} {v : Value} {s : ShR} (p q : Int) (hs : RdSh B w v s) (hn : Named s) (hB : B ≤ w.heap.size) :
    Calls Tryz.prog 27 #[v, .int .i64 p, .int .i64 q] w fun e w' => e = .returned (apartV (apartF s p q)) ∧ Below w.heap.size w w' := by
  obtain ⟨vp, vn, rfl, hp, ho⟩ := id hs
  obtain ⟨Ap, cp, rfl, _⟩ := id hp
  obtain ⟨An, cn, rfl, _⟩ := id ho
  have HSR := Lib.hid (fun (X : World) (hb : Below w.heap.size w X) => hs.below (hb.mono hB))
  obtain ⟨W1, hW1, r1, z1, b1⟩ := box_any w #[.int .i64 s.iv, .slice Ap s.pts.length cp, .slice An s.notes.length cn] 25
  obtain ⟨W2, hW2, r2, z2, b2⟩ := box_any W1 #[.int .i64 0, .int .i64 0] 40
  have j0 : W2.heap[w.heap.size]? = some (.cells #[.int .i64 s.iv, .slice Ap s.pts.length cp, .slice An s.notes.length cn] 25) := (b2.block _ (by omega)).trans r1
  have j2 : W2.heap[w.heap.size + 1]? = some (.cells #[.int .i64 0, .int .i64 0] 40) := by have := r2; rwa [z1] at this
  have b12 := b1.trans (b2.mono (by omega))
  have M2 := Lib.hid j2
  have HC : Hid (∀ Z : World, Below W2.heap.size W2 Z → Z.cell? ⟨w.heap.size, 0, none⟩ = some (.int .i64 s.iv) ∧ Z.cell? ⟨w.heap.size, 1, none⟩ = some (.slice Ap s.pts.length cp) ∧ Z.cell? ⟨w.heap.size, 2, none⟩ = some (.slice An s.notes.length cn) ∧
      Z.cell? ⟨w.heap.size + 1, 0, none⟩ = some (.int .i64 0) ∧ Z.cell? ⟨w.heap.size + 1, 1, none⟩ = some (.int .i64 0) ∧ Z.frozen? ⟨w.heap.size + 1, 0, none⟩ = false ∧ Z.frozen? ⟨w.heap.size + 1, 1, none⟩ = false ∧ Below w.heap.size w Z) :=
    Lib.hid fun Z h => by
      have k1 := (h.block _ (lt_of_block j0)).trans j0
      have k2 := (h.block _ (lt_of_block j2)).trans j2
      exact ⟨cellOf k1 0 rfl, cellOf k1 1 rfl, cellOf k1 2 rfl, cellOf k2 0 rfl, cellOf k2 1 rfl, by simp [World.frozen?, k2], by simp [World.frozen?, k2], b12.trans (h.mono b12.size)⟩
  have HZ := Lib.hid (show w.heap.size + 2 ≤ W2.heap.size by omega)
  have hbx : Below W2.heap.size W2 W2 := Below.refl _ _
  obtain ⟨C0, C1, C2, G0, G1, F0, F1, hb⟩ := HC.out _ hbx
  clear hp ho r1 z1 b1 r2 z2 b2 j0 j2 b12
  have HCk := Lib.hid (fun (X : World) (hb : Below w.heap.size w X) => rcheck_any (HSR.out X hb) hn (Nat.le_trans hB hb.size))
  unfold checkV at HCk
  have heo : errOf s = (check s).2.2 := rfl
  rw [← heo] at HCk
  clear heo
  generalize (check s).1 = a1 at HCk
  generalize (check s).2.1 = a2 at HCk
  by_cases he : errOf s = 0
  · have hg := good_of_valid he
    have hpl := hg.plen
    have HE := Lib.hid he
    rw [he] at HCk
    clear he
    have w1 : IntKind.i64.wrap ((s.pts.length : Int) - 1) = (s.pts.length : Int) - 1 := IntWalk.i64_in _ (by omega)
    by_cases ho : outB 0 ((s.pts.length : Int) - 1) [p, q] = true
    · have hF := Lib.hid (show apartF s p q = ((0, 0), 0, 4) by unfold apartF; rw [if_neg (by simp [HE.out]), if_pos ho])
      cases hi1 : inB p 0 ((s.pts.length : Int) - 1) with
      | false =>
        clear ho
        go_enter Tryz.func27, Tryz.ntmps27
        go_upto_region 1 with (fail)
        rw [← hW1, ← hW2]
        clear hW1 hW2
        go_wp2_with (first | (go_at_call 17; (with_reducible refine Calls.mono (HCk.out _ hb) ?_); rintro e X ⟨rfl, h4⟩; replace hbx := hbx.trans (h4.mono hbx.size); clear C0 C1 C2 G0 G1 F0 F1 hb h4; obtain ⟨C0, C1, C2, G0, G1, F0, F1, hb⟩ := HC.out _ hbx) | (go_at_call 62; (with_reducible refine Calls.mono (in_s _ _ _ _) ?_); rintro e X ⟨rfl, hX⟩; subst hX))
        have hr := row2 ((hbx.block _ (lt_of_block M2.out)).trans M2.out) (.int .i64 0) (.int .i64 0)
        refine bodyPost_ret (results27 hr rfl rfl rfl) rfl ⟨by rw [hF.out]; rfl, hb.trans (below2 (Nat.le_succ _) _ _)⟩
      | true =>
        have hi2 : inB q 0 ((s.pts.length : Int) - 1) = false := by
          cases hi2 : inB q 0 ((s.pts.length : Int) - 1) with
          | false => rfl
          | true => rw [outB_two_no.2 ⟨hi1, hi2⟩] at ho; cases ho
        clear ho
        go_enter Tryz.func27, Tryz.ntmps27
        go_upto_region 1 with (fail)
        rw [← hW1, ← hW2]
        clear hW1 hW2
        go_wp2_with (first | (go_at_call 17; (with_reducible refine Calls.mono (HCk.out _ hb) ?_); rintro e X ⟨rfl, h4⟩; replace hbx := hbx.trans (h4.mono hbx.size); clear C0 C1 C2 G0 G1 F0 F1 hb h4; obtain ⟨C0, C1, C2, G0, G1, F0, F1, hb⟩ := HC.out _ hbx) | (go_at_call 62; (with_reducible refine Calls.mono (in_s _ _ _ _) ?_); rintro e X ⟨rfl, hX⟩; subst hX))
        have hr := row2 ((hbx.block _ (lt_of_block M2.out)).trans M2.out) (.int .i64 0) (.int .i64 0)
        refine bodyPost_ret (results27 hr rfl rfl rfl) rfl ⟨by rw [hF.out]; rfl, hb.trans (below2 (Nat.le_succ _) _ _)⟩
    · have ho : outB 0 ((s.pts.length : Int) - 1) [p, q] = false := by simpa using ho
      obtain ⟨hi1, hi2⟩ := outB_two_no.1 ho
      have i1 := inB_iff.1 hi1
      have i2 := inB_iff.1 hi2
      by_cases h0 : openE s = 0
      · have HBo := Lib.hid (fun (X : World) (hb : Below w.heap.size w X) => rbound_ok h0 (HSR.out X hb) hn (Nat.le_trans hB hb.size))
        obtain ⟨pn, hpn⟩ := Int.eq_ofNat_of_zero_le i1.1
        obtain ⟨qn, hqn⟩ := Int.eq_ofNat_of_zero_le i2.1
        subst hpn hqn
        have lp : pn < s.pts.length := by omega
        have lq : qn < s.pts.length := by omega
        have hF := Lib.hid (show apartF s pn qn = ((- refT s pn qn, refT s qn pn), orderF (- refT s pn qn) (refT s qn pn), 0) by
          unfold apartF
          rw [if_neg (by simp [HE.out]), if_neg (by simp [ho]), if_neg (by simp [h0])]
          simp only [Int.toNat_natCast]
          rw [apart_ref h0 lp lq, apart_ref h0 lq lp])
        have q1 := refT_range h0 (i := pn) (k := qn) (by omega) (by omega)
        clear h0 ho hg
        go_enter Tryz.func27, Tryz.ntmps27
        go_upto_region 1 with (fail)
        rw [← hW1, ← hW2]
        clear hW1 hW2
        go_upto_region 7 with (first | (go_at_call 17; (with_reducible refine Calls.mono (HCk.out _ hb) ?_); rintro e X ⟨rfl, h4⟩; replace hbx := hbx.trans (h4.mono hbx.size); clear C0 C1 C2 G0 G1 F0 F1 hb h4; obtain ⟨C0, C1, C2, G0, G1, F0, F1, hb⟩ := HC.out _ hbx) | (go_at_call 62; (with_reducible refine Calls.mono (in_s _ _ _ _) ?_); rintro e X ⟨rfl, hX⟩; subst hX) | (go_at_call 71; (with_reducible refine Calls.mono (HBo.out _ hb) ?_); rintro e X ⟨g, cg, R, C, rfl, hmx, h4⟩; have HMx := Lib.hid hmx; clear hmx; replace hbx := hbx.trans (h4.mono hbx.size); clear C0 C1 C2 G0 G1 F0 F1 hb h4; obtain ⟨C0, C1, C2, G0, G1, F0, F1, hb⟩ := HC.out _ hbx))
        obtain ⟨wb, rfl⟩ : ∃ wb : World, wb = X := ⟨_, rfl⟩
        have P0 := Lib.hid (HMx.out.top pn (by omega))
        have P1 := Lib.hid (HMx.out.top qn (by omega))
        have E0 := Lib.hid (HMx.out.cell pn qn (by omega) (by omega))
        have E1 := Lib.hid (HMx.out.cell qn pn (by omega) (by omega))
        have lp1 : pn < s.pts.length + 1 := by omega
        have lq1 : qn < s.pts.length + 1 := by omega
        have lpi : ¬ ((s.pts.length : Int) + 1 ≤ (pn : Int)) := by omega
        have lqi : ¬ ((s.pts.length : Int) + 1 ≤ (qn : Int)) := by omega
        clear HMx hi1 hi2 i1 i2
        generalize refT s pn qn = x1 at *
        generalize refT s qn pn = x2 at *
        have s1 : IntKind.i64.wrap (-x1) = -x1 := IntWalk.i64_in _ (by omega)
        go_upto_region 9 with (fail)
        have HWb := Lib.hid hb
        clear C0 C1 C2 G0 G1 F0 F1 hb
        refine wp_region_ghost (AlI wb (fun jj => ([.slice (some ⟨g, 0, none⟩) (s.pts.length + 1) cg, .int .i64 pn, .pointer (some ⟨g, pn, none⟩), .slice (some ⟨R pn, 0, none⟩) (s.pts.length + 1) (C pn), .int .i64 qn, .pointer (some ⟨R pn, qn, none⟩), .int .i64 x1, .int .i64 (-x1), .slice (some ⟨g, 0, none⟩) (s.pts.length + 1) cg, .int .i64 qn, .pointer (some ⟨g, qn, none⟩), .slice (some ⟨R qn, 0, none⟩) (s.pts.length + 1) (C qn), .int .i64 pn, .pointer (some ⟨R qn, pn, none⟩), .int .i64 x2, .agg #[.int .i64 (-x1), .int .i64 x2], undef, undef] : List Value).getD jj undef) 16 17 #[.int .i64 0, .int .i64 0] #[.int .i64 (-x1), .int .i64 x2] 40) (by kernel_rfl) (by kernel_rfl) AlI.start ?_ ?_
        · refine ⟨?_, ?_, ?_, ?_, ?_, ?_, ?_, ?_, ?_, ?_, ?_, ?_, ?_, ?_, ?_, ?_, ?_, ?_, trivial⟩
          all_goals
            intro L vs X b hL hw hcl hI hf
          · have hb := hI.bel
            have e12 := hf.old 12 (by kernel_rfl)
            refine wp_of_run (v := .slice (some ⟨g, 0, none⟩) (s.pts.length + 1) cg) (w' := X) (by unfold execOp; go_simp) ?_
            exact hI.read (by omega) (by omega) rfl
          · have hb := hI.bel
            have e1 := hf.old 1 (by kernel_rfl)
            refine wp_of_run (v := .int .i64 pn) (w' := X) (by unfold execOp; go_simp) ?_
            exact hI.read (by omega) (by omega) rfl
          · have hb := hI.bel
            have h0 : L 0 = true := done_of hw 0 (by kernel_rfl)
            have e53 : b.tmps[53]?.getD undef = .slice (some ⟨g, 0, none⟩) (s.pts.length + 1) cg := (hf.new 0 53 rfl h0 (by simp)).trans (hI.vals 0 (by omega) (by omega) h0)
            have h1 : L 1 = true := done_of hw 1 (by kernel_rfl)
            have e54 : b.tmps[54]?.getD undef = .int .i64 pn := (hf.new 1 54 rfl h1 (by simp)).trans (hI.vals 1 (by omega) (by omega) h1)
            refine wp_of_run (v := .pointer (some ⟨g, pn, none⟩)) (w' := X) (by unfold execOp; go_simp) ?_
            exact hI.read (by omega) (by omega) rfl
          · have hb := hI.bel
            have h2 : L 2 = true := done_of hw 2 (by kernel_rfl)
            have e55 : b.tmps[55]?.getD undef = .pointer (some ⟨g, pn, none⟩) := (hf.new 2 55 rfl h2 (by simp)).trans (hI.vals 2 (by omega) (by omega) h2)
            have qP0 := (hb.cell (cell_lt P0.out)).trans P0.out
            refine wp_of_run (v := .slice (some ⟨R pn, 0, none⟩) (s.pts.length + 1) (C pn)) (w' := X) (by unfold execOp; go_simp) ?_
            exact hI.read (by omega) (by omega) rfl
          · have hb := hI.bel
            have e2 := hf.old 2 (by kernel_rfl)
            refine wp_of_run (v := .int .i64 qn) (w' := X) (by unfold execOp; go_simp) ?_
            exact hI.read (by omega) (by omega) rfl
          · have hb := hI.bel
            have h3 : L 3 = true := done_of hw 3 (by kernel_rfl)
            have e56 : b.tmps[56]?.getD undef = .slice (some ⟨R pn, 0, none⟩) (s.pts.length + 1) (C pn) := (hf.new 3 56 rfl h3 (by simp)).trans (hI.vals 3 (by omega) (by omega) h3)
            have h4 : L 4 = true := done_of hw 4 (by kernel_rfl)
            have e57 : b.tmps[57]?.getD undef = .int .i64 qn := (hf.new 4 57 rfl h4 (by simp)).trans (hI.vals 4 (by omega) (by omega) h4)
            refine wp_of_run (v := .pointer (some ⟨R pn, qn, none⟩)) (w' := X) (by unfold execOp; go_simp) ?_
            exact hI.read (by omega) (by omega) rfl
          · have hb := hI.bel
            have h5 : L 5 = true := done_of hw 5 (by kernel_rfl)
            have e58 : b.tmps[58]?.getD undef = .pointer (some ⟨R pn, qn, none⟩) := (hf.new 5 58 rfl h5 (by simp)).trans (hI.vals 5 (by omega) (by omega) h5)
            have qE0 := (hb.cell (cell_lt E0.out)).trans E0.out
            refine wp_of_run (v := .int .i64 x1) (w' := X) (by unfold execOp; go_simp) ?_
            exact hI.read (by omega) (by omega) rfl
          · have hb := hI.bel
            have h6 : L 6 = true := done_of hw 6 (by kernel_rfl)
            have e59 : b.tmps[59]?.getD undef = .int .i64 x1 := (hf.new 6 59 rfl h6 (by simp)).trans (hI.vals 6 (by omega) (by omega) h6)
            refine wp_of_run (v := .int .i64 (-x1)) (w' := X) (by unfold execOp; go_simp) ?_
            exact hI.read (by omega) (by omega) rfl
          · have hb := hI.bel
            have e12 := hf.old 12 (by kernel_rfl)
            refine wp_of_run (v := .slice (some ⟨g, 0, none⟩) (s.pts.length + 1) cg) (w' := X) (by unfold execOp; go_simp) ?_
            exact hI.read (by omega) (by omega) rfl
          · have hb := hI.bel
            have e2 := hf.old 2 (by kernel_rfl)
            refine wp_of_run (v := .int .i64 qn) (w' := X) (by unfold execOp; go_simp) ?_
            exact hI.read (by omega) (by omega) rfl
          · have hb := hI.bel
            have h8 : L 8 = true := done_of hw 8 (by kernel_rfl)
            have e61 : b.tmps[61]?.getD undef = .slice (some ⟨g, 0, none⟩) (s.pts.length + 1) cg := (hf.new 8 61 rfl h8 (by simp)).trans (hI.vals 8 (by omega) (by omega) h8)
            have h9 : L 9 = true := done_of hw 9 (by kernel_rfl)
            have e62 : b.tmps[62]?.getD undef = .int .i64 qn := (hf.new 9 62 rfl h9 (by simp)).trans (hI.vals 9 (by omega) (by omega) h9)
            refine wp_of_run (v := .pointer (some ⟨g, qn, none⟩)) (w' := X) (by unfold execOp; go_simp) ?_
            exact hI.read (by omega) (by omega) rfl
          · have hb := hI.bel
            have h10 : L 10 = true := done_of hw 10 (by kernel_rfl)
            have e63 : b.tmps[63]?.getD undef = .pointer (some ⟨g, qn, none⟩) := (hf.new 10 63 rfl h10 (by simp)).trans (hI.vals 10 (by omega) (by omega) h10)
            have qP1 := (hb.cell (cell_lt P1.out)).trans P1.out
            refine wp_of_run (v := .slice (some ⟨R qn, 0, none⟩) (s.pts.length + 1) (C qn)) (w' := X) (by unfold execOp; go_simp) ?_
            exact hI.read (by omega) (by omega) rfl
          · have hb := hI.bel
            have e1 := hf.old 1 (by kernel_rfl)
            refine wp_of_run (v := .int .i64 pn) (w' := X) (by unfold execOp; go_simp) ?_
            exact hI.read (by omega) (by omega) rfl
          · have hb := hI.bel
            have h11 : L 11 = true := done_of hw 11 (by kernel_rfl)
            have e64 : b.tmps[64]?.getD undef = .slice (some ⟨R qn, 0, none⟩) (s.pts.length + 1) (C qn) := (hf.new 11 64 rfl h11 (by simp)).trans (hI.vals 11 (by omega) (by omega) h11)
            have h12 : L 12 = true := done_of hw 12 (by kernel_rfl)
            have e65 : b.tmps[65]?.getD undef = .int .i64 pn := (hf.new 12 65 rfl h12 (by simp)).trans (hI.vals 12 (by omega) (by omega) h12)
            refine wp_of_run (v := .pointer (some ⟨R qn, pn, none⟩)) (w' := X) (by unfold execOp; go_simp) ?_
            exact hI.read (by omega) (by omega) rfl
          · have hb := hI.bel
            have h13 : L 13 = true := done_of hw 13 (by kernel_rfl)
            have e66 : b.tmps[66]?.getD undef = .pointer (some ⟨R qn, pn, none⟩) := (hf.new 13 66 rfl h13 (by simp)).trans (hI.vals 13 (by omega) (by omega) h13)
            have qE1 := (hb.cell (cell_lt E1.out)).trans E1.out
            refine wp_of_run (v := .int .i64 x2) (w' := X) (by unfold execOp; go_simp) ?_
            exact hI.read (by omega) (by omega) rfl
          · have hb := hI.bel
            have h7 : L 7 = true := done_of hw 7 (by kernel_rfl)
            have e60 : b.tmps[60]?.getD undef = .int .i64 (-x1) := (hf.new 7 60 rfl h7 (by simp)).trans (hI.vals 7 (by omega) (by omega) h7)
            have h14 : L 14 = true := done_of hw 14 (by kernel_rfl)
            have e67 : b.tmps[67]?.getD undef = .int .i64 x2 := (hf.new 14 67 rfl h14 (by simp)).trans (hI.vals 14 (by omega) (by omega) h14)
            refine wp_of_run (v := .agg #[.int .i64 (-x1), .int .i64 x2]) (w' := X) (by unfold execOp; go_simp) ?_
            exact hI.read (by omega) (by omega) rfl
          · have hb := hI.bel
            have n17 : L 17 = false := not_yet hcl 17 hL rfl (by kernel_rfl)
            refine wp_of_run (v := .pointer (some ⟨X.heap.size, 0, none⟩)) (w' := X.alloc (.cells #[.int .i64 0, .int .i64 0] 40)) (by unfold execOp; go_simp) ?_
            exact hI.alloc (by omega) n17
          · have hb := hI.bel
            have h16 : L 16 = true := done_of hw 16 (by kernel_rfl)
            have e13 : b.tmps[13]?.getD undef = vs 16 := hf.new 16 13 rfl h16 (by simp)
            have h15 : L 15 = true := done_of hw 15 (by kernel_rfl)
            have e68 : b.tmps[68]?.getD undef = .agg #[.int .i64 (-x1), .int .i64 x2] := (hf.new 15 68 rfl h15 (by simp)).trans (hI.vals 15 (by omega) (by omega) h15)
            obtain ⟨g, q16, hg, hx⟩ := hI.unstored h16 hL
            rw [q16] at e13
            refine wp_store_row 40 (.tmp 13) (.tmp 68) rfl g #[.int .i64 (-x1), .int .i64 x2] (eval_tmp e13) (eval_tmp e68) 40 _ hx (by kernel_rfl) rfl (by simp [Value.oneCell']) ?_
            exact ⟨_, rfl, hI.store (by omega) q16 hg hx⟩
        · intro vs X hI
          obtain ⟨gx, e13, hgx, rx⟩ := hI.al rfl
          replace rx : X.heap[gx]? = some (.cells #[.int .i64 (-x1), .int .i64 x2] 40) := rx
          have hbX := hI.bel
          clear hI
          simp [fill, slotOf, Act.put]
          simp only [Exit.inBlock, Exit.then]
          rw [e13]
          clear e13
          generalize vs 0 = y0
          generalize vs 1 = y1
          generalize vs 2 = y2
          generalize vs 3 = y3
          generalize vs 4 = y4
          generalize vs 5 = y5
          generalize vs 6 = y6
          generalize vs 7 = y7
          generalize vs 8 = y8
          generalize vs 9 = y9
          generalize vs 10 = y10
          generalize vs 11 = y11
          generalize vs 12 = y12
          generalize vs 13 = y13
          generalize vs 14 = y14
          generalize vs 15 = y15
          generalize vs 16 = y16
          generalize vs 17 = y17
          obtain ⟨wc, rfl⟩ : ∃ wc : World, wc = X := ⟨_, rfl⟩
          replace hbx := hbx.trans (hbX.mono hbx.size)
          obtain ⟨C0, C1, C2, G0, G1, F0, F1, hb⟩ := HC.out _ hbx
          have c9 := cellOf rx 0 (v := .int .i64 (-x1)) rfl
          have d9 := cellOf rx 1 (v := .int .i64 x2) rfl
          clear C0 C1 C2 hbX HWb s1 q1
          generalize -x1 = y at *
          by_cases y0 : y = 0
          · subst y0
            by_cases z0 : x2 = 0
            · subst z0
              have hO := Lib.hid (show orderF 0 0 = 3 from rfl)
              go_wp2
              have hr := row2 ((hbx.block _ (lt_of_block M2.out)).trans M2.out) (.int .i64 0) (.int .i64 0)
              refine bodyPost_ret (results27 hr rfl rfl rfl) rfl ⟨by rw [hF.out, hO.out]; rfl, hb.trans (below2 (Nat.le_succ _) _ _)⟩
            · have zb : (x2 == 0) = false := by simpa using z0
              by_cases o3 : x2 < 0
              · have hO := Lib.hid (show orderF 0 x2 = 1 by unfold orderF; rw [if_neg (by omega), if_neg (by omega), if_pos o3])
                clear z0
                go_wp2
                have hr := row2 ((hbx.block _ (lt_of_block M2.out)).trans M2.out) (.int .i64 0) (.int .i64 x2)
                refine bodyPost_ret (results27 hr rfl rfl rfl) rfl ⟨by rw [hF.out, hO.out]; rfl, hb.trans (below2 (Nat.le_succ _) _ _)⟩
              · have hO := Lib.hid (show orderF 0 x2 = 0 by unfold orderF; rw [if_neg (by omega), if_neg (by omega), if_neg o3])
                clear z0
                go_wp2
                have hr := row2 ((hbx.block _ (lt_of_block M2.out)).trans M2.out) (.int .i64 0) (.int .i64 x2)
                refine bodyPost_ret (results27 hr rfl rfl rfl) rfl ⟨by rw [hF.out, hO.out]; rfl, hb.trans (below2 (Nat.le_succ _) _ _)⟩
          · have yb : (y == 0) = false := by simpa using y0
            by_cases o2 : 0 < y
            · have hO := Lib.hid (show orderF y x2 = 2 by unfold orderF; rw [if_neg (by omega), if_pos o2])
              clear y0
              go_wp2
              have hr := row2 ((hbx.block _ (lt_of_block M2.out)).trans M2.out) (.int .i64 y) (.int .i64 x2)
              refine bodyPost_ret (results27 hr rfl rfl rfl) rfl ⟨by rw [hF.out, hO.out]; rfl, hb.trans (below2 (Nat.le_succ _) _ _)⟩
            · by_cases o3 : x2 < 0
              · have hO := Lib.hid (show orderF y x2 = 1 by unfold orderF; rw [if_neg (by omega), if_neg o2, if_pos o3])
                clear y0
                go_wp2
                have hr := row2 ((hbx.block _ (lt_of_block M2.out)).trans M2.out) (.int .i64 y) (.int .i64 x2)
                refine bodyPost_ret (results27 hr rfl rfl rfl) rfl ⟨by rw [hF.out, hO.out]; rfl, hb.trans (below2 (Nat.le_succ _) _ _)⟩
              · have hO := Lib.hid (show orderF y x2 = 0 by unfold orderF; rw [if_neg (by omega), if_neg o2, if_neg o3])
                clear y0
                go_wp2
                have hr := row2 ((hbx.block _ (lt_of_block M2.out)).trans M2.out) (.int .i64 y) (.int .i64 x2)
                refine bodyPost_ret (results27 hr rfl rfl rfl) rfl ⟨by rw [hF.out, hO.out]; rfl, hb.trans (below2 (Nat.le_succ _) _ _)⟩
      · have HBo := Lib.hid (fun (X : World) (hb : Below w.heap.size w X) => rbound_err h0 (HSR.out X hb) hn (Nat.le_trans hB hb.size))
        have hF := Lib.hid (show apartF s p q = ((0, 0), 0, openE s) by unfold apartF; rw [if_neg (by simp [HE.out]), if_neg (by simp [ho]), if_pos h0])
        have hne : (openE s != 0) = true := by simp [h0]
        generalize openE s = er at *
        clear h0 ho hg i1 i2
        go_enter Tryz.func27, Tryz.ntmps27
        go_upto_region 1 with (fail)
        rw [← hW1, ← hW2]
        clear hW1 hW2
        go_wp2_with (first | (go_at_call 17; (with_reducible refine Calls.mono (HCk.out _ hb) ?_); rintro e X ⟨rfl, h4⟩; replace hbx := hbx.trans (h4.mono hbx.size); clear C0 C1 C2 G0 G1 F0 F1 hb h4; obtain ⟨C0, C1, C2, G0, G1, F0, F1, hb⟩ := HC.out _ hbx) | (go_at_call 62; (with_reducible refine Calls.mono (in_s _ _ _ _) ?_); rintro e X ⟨rfl, hX⟩; subst hX) | (go_at_call 71; (with_reducible refine Calls.mono (HBo.out _ hb) ?_); rintro e X ⟨rfl, h4⟩; replace hbx := hbx.trans (h4.mono hbx.size); clear C0 C1 C2 G0 G1 F0 F1 hb h4; obtain ⟨C0, C1, C2, G0, G1, F0, F1, hb⟩ := HC.out _ hbx))
        have hr := row2 ((hbx.block _ (lt_of_block M2.out)).trans M2.out) (.int .i64 0) (.int .i64 0)
        refine bodyPost_ret (results27 hr rfl rfl rfl) rfl ⟨by rw [hF.out]; rfl, hb.trans (below2 (Nat.le_succ _) _ _)⟩
  · have hF := Lib.hid (show apartF s p q = ((0, 0), 0, errOf s) by unfold apartF; rw [if_pos he])
    have hne : (errOf s != 0) = true := by simp [he]
    have hne2 : (errOf s == 0) = false := by simp [he]
    generalize errOf s = er at *
    clear he
    go_enter Tryz.func27, Tryz.ntmps27
    go_upto_region 1 with (fail)
    rw [← hW1, ← hW2]
    clear hW1 hW2
    go_wp2_with (go_at_call 17; (with_reducible refine Calls.mono (HCk.out _ hb) ?_); rintro e X ⟨rfl, h4⟩; replace hbx := hbx.trans (h4.mono hbx.size); clear C0 C1 C2 G0 G1 F0 F1 hb h4; obtain ⟨C0, C1, C2, G0, G1, F0, F1, hb⟩ := HC.out _ hbx)
    have hr := row2 ((hbx.block _ (lt_of_block M2.out)).trans M2.out) (.int .i64 0) (.int .i64 0)
    refine bodyPost_ret (results27 hr rfl rfl rfl) rfl ⟨by rw [hF.out]; rfl, hb.trans (below2 (Nat.le_succ _) _ _)⟩
end Go.Proofs.YtajdgdelhlfniaaGreatDoor
