/- Walks of the layer sheet: Awake: its sheets. -/
import Derived.Test.YtajdgdelhlfniaaGreatDoorH42
import Derived.WalkKit
import Derived.Deep.Quiet
set_option linter.unusedSimpArgs false
set_option linter.unusedVariables false
namespace Go.Proofs.YtajdgdelhlfniaaGreatDoor
open Go.RowKit

theorem wpList_alloc_any {ops : Array Oper} {rest : List Oper} {o : Oper} {a : Act} {w : World} {Q : Exit → Act → World → Prop} (hgd : o.guard = none) (T : TypeId) (ho : o.op = .alloc T) {cs : Array Value} (hr : (Instr.alloc T true (.tuple #[])).run Tryz.prog w = .ok (.pointer (some ⟨w.heap.size, 0, none⟩)) (w.alloc (.cells cs T)))
    (h : wpList Tryz.prog ops Q rest (a.put o.dst (.pointer (some ⟨w.heap.size, 0, none⟩))) (w.alloc (.cells cs T))) : wpList Tryz.prog ops Q (o :: rest) a w := by
  refine wpList_plain hgd fun K hK => ?_
  unfold Oper.wp execOp
  rw [ho]
  simp only [Sem.run_bind, Sem.run_pure, hr, Result.andThen_ok]
  exact hK _ _ h
theorem rdN {α : Type} {At : World → Addr → α → Prop} [AtKeep At] {sz : Nat} {w w' : World} {v : Value} {xs : List α} (h : Rd At sz w.heap.size w v xs) (hb : Below w.heap.size w w') : Rd At sz w'.heap.size w' v xs := (h.below hb).mono hb.size
theorem rowN {w w' : World} {g : Nat} {o : Obj} (h : w.heap[g]? = some o) (hb : Below w.heap.size w w') : w'.heap[g]? = some o := (hb.block _ (lt_of_block h)).trans h
theorem rdsN {w w' : World} {v : Value} {s : ShR} (h : RdSh w.heap.size w v s) (hb : Below w.heap.size w w') : RdSh w'.heap.size w' v s := (h.below hb).mono hb.size

set_option maxRecDepth 100000 in
set_option maxHeartbeats 4000000 in
theorem awake_any {w : World} (hgl : Glob w) : Calls Tryz.prog 20 #[] w fun e w' => e = .returned (.bool true) ∧ Below w.heap.size w w' := by
  have HGl := Lib.hid hgl
  clear hgl
  go_enter Tryz.func20, Tryz.ntmps20
  go_upto_region 1 with (fail)
  go_upto_region 2 with (first | (go_at_call 42; with_reducible refine Calls.mono (sheet_nil _) ?_; rintro e w1 ⟨A1, c1, D1, d1, rfl, hs1, hb1⟩; have HS1 := Lib.hid hs1; have HB1 := Lib.hid hb1; clear hs1 hb1) | (go_at_call 65; refine (gentle_any _).mono ?_; rintro e w2 ⟨g2, rfl, _, hr2, hb2⟩; have HB2 := Lib.hid hb2; have HR2 := Lib.hid hr2; clear hb2 hr2) | (revert HR2; intro HR2; go_at_call 42; with_reducible refine Calls.mono (sheet_one HR2.out) ?_; rintro e w3 ⟨A2, c2, D2, d2, rfl, hs2, hb3⟩; have HS2 := Lib.hid hs2; have HB3 := Lib.hid hb3; clear hs2 hb3) | (go_at_call 66; refine (steep_any _).mono ?_; rintro e w4 ⟨g4, rfl, _, hr4, hb4⟩; have HB4 := Lib.hid hb4; have HR4 := Lib.hid hr4; clear hb4 hr4) | (revert HR4; intro HR4; go_at_call 42; with_reducible refine Calls.mono (sheet_one HR4.out) ?_; rintro e w5 ⟨A3, c3, D3, d3, rfl, hs3, hb5⟩; have HS3 := Lib.hid hs3; have HB5 := Lib.hid hb5; clear hs3 hb5; obtain ⟨X1, hX1, r1, z1, y1⟩ := box_any w5 #[.int .i64 0, .slice none 0 0, .slice none 0 0] 25; obtain ⟨X2, hX2, r2, z2, y2⟩ := box_any X1 #[.int .i64 0, .slice none 0 0, .slice none 0 0] 25; obtain ⟨X3, hX3, r3, z3, y3⟩ := box_any X2 #[.int .i64 0, .slice none 0 0, .slice none 0 0] 25; have HX1 := Lib.hid hX1; have HX2 := Lib.hid hX2; have HX3 := Lib.hid hX3; have Y1 := Lib.hid y1; have Y2 := Lib.hid y2; have Y3 := Lib.hid y3; have R3 := Lib.hid r3; have R2 := Lib.hid ((y3.block _ (by omega)).trans r2); have R1 := Lib.hid ((y3.block _ (by omega)).trans ((y2.block _ (by omega)).trans r1)); have Z := Lib.hid (And.intro z1 (And.intro z2 z3)); obtain ⟨S1, hS1⟩ : ∃ S1, S1 = X3.setRow w5.heap.size #[.int .i64 100, .slice A1 4 c1, .slice D1 4 d1] := ⟨_, rfl⟩; obtain ⟨S2, hS2⟩ : ∃ S2, S2 = S1.setRow X1.heap.size #[.int .i64 100, .slice A2 4 c2, .slice D2 5 d2] := ⟨_, rfl⟩; obtain ⟨S3, hS3⟩ : ∃ S3, S3 = S2.setRow X2.heap.size #[.int .i64 100, .slice A3 4 c3, .slice D3 5 d3] := ⟨_, rfl⟩; have GS1 := Lib.hid hS1; have GS2 := Lib.hid hS2; have GS3 := Lib.hid hS3; have RS2 := Lib.hid (show S1.heap[X1.heap.size]? = some (.cells #[.int .i64 0, .slice none 0 0, .slice none 0 0] 25) by rw [hS1]; exact (setRow_other _ _ _ _ (by omega)).trans R2.out); have RS3 := Lib.hid (show S2.heap[X2.heap.size]? = some (.cells #[.int .i64 0, .slice none 0 0, .slice none 0 0] 25) by rw [hS2, hS1]; exact (setRow_other _ _ _ _ (by omega)).trans ((setRow_other _ _ _ _ (by omega)).trans R3.out)); clear hS1 hS2 hS3; clear hX1 hX2 hX3 y1 y2 y3 r1 r2 r3 z1 z2 z3) | (revert HX1 HX2 HX3; intro HX1 HX2 HX3; refine wpList_alloc_any rfl 25 rfl (run_alloc25 _) ?_; first | rw [← HX1.out] | rw [← HX2.out] | rw [← HX3.out]; simp only [Act.put, List.setIfInBounds_toArray, List.set_cons_succ, List.set_cons_zero]) | (revert R1 RS2 RS3; intro R1 RS2 RS3; refine wpList_store_row rfl 25 (.tmp 1) (.tmp 29) rfl w5.heap.size #[.int .i64 100, .slice A1 4 c1, .slice D1 4 d1] rfl rfl 25 _ R1.out (by kernel_rfl) rfl (by simp [Value.oneCell']) ?_; rw [← GS1.out]) | (revert R1 RS2 RS3; intro R1 RS2 RS3; refine wpList_store_row rfl 25 (.tmp 2) (.tmp 31) rfl X1.heap.size #[.int .i64 100, .slice A2 4 c2, .slice D2 5 d2] rfl rfl 25 _ RS2.out (by kernel_rfl) rfl (by simp [Value.oneCell']) ?_; rw [← GS2.out]) | (revert R1 RS2 RS3; intro R1 RS2 RS3; refine wpList_store_row rfl 25 (.tmp 3) (.tmp 33) rfl X2.heap.size #[.int .i64 100, .slice A3 4 c3, .slice D3 5 d3] rfl rfl 25 _ RS3.out (by kernel_rfl) rfl (by simp [Value.oneCell']) ?_; rw [← GS3.out]))
  obtain ⟨z1, z2, z3⟩ := Z.out
  have b5 : Below w.heap.size w w5 := HB1.out.trans ((HB2.out.trans ((HB3.out.trans ((HB4.out.trans (HB5.out.mono HB4.out.size)).mono HB3.out.size)).mono HB2.out.size)).mono HB1.out.size)
  have b53 : Below w5.heap.size w5 S3 := by
    rw [GS3.out, GS2.out, GS1.out]
    exact Y1.out.trans ((Y2.out.mono (by omega)).trans ((Y3.out.mono (by omega)).trans ((setRow_below _ (Nat.le_refl _)).trans ((setRow_below _ (by omega)).trans (setRow_below _ (by omega))))))
  have HAw : Hid (AwS w w5.heap.size w5.heap.size (.slice A1 4 c1) (.slice D1 4 d1) (.slice A2 4 c2) (.slice D2 5 d2) (.slice A3 4 c3) (.slice D3 5 d3) S3) := by
    refine Lib.hid ⟨?_, ?_, ?_, ?_, ?_, ?_, b53.size, b5.trans (b53.mono b5.size), HGl.out.below (b5.trans (b53.mono b5.size))⟩
    · rw [GS3.out, GS2.out, GS1.out, setRow_other _ _ _ _ (by omega), setRow_other _ _ _ _ (by omega)]
      exact setRow_heap _ _ _ _ _ _ R1.out
    · have := setRow_heap _ _ _ #[.int .i64 100, .slice A2 4 c2, .slice D2 5 d2] _ _ RS2.out
      rw [GS3.out, GS2.out, setRow_other _ _ _ _ (by omega), ← z1]
      exact this
    · have := setRow_heap _ _ _ #[.int .i64 100, .slice A3 4 c3, .slice D3 5 d3] _ _ RS3.out
      rw [GS3.out, show w5.heap.size + 2 = X2.heap.size by omega]
      exact this
    · exact ((HS1.out.below (HB2.out.trans ((HB3.out.trans ((HB4.out.trans (HB5.out.mono HB4.out.size)).mono HB3.out.size)).mono HB2.out.size))).mono (Nat.le_trans HB2.out.size (Nat.le_trans HB3.out.size (Nat.le_trans HB4.out.size HB5.out.size)))).below b53
    · exact ((HS2.out.below (HB4.out.trans (HB5.out.mono HB4.out.size))).mono (Nat.le_trans HB4.out.size HB5.out.size)).below b53
    · exact HS3.out.below b53
  rw [show X2.heap.size = w5.heap.size + 2 by omega, z1]
  clear z1 z2 z3 b5 b53 HX1 HX2 HX3 Y1 Y2 Y3 R1 R2 R3 RS2 RS3 GS1 GS2 GS3 Z HS1 HS2 HS3 HB1 HB2 HB3 HB4 HB5 HR2 HR4 HGl
  simp only [Act.put]
  have HA := HAw
  clear HAw
  obtain ⟨⟨q0, q1, q2⟩, ⟨q3, q4, q5⟩, q6, q7, q8⟩ := HA.out.cells
  go_upto_region 3 with (go_at_call 21; refine (aw_fitS HA.out).mono ?_; rintro e wx ⟨rfl, hb⟩; replace HA := Lib.hid (HA.out.next hb); clear q0 q1 q2 q3 q4 q5 q6 q7 q8; obtain ⟨⟨q0, q1, q2⟩, ⟨q3, q4, q5⟩, q6, q7, q8⟩ := HA.out.cells; clear hb)
  go_upto_region 4 with (go_at_call 21; refine (aw_fitB HA.out).mono ?_; rintro e wx ⟨rfl, hb⟩; replace HA := Lib.hid (HA.out.next hb); clear q0 q1 q2 q3 q4 q5 q6 q7 q8; obtain ⟨⟨q0, q1, q2⟩, ⟨q3, q4, q5⟩, q6, q7, q8⟩ := HA.out.cells; clear hb)
  go_upto_region 5 with (go_at_call 23; refine (aw_heiT HA.out).mono ?_; rintro e wx ⟨AT, cT, rfl, hr, hb⟩; replace HA := Lib.hid (HA.out.next hb); clear q0 q1 q2 q3 q4 q5 q6 q7 q8; obtain ⟨⟨q0, q1, q2⟩, ⟨q3, q4, q5⟩, q6, q7, q8⟩ := HA.out.cells; have HRT := Lib.hid hr; clear hb hr)
  go_upto_region 6 with (go_at_call 26; refine (aw_apaT HA.out).mono ?_; rintro e wx ⟨rfl, hb⟩; replace HA := Lib.hid (HA.out.next hb); clear q0 q1 q2 q3 q4 q5 q6 q7 q8; obtain ⟨⟨q0, q1, q2⟩, ⟨q3, q4, q5⟩, q6, q7, q8⟩ := HA.out.cells; replace HRT := Lib.hid (rdN HRT.out hb); clear hb)
  obtain ⟨wy, hwy⟩ : ∃ wy, wy = wx.alloc (.cells #[.int .i64 10, .int .i64 40] 40) := ⟨_, rfl⟩
  rw [← hwy]
  have hb : Below wx.heap.size wx wy := by rw [hwy]; exact (Below.refl _ _).alloc (Nat.le_refl _) _
  have hbx : wy.heap[wx.heap.size]? = some (.cells #[.int .i64 10, .int .i64 40] 40) := by rw [hwy]; exact heap_alloc_new _ _
  clear hwy
  replace HA := Lib.hid (HA.out.next hb)
  clear q0 q1 q2 q3 q4 q5 q6 q7 q8; obtain ⟨⟨q0, q1, q2⟩, ⟨q3, q4, q5⟩, q6, q7, q8⟩ := HA.out.cells
  replace HRT := Lib.hid (rdN HRT.out hb)
  obtain ⟨gx, hgx⟩ : ∃ gx, wx.heap.size = gx := ⟨_, rfl⟩
  rw [hgx] at hbx ⊢
  have HBX := Lib.hid hbx
  clear hb hbx hgx
  go_upto_region 7 with (go_at_call 28; refine (aw_higS HA.out).mono ?_; rintro e wx ⟨AH, cH, rfl, hr, hb⟩; replace HA := Lib.hid (HA.out.next hb); clear q0 q1 q2 q3 q4 q5 q6 q7 q8; obtain ⟨⟨q0, q1, q2⟩, ⟨q3, q4, q5⟩, q6, q7, q8⟩ := HA.out.cells; replace HRT := Lib.hid (rdN HRT.out hb); replace HBX := Lib.hid (rowN HBX.out hb); have HRH := Lib.hid hr; clear hb hr)
  go_upto_region 8 with (go_at_call 31; refine (aw_proB HA.out).mono ?_; rintro e wx ⟨AP, cP, rfl, hr, hb⟩; replace HA := Lib.hid (HA.out.next hb); clear q0 q1 q2 q3 q4 q5 q6 q7 q8; obtain ⟨⟨q0, q1, q2⟩, ⟨q3, q4, q5⟩, q6, q7, q8⟩ := HA.out.cells; replace HRT := Lib.hid (rdN HRT.out hb); replace HBX := Lib.hid (rowN HBX.out hb); replace HRH := Lib.hid (rdN HRH.out hb); have HRP := Lib.hid hr; clear hb hr)
  go_upto_region 9 with (go_at_call 33; refine (aw_wroB HA.out).mono ?_; rintro e wx ⟨AW, cW, rfl, hr, hb⟩; replace HA := Lib.hid (HA.out.next hb); clear q0 q1 q2 q3 q4 q5 q6 q7 q8; obtain ⟨⟨q0, q1, q2⟩, ⟨q3, q4, q5⟩, q6, q7, q8⟩ := HA.out.cells; replace HRT := Lib.hid (rdN HRT.out hb); replace HBX := Lib.hid (rowN HBX.out hb); replace HRH := Lib.hid (rdN HRH.out hb); replace HRP := Lib.hid (rdN HRP.out hb); have HRW := Lib.hid hr; clear hb hr)
  go_upto_region 10 with (go_at_call 35; refine (aw_widB HA.out).mono ?_; rintro e wx ⟨rfl, hb⟩; replace HA := Lib.hid (HA.out.next hb); clear q0 q1 q2 q3 q4 q5 q6 q7 q8; obtain ⟨⟨q0, q1, q2⟩, ⟨q3, q4, q5⟩, q6, q7, q8⟩ := HA.out.cells; replace HRT := Lib.hid (rdN HRT.out hb); replace HBX := Lib.hid (rowN HBX.out hb); replace HRH := Lib.hid (rdN HRH.out hb); replace HRP := Lib.hid (rdN HRP.out hb); replace HRW := Lib.hid (rdN HRW.out hb); clear hb)
  go_upto_region 11 with (go_at_call 37; refine (aw_wriS HA.out).mono ?_; rintro e wx ⟨rfl, hb⟩; replace HA := Lib.hid (HA.out.next hb); clear q0 q1 q2 q3 q4 q5 q6 q7 q8; obtain ⟨⟨q0, q1, q2⟩, ⟨q3, q4, q5⟩, q6, q7, q8⟩ := HA.out.cells; replace HRT := Lib.hid (rdN HRT.out hb); replace HBX := Lib.hid (rowN HBX.out hb); replace HRH := Lib.hid (rdN HRH.out hb); replace HRP := Lib.hid (rdN HRP.out hb); replace HRW := Lib.hid (rdN HRW.out hb); clear hb)
  go_upto_region 12 with (first | (go_at_call 67; refine (text_lit _).mono ?_; rintro e wt ⟨rfl, hw⟩; subst wt) | (go_at_call 39; refine (aw_reaS HA.out).mono ?_; rintro e wx ⟨AR, cR, DR, dR, rfl, hr, hb⟩; replace HA := Lib.hid (HA.out.next hb); clear q0 q1 q2 q3 q4 q5 q6 q7 q8; obtain ⟨⟨q0, q1, q2⟩, ⟨q3, q4, q5⟩, q6, q7, q8⟩ := HA.out.cells; replace HRT := Lib.hid (rdN HRT.out hb); replace HBX := Lib.hid (rowN HBX.out hb); replace HRH := Lib.hid (rdN HRH.out hb); replace HRP := Lib.hid (rdN HRP.out hb); replace HRW := Lib.hid (rdN HRW.out hb); have HRS := Lib.hid hr; clear hb hr) | (refine wpList_alloc_any rfl 25 rfl (run_alloc25 _) ?_; simp only [Act.put, List.setIfInBounds_toArray, List.set_cons_succ, List.set_cons_zero]) | (refine wpList_store_row rfl 25 (.tmp 23) (.tmp 83) rfl wx.heap.size #[.int .i64 100, .slice AR 4 cR, .slice DR 4 dR] rfl rfl 25 _ (heap_alloc_new _ _) (by kernel_rfl) rfl (by simp [Value.oneCell']) ?_))
  obtain ⟨wr, hwr⟩ : ∃ wr, wr = (wx.alloc (.cells #[.int .i64 0, .slice none 0 0, .slice none 0 0] 25)).setRow wx.heap.size #[.int .i64 100, .slice AR 4 cR, .slice DR 4 dR] := ⟨_, rfl⟩
  rw [← hwr]
  have hb : Below wx.heap.size wx wr := by rw [hwr]; exact ((Below.refl _ _).alloc (Nat.le_refl _) _).trans (setRow_below _ (Nat.le_refl _))
  have hbr : wr.heap[wx.heap.size]? = some (.cells #[.int .i64 100, .slice AR 4 cR, .slice DR 4 dR] 25) := by rw [hwr]; exact setRow_heap _ _ _ _ _ _ (heap_alloc_new _ _)
  clear hwr
  replace HA := Lib.hid (HA.out.next hb)
  clear q0 q1 q2 q3 q4 q5 q6 q7 q8; obtain ⟨⟨q0, q1, q2⟩, ⟨q3, q4, q5⟩, q6, q7, q8⟩ := HA.out.cells
  replace HRT := Lib.hid (rdN HRT.out hb)
  replace HBX := Lib.hid (rowN HBX.out hb)
  replace HRH := Lib.hid (rdN HRH.out hb)
  replace HRP := Lib.hid (rdN HRP.out hb)
  replace HRW := Lib.hid (rdN HRW.out hb)
  replace HRS := Lib.hid (rdsN HRS.out hb)
  obtain ⟨gr, hgr⟩ : ∃ gr, wx.heap.size = gr := ⟨_, rfl⟩
  rw [hgr] at hbr ⊢
  have HBR := Lib.hid hbr
  clear hb hbr hgr
  go_upto_region 13 with (go_at_call 23; refine (aw_heiB HA.out).mono ?_; rintro e wx ⟨AB, cB, rfl, hb⟩; replace HA := Lib.hid (HA.out.next hb); clear q0 q1 q2 q3 q4 q5 q6 q7 q8; obtain ⟨⟨q0, q1, q2⟩, ⟨q3, q4, q5⟩, q6, q7, q8⟩ := HA.out.cells; replace HRT := Lib.hid (rdN HRT.out hb); replace HBX := Lib.hid (rowN HBX.out hb); replace HRH := Lib.hid (rdN HRH.out hb); replace HRP := Lib.hid (rdN HRP.out hb); replace HRW := Lib.hid (rdN HRW.out hb); replace HRS := Lib.hid (rdsN HRS.out hb); replace HBR := Lib.hid (rowN HBR.out hb); clear hb)
  have htx : (textX.toList == textX.toList) = true := beq_self_eq_true _
  have HX0 := Lib.hid (cellOf HBX.out 0 (v := .int .i64 10) rfl)
  have IH1 := Lib.hid (fun (W : World) (A : Option Addr) (c : Nat) (h : Rd IntAt 1 W.heap.size W (.slice A 1 c) [0]) => ints_at h (cs := #[.int .i64 0]) (n := 1) rfl rfl (by simp))
  have IH3 := Lib.hid (fun (W : World) (A : Option Addr) (c : Nat) (h : Rd IntAt 1 W.heap.size W (.slice A 3 c) [0, 1, 4]) => ints_at h (cs := #[.int .i64 0, .int .i64 1, .int .i64 4]) (n := 3) rfl rfl (by simp))
  have IHS := Lib.hid (fun (W : World) (A : Option Addr) (c : Nat) (h : Rd SpanAt 2 W.heap.size W (.slice A 4 c) [(1180, 1200), (900, 940), (910, 950), (900, 940)]) => spans_at h (cs := #[.int .i64 1180, .int .i64 1200, .int .i64 900, .int .i64 940, .int .i64 910, .int .i64 950, .int .i64 900, .int .i64 940]) (n := 4) rfl rfl (by simp))
  go_upto_region 14 with (first | (go_at_call 31; refine (aw_proS HA.out).mono ?_; rintro e wx ⟨AN, cN, rfl, hb⟩; replace HA := Lib.hid (HA.out.next hb); clear q0 q1 q2 q3 q4 q5 q6 q7 q8; obtain ⟨⟨q0, q1, q2⟩, ⟨q3, q4, q5⟩, q6, q7, q8⟩ := HA.out.cells; replace HRT := Lib.hid (rdN HRT.out hb); replace HBX := Lib.hid (rowN HBX.out hb); replace HRH := Lib.hid (rdN HRH.out hb); replace HRP := Lib.hid (rdN HRP.out hb); replace HRW := Lib.hid (rdN HRW.out hb); replace HRS := Lib.hid (rdsN HRS.out hb); replace HBR := Lib.hid (rowN HBR.out hb); clear hb; have x0 := cellOf HBX.out 0 (v := .int .i64 10) rfl; have x1 := cellOf HBX.out 1 (v := .int .i64 40) rfl; have y0 := cellOf HBR.out 0 (v := .int .i64 100) rfl; have y1 := cellOf HBR.out 1 (v := .slice AR 4 cR) rfl; have y2 := cellOf HBR.out 2 (v := .slice DR 4 dR) rfl))
  simp only [List.append_eq, List.cons_append, List.nil_append]
  refine gen_act fun a0 ha0 => ?_
  have hsz : a0.tmps.size = 202 := by rw [ha0]; rfl
  have hdf : a0.defers = [] := by rw [ha0]
  have s1 : a0.tmps[1]?.getD undef = .pointer (some ⟨w5.heap.size, 0, none⟩) := by rw [ha0]; rfl
  have s4 : a0.tmps[4]?.getD undef = .bool true := by rw [ha0]; rfl
  have s5 : a0.tmps[5]?.getD undef = .int .i64 0 := by rw [ha0]; rfl
  have s6 : a0.tmps[6]?.getD undef = .bool false := by rw [ha0]; rfl
  have s7 : a0.tmps[7]?.getD undef = .int .i64 0 := by rw [ha0]; rfl
  have s8 : a0.tmps[8]?.getD undef = .slice AT 4 cT := by rw [ha0]; rfl
  have s9 : a0.tmps[9]?.getD undef = .int .i64 0 := by rw [ha0]; rfl
  have s10 : a0.tmps[10]?.getD undef = .pointer (some ⟨gx, 0, none⟩) := by rw [ha0]; rfl
  have s11 : a0.tmps[11]?.getD undef = .int .i64 2 := by rw [ha0]; rfl
  have s12 : a0.tmps[12]?.getD undef = .int .i64 0 := by rw [ha0]; rfl
  have s13 : a0.tmps[13]?.getD undef = .slice AH 1 cH := by rw [ha0]; rfl
  have s14 : a0.tmps[14]?.getD undef = .int .i64 0 := by rw [ha0]; rfl
  have s15 : a0.tmps[15]?.getD undef = .slice AP 3 cP := by rw [ha0]; rfl
  have s16 : a0.tmps[16]?.getD undef = .int .i64 0 := by rw [ha0]; rfl
  have s17 : a0.tmps[17]?.getD undef = .slice AW 1 cW := by rw [ha0]; rfl
  have s18 : a0.tmps[18]?.getD undef = .int .i64 0 := by rw [ha0]; rfl
  have s19 : a0.tmps[19]?.getD undef = .int .i64 60 := by rw [ha0]; rfl
  have s20 : a0.tmps[20]?.getD undef = .int .i64 0 := by rw [ha0]; rfl
  have s21 : a0.tmps[21]?.getD undef = .string textX := by rw [ha0]; rfl
  have s22 : a0.tmps[22]?.getD undef = .int .i64 0 := by rw [ha0]; rfl
  have s23 : a0.tmps[23]?.getD undef = .pointer (some ⟨gr, 0, none⟩) := by rw [ha0]; rfl
  have s24 : a0.tmps[24]?.getD undef = .int .i64 0 := by rw [ha0]; rfl
  have s26 : a0.tmps[26]?.getD undef = .int .i64 9 := by rw [ha0]; rfl
  have s28 : a0.tmps[28]?.getD undef = .int .i64 4 := by rw [ha0]; rfl
  clear ha0
  replace HA := HA.out
  replace HRT := HRT.out
  replace HBX := HBX.out
  replace HRH := HRH.out
  replace HRP := HRP.out
  replace HRW := HRW.out
  replace HRS := HRS.out
  replace HBR := HBR.out
  clear q0 q1 q2 q3 q4 q5 q6 q7 q8 htx HX0 IH1 IH3 IHS
  refine wp_region_ghostG (AgI wx (fun k => ([.int .i64 0, .bool true, .bool true, .int .i64 0, .bool true, .bool true, .bool true, .int .i64 0, .bool true, .bool true, .bool true, .int .i64 0, .bool true, .bool true, .bool true, .int .i64 0, .bool true, .bool true, .bool true, .int .i64 0, .bool true, .bool true, .bool true, .int .i64 0, .bool true, .bool true, .bool true, .int .i64 0, .bool true, .bool true, .bool true, .int .i64 0, .bool true, .bool true, .bool true, .int .i64 0, .bool true, .bool true, .bool true, .int .i64 9, .bool true, .bool true, .bool true, .int .i64 4, .bool true, .bool true, .bool true, .bool true, .bool true, .bool true, .bool false, .bool true, .bool true, .bool true, .slice AT 4 cT, .agg #[.int .i64 1180, .int .i64 1200], .agg #[.int .i64 900, .int .i64 940], .agg #[.int .i64 910, .int .i64 950], .agg #[.int .i64 900, .int .i64 940], undef, .bool true, .bool true, .bool true, .agg #[.int .i64 10, .int .i64 40], .agg #[.int .i64 10, .int .i64 40], .bool true, .bool true, .bool true, .int .i64 2, .bool true, .bool true, .bool true, .slice AH 1 cH, undef, .bool true, .bool true, .bool true, .slice AP 3 cP, undef, .bool true, .bool true, .bool true, .slice AW 1 cW, undef, .bool true, .bool true, .bool true, .int .i64 60, .bool true, .bool true, .bool true, .string textX, .string textX, .bool true, .bool true, .bool true, .agg #[.int .i64 100, .slice AR 4 cR, .slice DR 4 dR], .agg #[.int .i64 100, .slice A1 4 c1, .slice D1 4 d1], .bool true, .bool true, .bool true, .bool true, .bool true, .bool true, .bool false, .bool true, .bool true, .bool true] : List Value).getD k undef) (fun k => ([(59, (4, #[.int .i64 1180, .int .i64 1200, .int .i64 900, .int .i64 940, .int .i64 910, .int .i64 950, .int .i64 900, .int .i64 940], 40)), (73, (1, #[.int .i64 0], 3)), (78, (3, #[.int .i64 0, .int .i64 1, .int .i64 4], 3)), (83, (1, #[.int .i64 0], 3))] : List (Nat × Nat × Array Value × TypeId)).lookup k)) (by kernel_rfl) (by kernel_rfl) ?_ ?_ ?_
  · exact ⟨(Below.refl _ _).drew, fun _ _ h => (by cases h), fun _ _ _ _ _ h => (by cases h)⟩
  · refine ⟨?_, ?_, ?_, ?_, ?_, ?_, ?_, ?_, ?_, ?_, ?_, ?_, ?_, ?_, ?_, ?_, ?_, ?_, ?_, ?_, ?_, ?_, ?_, ?_, ?_, ?_, ?_, ?_, ?_, ?_, ?_, ?_, ?_, ?_, ?_, ?_, ?_, ?_, ?_, ?_, ?_, ?_, ?_, ?_, ?_, ?_, ?_, ?_, ?_, ?_, ?_, ?_, ?_, ?_, ?_, ?_, ?_, ?_, ?_, ?_, ?_, ?_, ?_, ?_, ?_, ?_, ?_, ?_, ?_, ?_, ?_, ?_, ?_, ?_, ?_, ?_, ?_, ?_, ?_, ?_, ?_, ?_, ?_, ?_, ?_, ?_, ?_, ?_, ?_, ?_, ?_, ?_, ?_, ?_, ?_, ?_, ?_, ?_, ?_, ?_, ?_, ?_, ?_, ?_, ?_, ?_, ?_, ?_, trivial⟩
    all_goals
      intro L vs X b hL hw hcl hI hf
    · have e5 : b.tmps[5]?.getD undef = .int .i64 0 := (hf.old 5 (by kernel_rfl)).trans s5
      refine ⟨wanted_plain rfl, ?_⟩
      refine wp_of_run (v := .int .i64 0) (w' := X) (by unfold execOp; go_simp) ?_
      exact hI.next (i := 0) rfl rfl (Below.refl _ _)
    · have h0 : L 0 = true := done_of hw 0 (by kernel_rfl)
      have e95 : b.tmps[95]?.getD undef = .int .i64 0 := (hf.new 0 95 rfl h0 (by rw [hsz]; decide)).trans (hI.rd 0 rfl h0)
      refine ⟨wanted_plain rfl, ?_⟩
      refine wp_of_run (v := .bool true) (w' := X) (by unfold execOp; go_simp) ?_
      exact hI.next (i := 1) rfl rfl (Below.refl _ _)
    · have h1 : L 1 = true := done_of hw 1 (by kernel_rfl)
      have e96 : b.tmps[96]?.getD undef = .bool true := (hf.new 1 96 rfl h1 (by rw [hsz]; decide)).trans (hI.rd 1 rfl h1)
      refine ⟨wanted_plain rfl, ?_⟩
      refine wp_of_run (v := .bool true) (w' := X) (by unfold execOp; go_simp) ?_
      exact hI.next (i := 2) rfl rfl (Below.refl _ _)
    · have e7 : b.tmps[7]?.getD undef = .int .i64 0 := (hf.old 7 (by kernel_rfl)).trans s7
      have h2 : L 2 = true := done_of hw 2 (by kernel_rfl)
      have eg : b.tmps[97]?.getD undef = .bool true := (hf.new 2 97 rfl h2 (by rw [hsz]; decide)).trans (hI.rd 2 rfl h2)
      refine ⟨wanted_of rfl (k := 2) (d := 97) rfl eg, ?_⟩
      clear eg
      refine wp_of_run (v := .int .i64 0) (w' := X) (by unfold execOp; go_simp) ?_
      exact hI.next (i := 3) rfl rfl (Below.refl _ _)
    · have h3 : L 3 = true := done_of hw 3 (by kernel_rfl)
      have e98 : b.tmps[98]?.getD undef = .int .i64 0 := (hf.new 3 98 rfl h3 (by rw [hsz]; decide)).trans (hI.rd 3 rfl h3)
      have h2 : L 2 = true := done_of hw 2 (by kernel_rfl)
      have eg : b.tmps[97]?.getD undef = .bool true := (hf.new 2 97 rfl h2 (by rw [hsz]; decide)).trans (hI.rd 2 rfl h2)
      refine ⟨wanted_of rfl (k := 2) (d := 97) rfl eg, ?_⟩
      clear eg
      refine wp_of_run (v := .bool true) (w' := X) (by unfold execOp; go_simp) ?_
      exact hI.next (i := 4) rfl rfl (Below.refl _ _)
    · have h2 : L 2 = true := done_of hw 2 (by kernel_rfl)
      have e97 : b.tmps[97]?.getD undef = .bool true := (hf.new 2 97 rfl h2 (by rw [hsz]; decide)).trans (hI.rd 2 rfl h2)
      have h4 : L 4 = true := done_of hw 4 (by kernel_rfl)
      have e99 : b.tmps[99]?.getD undef = .bool true := (hf.new 4 99 rfl h4 (by rw [hsz]; decide)).trans (hI.rd 4 rfl h4)
      refine ⟨wanted_plain rfl, ?_⟩
      refine wp_of_run (v := .bool true) (w' := X) (by unfold execOp; go_simp) ?_
      exact hI.next (i := 5) rfl rfl (Below.refl _ _)
    · have h5 : L 5 = true := done_of hw 5 (by kernel_rfl)
      have e100 : b.tmps[100]?.getD undef = .bool true := (hf.new 5 100 rfl h5 (by rw [hsz]; decide)).trans (hI.rd 5 rfl h5)
      refine ⟨wanted_plain rfl, ?_⟩
      refine wp_of_run (v := .bool true) (w' := X) (by unfold execOp; go_simp) ?_
      exact hI.next (i := 6) rfl rfl (Below.refl _ _)
    · have e9 : b.tmps[9]?.getD undef = .int .i64 0 := (hf.old 9 (by kernel_rfl)).trans s9
      have h6 : L 6 = true := done_of hw 6 (by kernel_rfl)
      have eg : b.tmps[101]?.getD undef = .bool true := (hf.new 6 101 rfl h6 (by rw [hsz]; decide)).trans (hI.rd 6 rfl h6)
      refine ⟨wanted_of rfl (k := 6) (d := 101) rfl eg, ?_⟩
      clear eg
      refine wp_of_run (v := .int .i64 0) (w' := X) (by unfold execOp; go_simp) ?_
      exact hI.next (i := 7) rfl rfl (Below.refl _ _)
    · have h7 : L 7 = true := done_of hw 7 (by kernel_rfl)
      have e102 : b.tmps[102]?.getD undef = .int .i64 0 := (hf.new 7 102 rfl h7 (by rw [hsz]; decide)).trans (hI.rd 7 rfl h7)
      have h6 : L 6 = true := done_of hw 6 (by kernel_rfl)
      have eg : b.tmps[101]?.getD undef = .bool true := (hf.new 6 101 rfl h6 (by rw [hsz]; decide)).trans (hI.rd 6 rfl h6)
      refine ⟨wanted_of rfl (k := 6) (d := 101) rfl eg, ?_⟩
      clear eg
      refine wp_of_run (v := .bool true) (w' := X) (by unfold execOp; go_simp) ?_
      exact hI.next (i := 8) rfl rfl (Below.refl _ _)
    · have h6 : L 6 = true := done_of hw 6 (by kernel_rfl)
      have e101 : b.tmps[101]?.getD undef = .bool true := (hf.new 6 101 rfl h6 (by rw [hsz]; decide)).trans (hI.rd 6 rfl h6)
      have h8 : L 8 = true := done_of hw 8 (by kernel_rfl)
      have e103 : b.tmps[103]?.getD undef = .bool true := (hf.new 8 103 rfl h8 (by rw [hsz]; decide)).trans (hI.rd 8 rfl h8)
      refine ⟨wanted_plain rfl, ?_⟩
      refine wp_of_run (v := .bool true) (w' := X) (by unfold execOp; go_simp) ?_
      exact hI.next (i := 9) rfl rfl (Below.refl _ _)
    · have h9 : L 9 = true := done_of hw 9 (by kernel_rfl)
      have e104 : b.tmps[104]?.getD undef = .bool true := (hf.new 9 104 rfl h9 (by rw [hsz]; decide)).trans (hI.rd 9 rfl h9)
      refine ⟨wanted_plain rfl, ?_⟩
      refine wp_of_run (v := .bool true) (w' := X) (by unfold execOp; go_simp) ?_
      exact hI.next (i := 10) rfl rfl (Below.refl _ _)
    · have e12 : b.tmps[12]?.getD undef = .int .i64 0 := (hf.old 12 (by kernel_rfl)).trans s12
      have h10 : L 10 = true := done_of hw 10 (by kernel_rfl)
      have eg : b.tmps[105]?.getD undef = .bool true := (hf.new 10 105 rfl h10 (by rw [hsz]; decide)).trans (hI.rd 10 rfl h10)
      refine ⟨wanted_of rfl (k := 10) (d := 105) rfl eg, ?_⟩
      clear eg
      refine wp_of_run (v := .int .i64 0) (w' := X) (by unfold execOp; go_simp) ?_
      exact hI.next (i := 11) rfl rfl (Below.refl _ _)
    · have h11 : L 11 = true := done_of hw 11 (by kernel_rfl)
      have e106 : b.tmps[106]?.getD undef = .int .i64 0 := (hf.new 11 106 rfl h11 (by rw [hsz]; decide)).trans (hI.rd 11 rfl h11)
      have h10 : L 10 = true := done_of hw 10 (by kernel_rfl)
      have eg : b.tmps[105]?.getD undef = .bool true := (hf.new 10 105 rfl h10 (by rw [hsz]; decide)).trans (hI.rd 10 rfl h10)
      refine ⟨wanted_of rfl (k := 10) (d := 105) rfl eg, ?_⟩
      clear eg
      refine wp_of_run (v := .bool true) (w' := X) (by unfold execOp; go_simp) ?_
      exact hI.next (i := 12) rfl rfl (Below.refl _ _)
    · have h10 : L 10 = true := done_of hw 10 (by kernel_rfl)
      have e105 : b.tmps[105]?.getD undef = .bool true := (hf.new 10 105 rfl h10 (by rw [hsz]; decide)).trans (hI.rd 10 rfl h10)
      have h12 : L 12 = true := done_of hw 12 (by kernel_rfl)
      have e107 : b.tmps[107]?.getD undef = .bool true := (hf.new 12 107 rfl h12 (by rw [hsz]; decide)).trans (hI.rd 12 rfl h12)
      refine ⟨wanted_plain rfl, ?_⟩
      refine wp_of_run (v := .bool true) (w' := X) (by unfold execOp; go_simp) ?_
      exact hI.next (i := 13) rfl rfl (Below.refl _ _)
    · have h13 : L 13 = true := done_of hw 13 (by kernel_rfl)
      have e108 : b.tmps[108]?.getD undef = .bool true := (hf.new 13 108 rfl h13 (by rw [hsz]; decide)).trans (hI.rd 13 rfl h13)
      refine ⟨wanted_plain rfl, ?_⟩
      refine wp_of_run (v := .bool true) (w' := X) (by unfold execOp; go_simp) ?_
      exact hI.next (i := 14) rfl rfl (Below.refl _ _)
    · have e14 : b.tmps[14]?.getD undef = .int .i64 0 := (hf.old 14 (by kernel_rfl)).trans s14
      have h14 : L 14 = true := done_of hw 14 (by kernel_rfl)
      have eg : b.tmps[109]?.getD undef = .bool true := (hf.new 14 109 rfl h14 (by rw [hsz]; decide)).trans (hI.rd 14 rfl h14)
      refine ⟨wanted_of rfl (k := 14) (d := 109) rfl eg, ?_⟩
      clear eg
      refine wp_of_run (v := .int .i64 0) (w' := X) (by unfold execOp; go_simp) ?_
      exact hI.next (i := 15) rfl rfl (Below.refl _ _)
    · have h15 : L 15 = true := done_of hw 15 (by kernel_rfl)
      have e110 : b.tmps[110]?.getD undef = .int .i64 0 := (hf.new 15 110 rfl h15 (by rw [hsz]; decide)).trans (hI.rd 15 rfl h15)
      have h14 : L 14 = true := done_of hw 14 (by kernel_rfl)
      have eg : b.tmps[109]?.getD undef = .bool true := (hf.new 14 109 rfl h14 (by rw [hsz]; decide)).trans (hI.rd 14 rfl h14)
      refine ⟨wanted_of rfl (k := 14) (d := 109) rfl eg, ?_⟩
      clear eg
      refine wp_of_run (v := .bool true) (w' := X) (by unfold execOp; go_simp) ?_
      exact hI.next (i := 16) rfl rfl (Below.refl _ _)
    · have h14 : L 14 = true := done_of hw 14 (by kernel_rfl)
      have e109 : b.tmps[109]?.getD undef = .bool true := (hf.new 14 109 rfl h14 (by rw [hsz]; decide)).trans (hI.rd 14 rfl h14)
      have h16 : L 16 = true := done_of hw 16 (by kernel_rfl)
      have e111 : b.tmps[111]?.getD undef = .bool true := (hf.new 16 111 rfl h16 (by rw [hsz]; decide)).trans (hI.rd 16 rfl h16)
      refine ⟨wanted_plain rfl, ?_⟩
      refine wp_of_run (v := .bool true) (w' := X) (by unfold execOp; go_simp) ?_
      exact hI.next (i := 17) rfl rfl (Below.refl _ _)
    · have h17 : L 17 = true := done_of hw 17 (by kernel_rfl)
      have e112 : b.tmps[112]?.getD undef = .bool true := (hf.new 17 112 rfl h17 (by rw [hsz]; decide)).trans (hI.rd 17 rfl h17)
      refine ⟨wanted_plain rfl, ?_⟩
      refine wp_of_run (v := .bool true) (w' := X) (by unfold execOp; go_simp) ?_
      exact hI.next (i := 18) rfl rfl (Below.refl _ _)
    · have e16 : b.tmps[16]?.getD undef = .int .i64 0 := (hf.old 16 (by kernel_rfl)).trans s16
      have h18 : L 18 = true := done_of hw 18 (by kernel_rfl)
      have eg : b.tmps[113]?.getD undef = .bool true := (hf.new 18 113 rfl h18 (by rw [hsz]; decide)).trans (hI.rd 18 rfl h18)
      refine ⟨wanted_of rfl (k := 18) (d := 113) rfl eg, ?_⟩
      clear eg
      refine wp_of_run (v := .int .i64 0) (w' := X) (by unfold execOp; go_simp) ?_
      exact hI.next (i := 19) rfl rfl (Below.refl _ _)
    · have h19 : L 19 = true := done_of hw 19 (by kernel_rfl)
      have e114 : b.tmps[114]?.getD undef = .int .i64 0 := (hf.new 19 114 rfl h19 (by rw [hsz]; decide)).trans (hI.rd 19 rfl h19)
      have h18 : L 18 = true := done_of hw 18 (by kernel_rfl)
      have eg : b.tmps[113]?.getD undef = .bool true := (hf.new 18 113 rfl h18 (by rw [hsz]; decide)).trans (hI.rd 18 rfl h18)
      refine ⟨wanted_of rfl (k := 18) (d := 113) rfl eg, ?_⟩
      clear eg
      refine wp_of_run (v := .bool true) (w' := X) (by unfold execOp; go_simp) ?_
      exact hI.next (i := 20) rfl rfl (Below.refl _ _)
    · have h18 : L 18 = true := done_of hw 18 (by kernel_rfl)
      have e113 : b.tmps[113]?.getD undef = .bool true := (hf.new 18 113 rfl h18 (by rw [hsz]; decide)).trans (hI.rd 18 rfl h18)
      have h20 : L 20 = true := done_of hw 20 (by kernel_rfl)
      have e115 : b.tmps[115]?.getD undef = .bool true := (hf.new 20 115 rfl h20 (by rw [hsz]; decide)).trans (hI.rd 20 rfl h20)
      refine ⟨wanted_plain rfl, ?_⟩
      refine wp_of_run (v := .bool true) (w' := X) (by unfold execOp; go_simp) ?_
      exact hI.next (i := 21) rfl rfl (Below.refl _ _)
    · have h21 : L 21 = true := done_of hw 21 (by kernel_rfl)
      have e116 : b.tmps[116]?.getD undef = .bool true := (hf.new 21 116 rfl h21 (by rw [hsz]; decide)).trans (hI.rd 21 rfl h21)
      refine ⟨wanted_plain rfl, ?_⟩
      refine wp_of_run (v := .bool true) (w' := X) (by unfold execOp; go_simp) ?_
      exact hI.next (i := 22) rfl rfl (Below.refl _ _)
    · have e18 : b.tmps[18]?.getD undef = .int .i64 0 := (hf.old 18 (by kernel_rfl)).trans s18
      have h22 : L 22 = true := done_of hw 22 (by kernel_rfl)
      have eg : b.tmps[117]?.getD undef = .bool true := (hf.new 22 117 rfl h22 (by rw [hsz]; decide)).trans (hI.rd 22 rfl h22)
      refine ⟨wanted_of rfl (k := 22) (d := 117) rfl eg, ?_⟩
      clear eg
      refine wp_of_run (v := .int .i64 0) (w' := X) (by unfold execOp; go_simp) ?_
      exact hI.next (i := 23) rfl rfl (Below.refl _ _)
    · have h23 : L 23 = true := done_of hw 23 (by kernel_rfl)
      have e118 : b.tmps[118]?.getD undef = .int .i64 0 := (hf.new 23 118 rfl h23 (by rw [hsz]; decide)).trans (hI.rd 23 rfl h23)
      have h22 : L 22 = true := done_of hw 22 (by kernel_rfl)
      have eg : b.tmps[117]?.getD undef = .bool true := (hf.new 22 117 rfl h22 (by rw [hsz]; decide)).trans (hI.rd 22 rfl h22)
      refine ⟨wanted_of rfl (k := 22) (d := 117) rfl eg, ?_⟩
      clear eg
      refine wp_of_run (v := .bool true) (w' := X) (by unfold execOp; go_simp) ?_
      exact hI.next (i := 24) rfl rfl (Below.refl _ _)
    · have h22 : L 22 = true := done_of hw 22 (by kernel_rfl)
      have e117 : b.tmps[117]?.getD undef = .bool true := (hf.new 22 117 rfl h22 (by rw [hsz]; decide)).trans (hI.rd 22 rfl h22)
      have h24 : L 24 = true := done_of hw 24 (by kernel_rfl)
      have e119 : b.tmps[119]?.getD undef = .bool true := (hf.new 24 119 rfl h24 (by rw [hsz]; decide)).trans (hI.rd 24 rfl h24)
      refine ⟨wanted_plain rfl, ?_⟩
      refine wp_of_run (v := .bool true) (w' := X) (by unfold execOp; go_simp) ?_
      exact hI.next (i := 25) rfl rfl (Below.refl _ _)
    · have h25 : L 25 = true := done_of hw 25 (by kernel_rfl)
      have e120 : b.tmps[120]?.getD undef = .bool true := (hf.new 25 120 rfl h25 (by rw [hsz]; decide)).trans (hI.rd 25 rfl h25)
      refine ⟨wanted_plain rfl, ?_⟩
      refine wp_of_run (v := .bool true) (w' := X) (by unfold execOp; go_simp) ?_
      exact hI.next (i := 26) rfl rfl (Below.refl _ _)
    · have e20 : b.tmps[20]?.getD undef = .int .i64 0 := (hf.old 20 (by kernel_rfl)).trans s20
      have h26 : L 26 = true := done_of hw 26 (by kernel_rfl)
      have eg : b.tmps[121]?.getD undef = .bool true := (hf.new 26 121 rfl h26 (by rw [hsz]; decide)).trans (hI.rd 26 rfl h26)
      refine ⟨wanted_of rfl (k := 26) (d := 121) rfl eg, ?_⟩
      clear eg
      refine wp_of_run (v := .int .i64 0) (w' := X) (by unfold execOp; go_simp) ?_
      exact hI.next (i := 27) rfl rfl (Below.refl _ _)
    · have h27 : L 27 = true := done_of hw 27 (by kernel_rfl)
      have e122 : b.tmps[122]?.getD undef = .int .i64 0 := (hf.new 27 122 rfl h27 (by rw [hsz]; decide)).trans (hI.rd 27 rfl h27)
      have h26 : L 26 = true := done_of hw 26 (by kernel_rfl)
      have eg : b.tmps[121]?.getD undef = .bool true := (hf.new 26 121 rfl h26 (by rw [hsz]; decide)).trans (hI.rd 26 rfl h26)
      refine ⟨wanted_of rfl (k := 26) (d := 121) rfl eg, ?_⟩
      clear eg
      refine wp_of_run (v := .bool true) (w' := X) (by unfold execOp; go_simp) ?_
      exact hI.next (i := 28) rfl rfl (Below.refl _ _)
    · have h26 : L 26 = true := done_of hw 26 (by kernel_rfl)
      have e121 : b.tmps[121]?.getD undef = .bool true := (hf.new 26 121 rfl h26 (by rw [hsz]; decide)).trans (hI.rd 26 rfl h26)
      have h28 : L 28 = true := done_of hw 28 (by kernel_rfl)
      have e123 : b.tmps[123]?.getD undef = .bool true := (hf.new 28 123 rfl h28 (by rw [hsz]; decide)).trans (hI.rd 28 rfl h28)
      refine ⟨wanted_plain rfl, ?_⟩
      refine wp_of_run (v := .bool true) (w' := X) (by unfold execOp; go_simp) ?_
      exact hI.next (i := 29) rfl rfl (Below.refl _ _)
    · have h29 : L 29 = true := done_of hw 29 (by kernel_rfl)
      have e124 : b.tmps[124]?.getD undef = .bool true := (hf.new 29 124 rfl h29 (by rw [hsz]; decide)).trans (hI.rd 29 rfl h29)
      refine ⟨wanted_plain rfl, ?_⟩
      refine wp_of_run (v := .bool true) (w' := X) (by unfold execOp; go_simp) ?_
      exact hI.next (i := 30) rfl rfl (Below.refl _ _)
    · have e22 : b.tmps[22]?.getD undef = .int .i64 0 := (hf.old 22 (by kernel_rfl)).trans s22
      have h30 : L 30 = true := done_of hw 30 (by kernel_rfl)
      have eg : b.tmps[125]?.getD undef = .bool true := (hf.new 30 125 rfl h30 (by rw [hsz]; decide)).trans (hI.rd 30 rfl h30)
      refine ⟨wanted_of rfl (k := 30) (d := 125) rfl eg, ?_⟩
      clear eg
      refine wp_of_run (v := .int .i64 0) (w' := X) (by unfold execOp; go_simp) ?_
      exact hI.next (i := 31) rfl rfl (Below.refl _ _)
    · have h31 : L 31 = true := done_of hw 31 (by kernel_rfl)
      have e126 : b.tmps[126]?.getD undef = .int .i64 0 := (hf.new 31 126 rfl h31 (by rw [hsz]; decide)).trans (hI.rd 31 rfl h31)
      have h30 : L 30 = true := done_of hw 30 (by kernel_rfl)
      have eg : b.tmps[125]?.getD undef = .bool true := (hf.new 30 125 rfl h30 (by rw [hsz]; decide)).trans (hI.rd 30 rfl h30)
      refine ⟨wanted_of rfl (k := 30) (d := 125) rfl eg, ?_⟩
      clear eg
      refine wp_of_run (v := .bool true) (w' := X) (by unfold execOp; go_simp) ?_
      exact hI.next (i := 32) rfl rfl (Below.refl _ _)
    · have h30 : L 30 = true := done_of hw 30 (by kernel_rfl)
      have e125 : b.tmps[125]?.getD undef = .bool true := (hf.new 30 125 rfl h30 (by rw [hsz]; decide)).trans (hI.rd 30 rfl h30)
      have h32 : L 32 = true := done_of hw 32 (by kernel_rfl)
      have e127 : b.tmps[127]?.getD undef = .bool true := (hf.new 32 127 rfl h32 (by rw [hsz]; decide)).trans (hI.rd 32 rfl h32)
      refine ⟨wanted_plain rfl, ?_⟩
      refine wp_of_run (v := .bool true) (w' := X) (by unfold execOp; go_simp) ?_
      exact hI.next (i := 33) rfl rfl (Below.refl _ _)
    · have h33 : L 33 = true := done_of hw 33 (by kernel_rfl)
      have e128 : b.tmps[128]?.getD undef = .bool true := (hf.new 33 128 rfl h33 (by rw [hsz]; decide)).trans (hI.rd 33 rfl h33)
      refine ⟨wanted_plain rfl, ?_⟩
      refine wp_of_run (v := .bool true) (w' := X) (by unfold execOp; go_simp) ?_
      exact hI.next (i := 34) rfl rfl (Below.refl _ _)
    · have e24 : b.tmps[24]?.getD undef = .int .i64 0 := (hf.old 24 (by kernel_rfl)).trans s24
      have h34 : L 34 = true := done_of hw 34 (by kernel_rfl)
      have eg : b.tmps[129]?.getD undef = .bool true := (hf.new 34 129 rfl h34 (by rw [hsz]; decide)).trans (hI.rd 34 rfl h34)
      refine ⟨wanted_of rfl (k := 34) (d := 129) rfl eg, ?_⟩
      clear eg
      refine wp_of_run (v := .int .i64 0) (w' := X) (by unfold execOp; go_simp) ?_
      exact hI.next (i := 35) rfl rfl (Below.refl _ _)
    · have h35 : L 35 = true := done_of hw 35 (by kernel_rfl)
      have e130 : b.tmps[130]?.getD undef = .int .i64 0 := (hf.new 35 130 rfl h35 (by rw [hsz]; decide)).trans (hI.rd 35 rfl h35)
      have h34 : L 34 = true := done_of hw 34 (by kernel_rfl)
      have eg : b.tmps[129]?.getD undef = .bool true := (hf.new 34 129 rfl h34 (by rw [hsz]; decide)).trans (hI.rd 34 rfl h34)
      refine ⟨wanted_of rfl (k := 34) (d := 129) rfl eg, ?_⟩
      clear eg
      refine wp_of_run (v := .bool true) (w' := X) (by unfold execOp; go_simp) ?_
      exact hI.next (i := 36) rfl rfl (Below.refl _ _)
    · have h34 : L 34 = true := done_of hw 34 (by kernel_rfl)
      have e129 : b.tmps[129]?.getD undef = .bool true := (hf.new 34 129 rfl h34 (by rw [hsz]; decide)).trans (hI.rd 34 rfl h34)
      have h36 : L 36 = true := done_of hw 36 (by kernel_rfl)
      have e131 : b.tmps[131]?.getD undef = .bool true := (hf.new 36 131 rfl h36 (by rw [hsz]; decide)).trans (hI.rd 36 rfl h36)
      refine ⟨wanted_plain rfl, ?_⟩
      refine wp_of_run (v := .bool true) (w' := X) (by unfold execOp; go_simp) ?_
      exact hI.next (i := 37) rfl rfl (Below.refl _ _)
    · have h37 : L 37 = true := done_of hw 37 (by kernel_rfl)
      have e132 : b.tmps[132]?.getD undef = .bool true := (hf.new 37 132 rfl h37 (by rw [hsz]; decide)).trans (hI.rd 37 rfl h37)
      refine ⟨wanted_plain rfl, ?_⟩
      refine wp_of_run (v := .bool true) (w' := X) (by unfold execOp; go_simp) ?_
      exact hI.next (i := 38) rfl rfl (Below.refl _ _)
    · have e26 : b.tmps[26]?.getD undef = .int .i64 9 := (hf.old 26 (by kernel_rfl)).trans s26
      have h38 : L 38 = true := done_of hw 38 (by kernel_rfl)
      have eg : b.tmps[133]?.getD undef = .bool true := (hf.new 38 133 rfl h38 (by rw [hsz]; decide)).trans (hI.rd 38 rfl h38)
      refine ⟨wanted_of rfl (k := 38) (d := 133) rfl eg, ?_⟩
      clear eg
      refine wp_of_run (v := .int .i64 9) (w' := X) (by unfold execOp; go_simp) ?_
      exact hI.next (i := 39) rfl rfl (Below.refl _ _)
    · have h39 : L 39 = true := done_of hw 39 (by kernel_rfl)
      have e134 : b.tmps[134]?.getD undef = .int .i64 9 := (hf.new 39 134 rfl h39 (by rw [hsz]; decide)).trans (hI.rd 39 rfl h39)
      have h38 : L 38 = true := done_of hw 38 (by kernel_rfl)
      have eg : b.tmps[133]?.getD undef = .bool true := (hf.new 38 133 rfl h38 (by rw [hsz]; decide)).trans (hI.rd 38 rfl h38)
      refine ⟨wanted_of rfl (k := 38) (d := 133) rfl eg, ?_⟩
      clear eg
      refine wp_of_run (v := .bool true) (w' := X) (by unfold execOp; go_simp) ?_
      exact hI.next (i := 40) rfl rfl (Below.refl _ _)
    · have h38 : L 38 = true := done_of hw 38 (by kernel_rfl)
      have e133 : b.tmps[133]?.getD undef = .bool true := (hf.new 38 133 rfl h38 (by rw [hsz]; decide)).trans (hI.rd 38 rfl h38)
      have h40 : L 40 = true := done_of hw 40 (by kernel_rfl)
      have e135 : b.tmps[135]?.getD undef = .bool true := (hf.new 40 135 rfl h40 (by rw [hsz]; decide)).trans (hI.rd 40 rfl h40)
      refine ⟨wanted_plain rfl, ?_⟩
      refine wp_of_run (v := .bool true) (w' := X) (by unfold execOp; go_simp) ?_
      exact hI.next (i := 41) rfl rfl (Below.refl _ _)
    · have h41 : L 41 = true := done_of hw 41 (by kernel_rfl)
      have e136 : b.tmps[136]?.getD undef = .bool true := (hf.new 41 136 rfl h41 (by rw [hsz]; decide)).trans (hI.rd 41 rfl h41)
      refine ⟨wanted_plain rfl, ?_⟩
      refine wp_of_run (v := .bool true) (w' := X) (by unfold execOp; go_simp) ?_
      exact hI.next (i := 42) rfl rfl (Below.refl _ _)
    · have e28 : b.tmps[28]?.getD undef = .int .i64 4 := (hf.old 28 (by kernel_rfl)).trans s28
      have h42 : L 42 = true := done_of hw 42 (by kernel_rfl)
      have eg : b.tmps[137]?.getD undef = .bool true := (hf.new 42 137 rfl h42 (by rw [hsz]; decide)).trans (hI.rd 42 rfl h42)
      refine ⟨wanted_of rfl (k := 42) (d := 137) rfl eg, ?_⟩
      clear eg
      refine wp_of_run (v := .int .i64 4) (w' := X) (by unfold execOp; go_simp) ?_
      exact hI.next (i := 43) rfl rfl (Below.refl _ _)
    · have h43 : L 43 = true := done_of hw 43 (by kernel_rfl)
      have e138 : b.tmps[138]?.getD undef = .int .i64 4 := (hf.new 43 138 rfl h43 (by rw [hsz]; decide)).trans (hI.rd 43 rfl h43)
      have h42 : L 42 = true := done_of hw 42 (by kernel_rfl)
      have eg : b.tmps[137]?.getD undef = .bool true := (hf.new 42 137 rfl h42 (by rw [hsz]; decide)).trans (hI.rd 42 rfl h42)
      refine ⟨wanted_of rfl (k := 42) (d := 137) rfl eg, ?_⟩
      clear eg
      refine wp_of_run (v := .bool true) (w' := X) (by unfold execOp; go_simp) ?_
      exact hI.next (i := 44) rfl rfl (Below.refl _ _)
    · have h42 : L 42 = true := done_of hw 42 (by kernel_rfl)
      have e137 : b.tmps[137]?.getD undef = .bool true := (hf.new 42 137 rfl h42 (by rw [hsz]; decide)).trans (hI.rd 42 rfl h42)
      have h44 : L 44 = true := done_of hw 44 (by kernel_rfl)
      have e139 : b.tmps[139]?.getD undef = .bool true := (hf.new 44 139 rfl h44 (by rw [hsz]; decide)).trans (hI.rd 44 rfl h44)
      refine ⟨wanted_plain rfl, ?_⟩
      refine wp_of_run (v := .bool true) (w' := X) (by unfold execOp; go_simp) ?_
      exact hI.next (i := 45) rfl rfl (Below.refl _ _)
    · have h45 : L 45 = true := done_of hw 45 (by kernel_rfl)
      have e140 : b.tmps[140]?.getD undef = .bool true := (hf.new 45 140 rfl h45 (by rw [hsz]; decide)).trans (hI.rd 45 rfl h45)
      refine ⟨wanted_plain rfl, ?_⟩
      refine wp_of_run (v := .bool true) (w' := X) (by unfold execOp; go_simp) ?_
      exact hI.next (i := 46) rfl rfl (Below.refl _ _)
    · have e4 : b.tmps[4]?.getD undef = .bool true := (hf.old 4 (by kernel_rfl)).trans s4
      have h46 : L 46 = true := done_of hw 46 (by kernel_rfl)
      have eg : b.tmps[141]?.getD undef = .bool true := (hf.new 46 141 rfl h46 (by rw [hsz]; decide)).trans (hI.rd 46 rfl h46)
      refine ⟨wanted_of rfl (k := 46) (d := 141) rfl eg, ?_⟩
      clear eg
      refine wp_of_run (v := .bool true) (w' := X) (by unfold execOp; go_simp) ?_
      exact hI.next (i := 47) rfl rfl (Below.refl _ _)
    · have h46 : L 46 = true := done_of hw 46 (by kernel_rfl)
      have e141 : b.tmps[141]?.getD undef = .bool true := (hf.new 46 141 rfl h46 (by rw [hsz]; decide)).trans (hI.rd 46 rfl h46)
      have h47 : L 47 = true := done_of hw 47 (by kernel_rfl)
      have e142 : b.tmps[142]?.getD undef = .bool true := (hf.new 47 142 rfl h47 (by rw [hsz]; decide)).trans (hI.rd 47 rfl h47)
      refine ⟨wanted_plain rfl, ?_⟩
      refine wp_of_run (v := .bool true) (w' := X) (by unfold execOp; go_simp) ?_
      exact hI.next (i := 48) rfl rfl (Below.refl _ _)
    · have h48 : L 48 = true := done_of hw 48 (by kernel_rfl)
      have e143 : b.tmps[143]?.getD undef = .bool true := (hf.new 48 143 rfl h48 (by rw [hsz]; decide)).trans (hI.rd 48 rfl h48)
      refine ⟨wanted_plain rfl, ?_⟩
      refine wp_of_run (v := .bool true) (w' := X) (by unfold execOp; go_simp) ?_
      exact hI.next (i := 49) rfl rfl (Below.refl _ _)
    · have e6 : b.tmps[6]?.getD undef = .bool false := (hf.old 6 (by kernel_rfl)).trans s6
      have h49 : L 49 = true := done_of hw 49 (by kernel_rfl)
      have eg : b.tmps[144]?.getD undef = .bool true := (hf.new 49 144 rfl h49 (by rw [hsz]; decide)).trans (hI.rd 49 rfl h49)
      refine ⟨wanted_of rfl (k := 49) (d := 144) rfl eg, ?_⟩
      clear eg
      refine wp_of_run (v := .bool false) (w' := X) (by unfold execOp; go_simp) ?_
      exact hI.next (i := 50) rfl rfl (Below.refl _ _)
    · have h50 : L 50 = true := done_of hw 50 (by kernel_rfl)
      have e145 : b.tmps[145]?.getD undef = .bool false := (hf.new 50 145 rfl h50 (by rw [hsz]; decide)).trans (hI.rd 50 rfl h50)
      have h49 : L 49 = true := done_of hw 49 (by kernel_rfl)
      have eg : b.tmps[144]?.getD undef = .bool true := (hf.new 49 144 rfl h49 (by rw [hsz]; decide)).trans (hI.rd 49 rfl h49)
      refine ⟨wanted_of rfl (k := 49) (d := 144) rfl eg, ?_⟩
      clear eg
      refine wp_of_run (v := .bool true) (w' := X) (by unfold execOp; go_simp) ?_
      exact hI.next (i := 51) rfl rfl (Below.refl _ _)
    · have h49 : L 49 = true := done_of hw 49 (by kernel_rfl)
      have e144 : b.tmps[144]?.getD undef = .bool true := (hf.new 49 144 rfl h49 (by rw [hsz]; decide)).trans (hI.rd 49 rfl h49)
      have h51 : L 51 = true := done_of hw 51 (by kernel_rfl)
      have e146 : b.tmps[146]?.getD undef = .bool true := (hf.new 51 146 rfl h51 (by rw [hsz]; decide)).trans (hI.rd 51 rfl h51)
      refine ⟨wanted_plain rfl, ?_⟩
      refine wp_of_run (v := .bool true) (w' := X) (by unfold execOp; go_simp) ?_
      exact hI.next (i := 52) rfl rfl (Below.refl _ _)
    · have h52 : L 52 = true := done_of hw 52 (by kernel_rfl)
      have e147 : b.tmps[147]?.getD undef = .bool true := (hf.new 52 147 rfl h52 (by rw [hsz]; decide)).trans (hI.rd 52 rfl h52)
      refine ⟨wanted_plain rfl, ?_⟩
      refine wp_of_run (v := .bool true) (w' := X) (by unfold execOp; go_simp) ?_
      exact hI.next (i := 53) rfl rfl (Below.refl _ _)
    · have e8 : b.tmps[8]?.getD undef = .slice AT 4 cT := (hf.old 8 (by kernel_rfl)).trans s8
      have h53 : L 53 = true := done_of hw 53 (by kernel_rfl)
      have eg : b.tmps[148]?.getD undef = .bool true := (hf.new 53 148 rfl h53 (by rw [hsz]; decide)).trans (hI.rd 53 rfl h53)
      refine ⟨wanted_of rfl (k := 53) (d := 148) rfl eg, ?_⟩
      clear eg
      refine wp_of_run (v := .slice AT 4 cT) (w' := X) (by unfold execOp; go_simp) ?_
      exact hI.next (i := 54) rfl rfl (Below.refl _ _)
    · have h53 : L 53 = true := done_of hw 53 (by kernel_rfl)
      have eg : b.tmps[148]?.getD undef = .bool true := (hf.new 53 148 rfl h53 (by rw [hsz]; decide)).trans (hI.rd 53 rfl h53)
      refine ⟨wanted_of rfl (k := 53) (d := 148) rfl eg, ?_⟩
      clear eg
      refine wp_of_call (f := 43) (args := #[.int .i64 1180, .int .i64 1200]) (run_call_clo (.func 43) _ _ rfl (c := #[]) rfl enterA43 rfl) ?_
      refine (span_any 1180 1200 X).mono ?_
      rintro e wz ⟨rfl, hbz⟩
      exact ⟨_, rfl, hI.next (i := 55) rfl rfl hbz⟩
    · have h53 : L 53 = true := done_of hw 53 (by kernel_rfl)
      have eg : b.tmps[148]?.getD undef = .bool true := (hf.new 53 148 rfl h53 (by rw [hsz]; decide)).trans (hI.rd 53 rfl h53)
      refine ⟨wanted_of rfl (k := 53) (d := 148) rfl eg, ?_⟩
      clear eg
      refine wp_of_call (f := 43) (args := #[.int .i64 900, .int .i64 940]) (run_call_clo (.func 43) _ _ rfl (c := #[]) rfl enterA43 rfl) ?_
      refine (span_any 900 940 X).mono ?_
      rintro e wz ⟨rfl, hbz⟩
      exact ⟨_, rfl, hI.next (i := 56) rfl rfl hbz⟩
    · have h53 : L 53 = true := done_of hw 53 (by kernel_rfl)
      have eg : b.tmps[148]?.getD undef = .bool true := (hf.new 53 148 rfl h53 (by rw [hsz]; decide)).trans (hI.rd 53 rfl h53)
      refine ⟨wanted_of rfl (k := 53) (d := 148) rfl eg, ?_⟩
      clear eg
      refine wp_of_call (f := 43) (args := #[.int .i64 910, .int .i64 950]) (run_call_clo (.func 43) _ _ rfl (c := #[]) rfl enterA43 rfl) ?_
      refine (span_any 910 950 X).mono ?_
      rintro e wz ⟨rfl, hbz⟩
      exact ⟨_, rfl, hI.next (i := 57) rfl rfl hbz⟩
    · have h53 : L 53 = true := done_of hw 53 (by kernel_rfl)
      have eg : b.tmps[148]?.getD undef = .bool true := (hf.new 53 148 rfl h53 (by rw [hsz]; decide)).trans (hI.rd 53 rfl h53)
      refine ⟨wanted_of rfl (k := 53) (d := 148) rfl eg, ?_⟩
      clear eg
      refine wp_of_call (f := 43) (args := #[.int .i64 900, .int .i64 940]) (run_call_clo (.func 43) _ _ rfl (c := #[]) rfl enterA43 rfl) ?_
      refine (span_any 900 940 X).mono ?_
      rintro e wz ⟨rfl, hbz⟩
      exact ⟨_, rfl, hI.next (i := 58) rfl rfl hbz⟩
    · have h55 : L 55 = true := done_of hw 55 (by kernel_rfl)
      have e150 : b.tmps[150]?.getD undef = .agg #[.int .i64 1180, .int .i64 1200] := (hf.new 55 150 rfl h55 (by rw [hsz]; decide)).trans (hI.rd 55 rfl h55)
      have h56 : L 56 = true := done_of hw 56 (by kernel_rfl)
      have e151 : b.tmps[151]?.getD undef = .agg #[.int .i64 900, .int .i64 940] := (hf.new 56 151 rfl h56 (by rw [hsz]; decide)).trans (hI.rd 56 rfl h56)
      have h57 : L 57 = true := done_of hw 57 (by kernel_rfl)
      have e152 : b.tmps[152]?.getD undef = .agg #[.int .i64 910, .int .i64 950] := (hf.new 57 152 rfl h57 (by rw [hsz]; decide)).trans (hI.rd 57 rfl h57)
      have h58 : L 58 = true := done_of hw 58 (by kernel_rfl)
      have e153 : b.tmps[153]?.getD undef = .agg #[.int .i64 900, .int .i64 940] := (hf.new 58 153 rfl h58 (by rw [hsz]; decide)).trans (hI.rd 58 rfl h58)
      have h53 : L 53 = true := done_of hw 53 (by kernel_rfl)
      have eg : b.tmps[148]?.getD undef = .bool true := (hf.new 53 148 rfl h53 (by rw [hsz]; decide)).trans (hI.rd 53 rfl h53)
      refine ⟨wanted_of rfl (k := 53) (d := 148) rfl eg, ?_⟩
      clear eg
      refine wp_of_run (v := .slice (some ⟨X.heap.size, 0, none⟩) 4 4) (w' := X.alloc (.cells #[.int .i64 1180, .int .i64 1200, .int .i64 900, .int .i64 940, .int .i64 910, .int .i64 950, .int .i64 900, .int .i64 940] 40)) (by unfold execOp; go_simp) ?_
      exact hI.made (i := 59) rfl
    · have h54 : L 54 = true := done_of hw 54 (by kernel_rfl)
      have e149 : b.tmps[149]?.getD undef = .slice AT 4 cT := (hf.new 54 149 rfl h54 (by rw [hsz]; decide)).trans (hI.rd 54 rfl h54)
      have h59 : L 59 = true := done_of hw 59 (by kernel_rfl)
      obtain ⟨gb, hgb, hgx⟩ := hI.sl 59 4 #[.int .i64 1180, .int .i64 1200, .int .i64 900, .int .i64 940, .int .i64 910, .int .i64 950, .int .i64 900, .int .i64 940] 40 rfl h59
      have e154 : b.tmps[154]?.getD undef = .slice (some ⟨gb, 0, none⟩) 4 4 := (hf.new 59 154 rfl h59 (by rw [hsz]; decide)).trans hgb
      have h53 : L 53 = true := done_of hw 53 (by kernel_rfl)
      have eg : b.tmps[148]?.getD undef = .bool true := (hf.new 53 148 rfl h53 (by rw [hsz]; decide)).trans (hI.rd 53 rfl h53)
      refine ⟨wanted_of rfl (k := 53) (d := 148) rfl eg, ?_⟩
      clear eg
      refine wp_of_call (f := 25) (args := #[.slice AT 4 cT, .slice (some ⟨gb, 0, none⟩) 4 4]) (run_call_clo (.func 25) _ _ rfl (c := #[]) rfl enterA25 (by simp [eval_tmp e149, eval_tmp e154])) ?_
      refine (spans_lit (rdX HRT hI.bel) rfl (by simp) rfl hgx).mono ?_
      rintro e wz ⟨rfl, hbz⟩
      exact ⟨_, rfl, hI.next (i := 60) rfl rfl hbz⟩
    · have h53 : L 53 = true := done_of hw 53 (by kernel_rfl)
      have e148 : b.tmps[148]?.getD undef = .bool true := (hf.new 53 148 rfl h53 (by rw [hsz]; decide)).trans (hI.rd 53 rfl h53)
      have h60 : L 60 = true := done_of hw 60 (by kernel_rfl)
      have e155 : b.tmps[155]?.getD undef = .bool true := (hf.new 60 155 rfl h60 (by rw [hsz]; decide)).trans (hI.rd 60 rfl h60)
      refine ⟨wanted_plain rfl, ?_⟩
      refine wp_of_run (v := .bool true) (w' := X) (by unfold execOp; go_simp) ?_
      exact hI.next (i := 61) rfl rfl (Below.refl _ _)
    · have h61 : L 61 = true := done_of hw 61 (by kernel_rfl)
      have e156 : b.tmps[156]?.getD undef = .bool true := (hf.new 61 156 rfl h61 (by rw [hsz]; decide)).trans (hI.rd 61 rfl h61)
      refine ⟨wanted_plain rfl, ?_⟩
      refine wp_of_run (v := .bool true) (w' := X) (by unfold execOp; go_simp) ?_
      exact hI.next (i := 62) rfl rfl (Below.refl _ _)
    · have e10 : b.tmps[10]?.getD undef = .pointer (some ⟨gx, 0, none⟩) := (hf.old 10 (by kernel_rfl)).trans s10
      have h62 : L 62 = true := done_of hw 62 (by kernel_rfl)
      have eg : b.tmps[157]?.getD undef = .bool true := (hf.new 62 157 rfl h62 (by rw [hsz]; decide)).trans (hI.rd 62 rfl h62)
      refine ⟨wanted_of rfl (k := 62) (d := 157) rfl eg, ?_⟩
      clear eg
      have x0 := cellOf (rowX HBX hI.bel) 0 (v := .int .i64 10) rfl
      have x1 := cellOf (rowX HBX hI.bel) 1 (v := .int .i64 40) rfl
      refine wp_of_run (v := .agg #[.int .i64 10, .int .i64 40]) (w' := X) (by unfold execOp; go_simp) ?_
      exact hI.next (i := 63) rfl rfl (Below.refl _ _)
    · have h62 : L 62 = true := done_of hw 62 (by kernel_rfl)
      have eg : b.tmps[157]?.getD undef = .bool true := (hf.new 62 157 rfl h62 (by rw [hsz]; decide)).trans (hI.rd 62 rfl h62)
      refine ⟨wanted_of rfl (k := 62) (d := 157) rfl eg, ?_⟩
      clear eg
      refine wp_of_call (f := 43) (args := #[.int .i64 10, .int .i64 40]) (run_call_clo (.func 43) _ _ rfl (c := #[]) rfl enterA43 rfl) ?_
      refine (span_any 10 40 X).mono ?_
      rintro e wz ⟨rfl, hbz⟩
      exact ⟨_, rfl, hI.next (i := 64) rfl rfl hbz⟩
    · have h63 : L 63 = true := done_of hw 63 (by kernel_rfl)
      have e158 : b.tmps[158]?.getD undef = .agg #[.int .i64 10, .int .i64 40] := (hf.new 63 158 rfl h63 (by rw [hsz]; decide)).trans (hI.rd 63 rfl h63)
      have h64 : L 64 = true := done_of hw 64 (by kernel_rfl)
      have e159 : b.tmps[159]?.getD undef = .agg #[.int .i64 10, .int .i64 40] := (hf.new 64 159 rfl h64 (by rw [hsz]; decide)).trans (hI.rd 64 rfl h64)
      have h62 : L 62 = true := done_of hw 62 (by kernel_rfl)
      have eg : b.tmps[157]?.getD undef = .bool true := (hf.new 62 157 rfl h62 (by rw [hsz]; decide)).trans (hI.rd 62 rfl h62)
      refine ⟨wanted_of rfl (k := 62) (d := 157) rfl eg, ?_⟩
      clear eg
      refine wp_of_run (v := .bool true) (w' := X) (by unfold execOp; go_simp) ?_
      exact hI.next (i := 65) rfl rfl (Below.refl _ _)
    · have h62 : L 62 = true := done_of hw 62 (by kernel_rfl)
      have e157 : b.tmps[157]?.getD undef = .bool true := (hf.new 62 157 rfl h62 (by rw [hsz]; decide)).trans (hI.rd 62 rfl h62)
      have h65 : L 65 = true := done_of hw 65 (by kernel_rfl)
      have e160 : b.tmps[160]?.getD undef = .bool true := (hf.new 65 160 rfl h65 (by rw [hsz]; decide)).trans (hI.rd 65 rfl h65)
      refine ⟨wanted_plain rfl, ?_⟩
      refine wp_of_run (v := .bool true) (w' := X) (by unfold execOp; go_simp) ?_
      exact hI.next (i := 66) rfl rfl (Below.refl _ _)
    · have h66 : L 66 = true := done_of hw 66 (by kernel_rfl)
      have e161 : b.tmps[161]?.getD undef = .bool true := (hf.new 66 161 rfl h66 (by rw [hsz]; decide)).trans (hI.rd 66 rfl h66)
      refine ⟨wanted_plain rfl, ?_⟩
      refine wp_of_run (v := .bool true) (w' := X) (by unfold execOp; go_simp) ?_
      exact hI.next (i := 67) rfl rfl (Below.refl _ _)
    · have e11 : b.tmps[11]?.getD undef = .int .i64 2 := (hf.old 11 (by kernel_rfl)).trans s11
      have h67 : L 67 = true := done_of hw 67 (by kernel_rfl)
      have eg : b.tmps[162]?.getD undef = .bool true := (hf.new 67 162 rfl h67 (by rw [hsz]; decide)).trans (hI.rd 67 rfl h67)
      refine ⟨wanted_of rfl (k := 67) (d := 162) rfl eg, ?_⟩
      clear eg
      refine wp_of_run (v := .int .i64 2) (w' := X) (by unfold execOp; go_simp) ?_
      exact hI.next (i := 68) rfl rfl (Below.refl _ _)
    · have h68 : L 68 = true := done_of hw 68 (by kernel_rfl)
      have e163 : b.tmps[163]?.getD undef = .int .i64 2 := (hf.new 68 163 rfl h68 (by rw [hsz]; decide)).trans (hI.rd 68 rfl h68)
      have h67 : L 67 = true := done_of hw 67 (by kernel_rfl)
      have eg : b.tmps[162]?.getD undef = .bool true := (hf.new 67 162 rfl h67 (by rw [hsz]; decide)).trans (hI.rd 67 rfl h67)
      refine ⟨wanted_of rfl (k := 67) (d := 162) rfl eg, ?_⟩
      clear eg
      refine wp_of_run (v := .bool true) (w' := X) (by unfold execOp; go_simp) ?_
      exact hI.next (i := 69) rfl rfl (Below.refl _ _)
    · have h67 : L 67 = true := done_of hw 67 (by kernel_rfl)
      have e162 : b.tmps[162]?.getD undef = .bool true := (hf.new 67 162 rfl h67 (by rw [hsz]; decide)).trans (hI.rd 67 rfl h67)
      have h69 : L 69 = true := done_of hw 69 (by kernel_rfl)
      have e164 : b.tmps[164]?.getD undef = .bool true := (hf.new 69 164 rfl h69 (by rw [hsz]; decide)).trans (hI.rd 69 rfl h69)
      refine ⟨wanted_plain rfl, ?_⟩
      refine wp_of_run (v := .bool true) (w' := X) (by unfold execOp; go_simp) ?_
      exact hI.next (i := 70) rfl rfl (Below.refl _ _)
    · have h70 : L 70 = true := done_of hw 70 (by kernel_rfl)
      have e165 : b.tmps[165]?.getD undef = .bool true := (hf.new 70 165 rfl h70 (by rw [hsz]; decide)).trans (hI.rd 70 rfl h70)
      refine ⟨wanted_plain rfl, ?_⟩
      refine wp_of_run (v := .bool true) (w' := X) (by unfold execOp; go_simp) ?_
      exact hI.next (i := 71) rfl rfl (Below.refl _ _)
    · have e13 : b.tmps[13]?.getD undef = .slice AH 1 cH := (hf.old 13 (by kernel_rfl)).trans s13
      have h71 : L 71 = true := done_of hw 71 (by kernel_rfl)
      have eg : b.tmps[166]?.getD undef = .bool true := (hf.new 71 166 rfl h71 (by rw [hsz]; decide)).trans (hI.rd 71 rfl h71)
      refine ⟨wanted_of rfl (k := 71) (d := 166) rfl eg, ?_⟩
      clear eg
      refine wp_of_run (v := .slice AH 1 cH) (w' := X) (by unfold execOp; go_simp) ?_
      exact hI.next (i := 72) rfl rfl (Below.refl _ _)
    · have h71 : L 71 = true := done_of hw 71 (by kernel_rfl)
      have eg : b.tmps[166]?.getD undef = .bool true := (hf.new 71 166 rfl h71 (by rw [hsz]; decide)).trans (hI.rd 71 rfl h71)
      refine ⟨wanted_of rfl (k := 71) (d := 166) rfl eg, ?_⟩
      clear eg
      refine wp_of_run (v := .slice (some ⟨X.heap.size, 0, none⟩) 1 1) (w' := X.alloc (.cells #[.int .i64 0] 3)) (by unfold execOp; go_simp) ?_
      exact hI.made (i := 73) rfl
    · have h72 : L 72 = true := done_of hw 72 (by kernel_rfl)
      have e167 : b.tmps[167]?.getD undef = .slice AH 1 cH := (hf.new 72 167 rfl h72 (by rw [hsz]; decide)).trans (hI.rd 72 rfl h72)
      have h73 : L 73 = true := done_of hw 73 (by kernel_rfl)
      obtain ⟨gb, hgb, hgx⟩ := hI.sl 73 1 #[.int .i64 0] 3 rfl h73
      have e168 : b.tmps[168]?.getD undef = .slice (some ⟨gb, 0, none⟩) 1 1 := (hf.new 73 168 rfl h73 (by rw [hsz]; decide)).trans hgb
      have h71 : L 71 = true := done_of hw 71 (by kernel_rfl)
      have eg : b.tmps[166]?.getD undef = .bool true := (hf.new 71 166 rfl h71 (by rw [hsz]; decide)).trans (hI.rd 71 rfl h71)
      refine ⟨wanted_of rfl (k := 71) (d := 166) rfl eg, ?_⟩
      clear eg
      refine wp_of_call (f := 30) (args := #[.slice AH 1 cH, .slice (some ⟨gb, 0, none⟩) 1 1]) (run_call_clo (.func 30) _ _ rfl (c := #[]) rfl enterA30 (by simp [eval_tmp e167, eval_tmp e168])) ?_
      refine (ints_lit (rdX HRH hI.bel) rfl (by simp) rfl hgx).mono ?_
      rintro e wz ⟨rfl, hbz⟩
      exact ⟨_, rfl, hI.next (i := 74) rfl rfl hbz⟩
    · have h71 : L 71 = true := done_of hw 71 (by kernel_rfl)
      have e166 : b.tmps[166]?.getD undef = .bool true := (hf.new 71 166 rfl h71 (by rw [hsz]; decide)).trans (hI.rd 71 rfl h71)
      have h74 : L 74 = true := done_of hw 74 (by kernel_rfl)
      have e169 : b.tmps[169]?.getD undef = .bool true := (hf.new 74 169 rfl h74 (by rw [hsz]; decide)).trans (hI.rd 74 rfl h74)
      refine ⟨wanted_plain rfl, ?_⟩
      refine wp_of_run (v := .bool true) (w' := X) (by unfold execOp; go_simp) ?_
      exact hI.next (i := 75) rfl rfl (Below.refl _ _)
    · have h75 : L 75 = true := done_of hw 75 (by kernel_rfl)
      have e170 : b.tmps[170]?.getD undef = .bool true := (hf.new 75 170 rfl h75 (by rw [hsz]; decide)).trans (hI.rd 75 rfl h75)
      refine ⟨wanted_plain rfl, ?_⟩
      refine wp_of_run (v := .bool true) (w' := X) (by unfold execOp; go_simp) ?_
      exact hI.next (i := 76) rfl rfl (Below.refl _ _)
    · have e15 : b.tmps[15]?.getD undef = .slice AP 3 cP := (hf.old 15 (by kernel_rfl)).trans s15
      have h76 : L 76 = true := done_of hw 76 (by kernel_rfl)
      have eg : b.tmps[171]?.getD undef = .bool true := (hf.new 76 171 rfl h76 (by rw [hsz]; decide)).trans (hI.rd 76 rfl h76)
      refine ⟨wanted_of rfl (k := 76) (d := 171) rfl eg, ?_⟩
      clear eg
      refine wp_of_run (v := .slice AP 3 cP) (w' := X) (by unfold execOp; go_simp) ?_
      exact hI.next (i := 77) rfl rfl (Below.refl _ _)
    · have h76 : L 76 = true := done_of hw 76 (by kernel_rfl)
      have eg : b.tmps[171]?.getD undef = .bool true := (hf.new 76 171 rfl h76 (by rw [hsz]; decide)).trans (hI.rd 76 rfl h76)
      refine ⟨wanted_of rfl (k := 76) (d := 171) rfl eg, ?_⟩
      clear eg
      refine wp_of_run (v := .slice (some ⟨X.heap.size, 0, none⟩) 3 3) (w' := X.alloc (.cells #[.int .i64 0, .int .i64 1, .int .i64 4] 3)) (by unfold execOp; go_simp) ?_
      exact hI.made (i := 78) rfl
    · have h77 : L 77 = true := done_of hw 77 (by kernel_rfl)
      have e172 : b.tmps[172]?.getD undef = .slice AP 3 cP := (hf.new 77 172 rfl h77 (by rw [hsz]; decide)).trans (hI.rd 77 rfl h77)
      have h78 : L 78 = true := done_of hw 78 (by kernel_rfl)
      obtain ⟨gb, hgb, hgx⟩ := hI.sl 78 3 #[.int .i64 0, .int .i64 1, .int .i64 4] 3 rfl h78
      have e173 : b.tmps[173]?.getD undef = .slice (some ⟨gb, 0, none⟩) 3 3 := (hf.new 78 173 rfl h78 (by rw [hsz]; decide)).trans hgb
      have h76 : L 76 = true := done_of hw 76 (by kernel_rfl)
      have eg : b.tmps[171]?.getD undef = .bool true := (hf.new 76 171 rfl h76 (by rw [hsz]; decide)).trans (hI.rd 76 rfl h76)
      refine ⟨wanted_of rfl (k := 76) (d := 171) rfl eg, ?_⟩
      clear eg
      refine wp_of_call (f := 30) (args := #[.slice AP 3 cP, .slice (some ⟨gb, 0, none⟩) 3 3]) (run_call_clo (.func 30) _ _ rfl (c := #[]) rfl enterA30 (by simp [eval_tmp e172, eval_tmp e173])) ?_
      refine (ints_lit (rdX HRP hI.bel) rfl (by simp) rfl hgx).mono ?_
      rintro e wz ⟨rfl, hbz⟩
      exact ⟨_, rfl, hI.next (i := 79) rfl rfl hbz⟩
    · have h76 : L 76 = true := done_of hw 76 (by kernel_rfl)
      have e171 : b.tmps[171]?.getD undef = .bool true := (hf.new 76 171 rfl h76 (by rw [hsz]; decide)).trans (hI.rd 76 rfl h76)
      have h79 : L 79 = true := done_of hw 79 (by kernel_rfl)
      have e174 : b.tmps[174]?.getD undef = .bool true := (hf.new 79 174 rfl h79 (by rw [hsz]; decide)).trans (hI.rd 79 rfl h79)
      refine ⟨wanted_plain rfl, ?_⟩
      refine wp_of_run (v := .bool true) (w' := X) (by unfold execOp; go_simp) ?_
      exact hI.next (i := 80) rfl rfl (Below.refl _ _)
    · have h80 : L 80 = true := done_of hw 80 (by kernel_rfl)
      have e175 : b.tmps[175]?.getD undef = .bool true := (hf.new 80 175 rfl h80 (by rw [hsz]; decide)).trans (hI.rd 80 rfl h80)
      refine ⟨wanted_plain rfl, ?_⟩
      refine wp_of_run (v := .bool true) (w' := X) (by unfold execOp; go_simp) ?_
      exact hI.next (i := 81) rfl rfl (Below.refl _ _)
    · have e17 : b.tmps[17]?.getD undef = .slice AW 1 cW := (hf.old 17 (by kernel_rfl)).trans s17
      have h81 : L 81 = true := done_of hw 81 (by kernel_rfl)
      have eg : b.tmps[176]?.getD undef = .bool true := (hf.new 81 176 rfl h81 (by rw [hsz]; decide)).trans (hI.rd 81 rfl h81)
      refine ⟨wanted_of rfl (k := 81) (d := 176) rfl eg, ?_⟩
      clear eg
      refine wp_of_run (v := .slice AW 1 cW) (w' := X) (by unfold execOp; go_simp) ?_
      exact hI.next (i := 82) rfl rfl (Below.refl _ _)
    · have h81 : L 81 = true := done_of hw 81 (by kernel_rfl)
      have eg : b.tmps[176]?.getD undef = .bool true := (hf.new 81 176 rfl h81 (by rw [hsz]; decide)).trans (hI.rd 81 rfl h81)
      refine ⟨wanted_of rfl (k := 81) (d := 176) rfl eg, ?_⟩
      clear eg
      refine wp_of_run (v := .slice (some ⟨X.heap.size, 0, none⟩) 1 1) (w' := X.alloc (.cells #[.int .i64 0] 3)) (by unfold execOp; go_simp) ?_
      exact hI.made (i := 83) rfl
    · have h82 : L 82 = true := done_of hw 82 (by kernel_rfl)
      have e177 : b.tmps[177]?.getD undef = .slice AW 1 cW := (hf.new 82 177 rfl h82 (by rw [hsz]; decide)).trans (hI.rd 82 rfl h82)
      have h83 : L 83 = true := done_of hw 83 (by kernel_rfl)
      obtain ⟨gb, hgb, hgx⟩ := hI.sl 83 1 #[.int .i64 0] 3 rfl h83
      have e178 : b.tmps[178]?.getD undef = .slice (some ⟨gb, 0, none⟩) 1 1 := (hf.new 83 178 rfl h83 (by rw [hsz]; decide)).trans hgb
      have h81 : L 81 = true := done_of hw 81 (by kernel_rfl)
      have eg : b.tmps[176]?.getD undef = .bool true := (hf.new 81 176 rfl h81 (by rw [hsz]; decide)).trans (hI.rd 81 rfl h81)
      refine ⟨wanted_of rfl (k := 81) (d := 176) rfl eg, ?_⟩
      clear eg
      refine wp_of_call (f := 30) (args := #[.slice AW 1 cW, .slice (some ⟨gb, 0, none⟩) 1 1]) (run_call_clo (.func 30) _ _ rfl (c := #[]) rfl enterA30 (by simp [eval_tmp e177, eval_tmp e178])) ?_
      refine (ints_lit (rdX HRW hI.bel) rfl (by simp) rfl hgx).mono ?_
      rintro e wz ⟨rfl, hbz⟩
      exact ⟨_, rfl, hI.next (i := 84) rfl rfl hbz⟩
    · have h81 : L 81 = true := done_of hw 81 (by kernel_rfl)
      have e176 : b.tmps[176]?.getD undef = .bool true := (hf.new 81 176 rfl h81 (by rw [hsz]; decide)).trans (hI.rd 81 rfl h81)
      have h84 : L 84 = true := done_of hw 84 (by kernel_rfl)
      have e179 : b.tmps[179]?.getD undef = .bool true := (hf.new 84 179 rfl h84 (by rw [hsz]; decide)).trans (hI.rd 84 rfl h84)
      refine ⟨wanted_plain rfl, ?_⟩
      refine wp_of_run (v := .bool true) (w' := X) (by unfold execOp; go_simp) ?_
      exact hI.next (i := 85) rfl rfl (Below.refl _ _)
    · have h85 : L 85 = true := done_of hw 85 (by kernel_rfl)
      have e180 : b.tmps[180]?.getD undef = .bool true := (hf.new 85 180 rfl h85 (by rw [hsz]; decide)).trans (hI.rd 85 rfl h85)
      refine ⟨wanted_plain rfl, ?_⟩
      refine wp_of_run (v := .bool true) (w' := X) (by unfold execOp; go_simp) ?_
      exact hI.next (i := 86) rfl rfl (Below.refl _ _)
    · have e19 : b.tmps[19]?.getD undef = .int .i64 60 := (hf.old 19 (by kernel_rfl)).trans s19
      have h86 : L 86 = true := done_of hw 86 (by kernel_rfl)
      have eg : b.tmps[181]?.getD undef = .bool true := (hf.new 86 181 rfl h86 (by rw [hsz]; decide)).trans (hI.rd 86 rfl h86)
      refine ⟨wanted_of rfl (k := 86) (d := 181) rfl eg, ?_⟩
      clear eg
      refine wp_of_run (v := .int .i64 60) (w' := X) (by unfold execOp; go_simp) ?_
      exact hI.next (i := 87) rfl rfl (Below.refl _ _)
    · have h87 : L 87 = true := done_of hw 87 (by kernel_rfl)
      have e182 : b.tmps[182]?.getD undef = .int .i64 60 := (hf.new 87 182 rfl h87 (by rw [hsz]; decide)).trans (hI.rd 87 rfl h87)
      have h86 : L 86 = true := done_of hw 86 (by kernel_rfl)
      have eg : b.tmps[181]?.getD undef = .bool true := (hf.new 86 181 rfl h86 (by rw [hsz]; decide)).trans (hI.rd 86 rfl h86)
      refine ⟨wanted_of rfl (k := 86) (d := 181) rfl eg, ?_⟩
      clear eg
      refine wp_of_run (v := .bool true) (w' := X) (by unfold execOp; go_simp) ?_
      exact hI.next (i := 88) rfl rfl (Below.refl _ _)
    · have h86 : L 86 = true := done_of hw 86 (by kernel_rfl)
      have e181 : b.tmps[181]?.getD undef = .bool true := (hf.new 86 181 rfl h86 (by rw [hsz]; decide)).trans (hI.rd 86 rfl h86)
      have h88 : L 88 = true := done_of hw 88 (by kernel_rfl)
      have e183 : b.tmps[183]?.getD undef = .bool true := (hf.new 88 183 rfl h88 (by rw [hsz]; decide)).trans (hI.rd 88 rfl h88)
      refine ⟨wanted_plain rfl, ?_⟩
      refine wp_of_run (v := .bool true) (w' := X) (by unfold execOp; go_simp) ?_
      exact hI.next (i := 89) rfl rfl (Below.refl _ _)
    · have h89 : L 89 = true := done_of hw 89 (by kernel_rfl)
      have e184 : b.tmps[184]?.getD undef = .bool true := (hf.new 89 184 rfl h89 (by rw [hsz]; decide)).trans (hI.rd 89 rfl h89)
      refine ⟨wanted_plain rfl, ?_⟩
      refine wp_of_run (v := .bool true) (w' := X) (by unfold execOp; go_simp) ?_
      exact hI.next (i := 90) rfl rfl (Below.refl _ _)
    · have e21 : b.tmps[21]?.getD undef = .string textX := (hf.old 21 (by kernel_rfl)).trans s21
      have h90 : L 90 = true := done_of hw 90 (by kernel_rfl)
      have eg : b.tmps[185]?.getD undef = .bool true := (hf.new 90 185 rfl h90 (by rw [hsz]; decide)).trans (hI.rd 90 rfl h90)
      refine ⟨wanted_of rfl (k := 90) (d := 185) rfl eg, ?_⟩
      clear eg
      refine wp_of_run (v := .string textX) (w' := X) (by unfold execOp; go_simp) ?_
      exact hI.next (i := 91) rfl rfl (Below.refl _ _)
    · have h90 : L 90 = true := done_of hw 90 (by kernel_rfl)
      have eg : b.tmps[185]?.getD undef = .bool true := (hf.new 90 185 rfl h90 (by rw [hsz]; decide)).trans (hI.rd 90 rfl h90)
      refine ⟨wanted_of rfl (k := 90) (d := 185) rfl eg, ?_⟩
      clear eg
      refine wp_of_call (f := 67) (args := #[]) (run_call_clo (.func 67) _ _ rfl (c := #[]) rfl enterA67 rfl) ?_
      refine (text_lit X).mono ?_
      rintro e wz ⟨rfl, hwz⟩
      subst wz
      exact ⟨_, rfl, hI.next (i := 92) rfl rfl (Below.refl _ _)⟩
    · have h91 : L 91 = true := done_of hw 91 (by kernel_rfl)
      have e186 : b.tmps[186]?.getD undef = .string textX := (hf.new 91 186 rfl h91 (by rw [hsz]; decide)).trans (hI.rd 91 rfl h91)
      have h92 : L 92 = true := done_of hw 92 (by kernel_rfl)
      have e187 : b.tmps[187]?.getD undef = .string textX := (hf.new 92 187 rfl h92 (by rw [hsz]; decide)).trans (hI.rd 92 rfl h92)
      have h90 : L 90 = true := done_of hw 90 (by kernel_rfl)
      have eg : b.tmps[185]?.getD undef = .bool true := (hf.new 90 185 rfl h90 (by rw [hsz]; decide)).trans (hI.rd 90 rfl h90)
      refine ⟨wanted_of rfl (k := 90) (d := 185) rfl eg, ?_⟩
      clear eg
      have htx : (textX.toList == textX.toList) = true := beq_self_eq_true _
      refine wp_of_run (v := .bool true) (w' := X) (by unfold execOp; go_simp) ?_
      exact hI.next (i := 93) rfl rfl (Below.refl _ _)
    · have h90 : L 90 = true := done_of hw 90 (by kernel_rfl)
      have e185 : b.tmps[185]?.getD undef = .bool true := (hf.new 90 185 rfl h90 (by rw [hsz]; decide)).trans (hI.rd 90 rfl h90)
      have h93 : L 93 = true := done_of hw 93 (by kernel_rfl)
      have e188 : b.tmps[188]?.getD undef = .bool true := (hf.new 93 188 rfl h93 (by rw [hsz]; decide)).trans (hI.rd 93 rfl h93)
      refine ⟨wanted_plain rfl, ?_⟩
      refine wp_of_run (v := .bool true) (w' := X) (by unfold execOp; go_simp) ?_
      exact hI.next (i := 94) rfl rfl (Below.refl _ _)
    · have h94 : L 94 = true := done_of hw 94 (by kernel_rfl)
      have e189 : b.tmps[189]?.getD undef = .bool true := (hf.new 94 189 rfl h94 (by rw [hsz]; decide)).trans (hI.rd 94 rfl h94)
      refine ⟨wanted_plain rfl, ?_⟩
      refine wp_of_run (v := .bool true) (w' := X) (by unfold execOp; go_simp) ?_
      exact hI.next (i := 95) rfl rfl (Below.refl _ _)
    · have e23 : b.tmps[23]?.getD undef = .pointer (some ⟨gr, 0, none⟩) := (hf.old 23 (by kernel_rfl)).trans s23
      have h95 : L 95 = true := done_of hw 95 (by kernel_rfl)
      have eg : b.tmps[190]?.getD undef = .bool true := (hf.new 95 190 rfl h95 (by rw [hsz]; decide)).trans (hI.rd 95 rfl h95)
      refine ⟨wanted_of rfl (k := 95) (d := 190) rfl eg, ?_⟩
      clear eg
      have x0 := cellOf (rowX HBR hI.bel) 0 (v := .int .i64 100) rfl
      have x1 := cellOf (rowX HBR hI.bel) 1 (v := .slice AR 4 cR) rfl
      have x2 := cellOf (rowX HBR hI.bel) 2 (v := .slice DR 4 dR) rfl
      refine wp_of_run (v := .agg #[.int .i64 100, .slice AR 4 cR, .slice DR 4 dR]) (w' := X) (by unfold execOp; go_simp) ?_
      exact hI.next (i := 96) rfl rfl (Below.refl _ _)
    · have e1 : b.tmps[1]?.getD undef = .pointer (some ⟨w5.heap.size, 0, none⟩) := (hf.old 1 (by kernel_rfl)).trans s1
      have h95 : L 95 = true := done_of hw 95 (by kernel_rfl)
      have eg : b.tmps[190]?.getD undef = .bool true := (hf.new 95 190 rfl h95 (by rw [hsz]; decide)).trans (hI.rd 95 rfl h95)
      refine ⟨wanted_of rfl (k := 95) (d := 190) rfl eg, ?_⟩
      clear eg
      obtain ⟨⟨x0, x1, x2⟩, _⟩ := (HA.next hI.bel).cells
      refine wp_of_run (v := .agg #[.int .i64 100, .slice A1 4 c1, .slice D1 4 d1]) (w' := X) (by unfold execOp; go_simp) ?_
      exact hI.next (i := 97) rfl rfl (Below.refl _ _)
    · have h96 : L 96 = true := done_of hw 96 (by kernel_rfl)
      have e191 : b.tmps[191]?.getD undef = .agg #[.int .i64 100, .slice AR 4 cR, .slice DR 4 dR] := (hf.new 96 191 rfl h96 (by rw [hsz]; decide)).trans (hI.rd 96 rfl h96)
      have h97 : L 97 = true := done_of hw 97 (by kernel_rfl)
      have e192 : b.tmps[192]?.getD undef = .agg #[.int .i64 100, .slice A1 4 c1, .slice D1 4 d1] := (hf.new 97 192 rfl h97 (by rw [hsz]; decide)).trans (hI.rd 97 rfl h97)
      have h95 : L 95 = true := done_of hw 95 (by kernel_rfl)
      have eg : b.tmps[190]?.getD undef = .bool true := (hf.new 95 190 rfl h95 (by rw [hsz]; decide)).trans (hI.rd 95 rfl h95)
      refine ⟨wanted_of rfl (k := 95) (d := 190) rfl eg, ?_⟩
      clear eg
      refine wp_of_call (f := 41) (args := #[.agg #[.int .i64 100, .slice AR 4 cR, .slice DR 4 dR], .agg #[.int .i64 100, .slice A1 4 c1, .slice D1 4 d1]]) (run_call_clo (.func 41) _ _ rfl (c := #[]) rfl enterA41 (by simp [eval_tmp e191, eval_tmp e192])) ?_
      refine (aw_same (HA.next hI.bel) (rdsX HRS hI.bel)).mono ?_
      rintro e wz ⟨rfl, hbz⟩
      exact ⟨_, rfl, hI.next (i := 98) rfl rfl hbz⟩
    · have h95 : L 95 = true := done_of hw 95 (by kernel_rfl)
      have e190 : b.tmps[190]?.getD undef = .bool true := (hf.new 95 190 rfl h95 (by rw [hsz]; decide)).trans (hI.rd 95 rfl h95)
      have h98 : L 98 = true := done_of hw 98 (by kernel_rfl)
      have e193 : b.tmps[193]?.getD undef = .bool true := (hf.new 98 193 rfl h98 (by rw [hsz]; decide)).trans (hI.rd 98 rfl h98)
      refine ⟨wanted_plain rfl, ?_⟩
      refine wp_of_run (v := .bool true) (w' := X) (by unfold execOp; go_simp) ?_
      exact hI.next (i := 99) rfl rfl (Below.refl _ _)
    · have h99 : L 99 = true := done_of hw 99 (by kernel_rfl)
      have e194 : b.tmps[194]?.getD undef = .bool true := (hf.new 99 194 rfl h99 (by rw [hsz]; decide)).trans (hI.rd 99 rfl h99)
      refine ⟨wanted_plain rfl, ?_⟩
      refine wp_of_run (v := .bool true) (w' := X) (by unfold execOp; go_simp) ?_
      exact hI.next (i := 100) rfl rfl (Below.refl _ _)
    · have h100 : L 100 = true := done_of hw 100 (by kernel_rfl)
      have eg : b.tmps[195]?.getD undef = .bool true := (hf.new 100 195 rfl h100 (by rw [hsz]; decide)).trans (hI.rd 100 rfl h100)
      refine ⟨wanted_of rfl (k := 100) (d := 195) rfl eg, ?_⟩
      clear eg
      refine wp_of_call (f := 18) (args := #[.string ⟨#[97, 45, 57]⟩]) (run_call_clo (.func 18) _ _ rfl (c := #[]) rfl enterA18 rfl) ?_
      refine (aw_nameY X).mono ?_
      rintro e wz ⟨rfl, hbz⟩
      exact ⟨_, rfl, hI.next (i := 101) rfl rfl hbz⟩
    · have h100 : L 100 = true := done_of hw 100 (by kernel_rfl)
      have e195 : b.tmps[195]?.getD undef = .bool true := (hf.new 100 195 rfl h100 (by rw [hsz]; decide)).trans (hI.rd 100 rfl h100)
      have h101 : L 101 = true := done_of hw 101 (by kernel_rfl)
      have e196 : b.tmps[196]?.getD undef = .bool true := (hf.new 101 196 rfl h101 (by rw [hsz]; decide)).trans (hI.rd 101 rfl h101)
      refine ⟨wanted_plain rfl, ?_⟩
      refine wp_of_run (v := .bool true) (w' := X) (by unfold execOp; go_simp) ?_
      exact hI.next (i := 102) rfl rfl (Below.refl _ _)
    · have h102 : L 102 = true := done_of hw 102 (by kernel_rfl)
      have e197 : b.tmps[197]?.getD undef = .bool true := (hf.new 102 197 rfl h102 (by rw [hsz]; decide)).trans (hI.rd 102 rfl h102)
      refine ⟨wanted_plain rfl, ?_⟩
      refine wp_of_run (v := .bool true) (w' := X) (by unfold execOp; go_simp) ?_
      exact hI.next (i := 103) rfl rfl (Below.refl _ _)
    · have h103 : L 103 = true := done_of hw 103 (by kernel_rfl)
      have eg : b.tmps[198]?.getD undef = .bool true := (hf.new 103 198 rfl h103 (by rw [hsz]; decide)).trans (hI.rd 103 rfl h103)
      refine ⟨wanted_of rfl (k := 103) (d := 198) rfl eg, ?_⟩
      clear eg
      refine wp_of_call (f := 18) (args := #[.string ⟨#[57, 97]⟩]) (run_call_clo (.func 18) _ _ rfl (c := #[]) rfl enterA18 rfl) ?_
      refine (aw_nameN X).mono ?_
      rintro e wz ⟨rfl, hbz⟩
      exact ⟨_, rfl, hI.next (i := 104) rfl rfl hbz⟩
    · have h104 : L 104 = true := done_of hw 104 (by kernel_rfl)
      have e199 : b.tmps[199]?.getD undef = .bool false := (hf.new 104 199 rfl h104 (by rw [hsz]; decide)).trans (hI.rd 104 rfl h104)
      have h103 : L 103 = true := done_of hw 103 (by kernel_rfl)
      have eg : b.tmps[198]?.getD undef = .bool true := (hf.new 103 198 rfl h103 (by rw [hsz]; decide)).trans (hI.rd 103 rfl h103)
      refine ⟨wanted_of rfl (k := 103) (d := 198) rfl eg, ?_⟩
      clear eg
      refine wp_of_run (v := .bool true) (w' := X) (by unfold execOp; go_simp) ?_
      exact hI.next (i := 105) rfl rfl (Below.refl _ _)
    · have h103 : L 103 = true := done_of hw 103 (by kernel_rfl)
      have e198 : b.tmps[198]?.getD undef = .bool true := (hf.new 103 198 rfl h103 (by rw [hsz]; decide)).trans (hI.rd 103 rfl h103)
      have h105 : L 105 = true := done_of hw 105 (by kernel_rfl)
      have e200 : b.tmps[200]?.getD undef = .bool true := (hf.new 105 200 rfl h105 (by rw [hsz]; decide)).trans (hI.rd 105 rfl h105)
      refine ⟨wanted_plain rfl, ?_⟩
      refine wp_of_run (v := .bool true) (w' := X) (by unfold execOp; go_simp) ?_
      exact hI.next (i := 106) rfl rfl (Below.refl _ _)
    · have h106 : L 106 = true := done_of hw 106 (by kernel_rfl)
      have e201 : b.tmps[201]?.getD undef = .bool true := (hf.new 106 201 rfl h106 (by rw [hsz]; decide)).trans (hI.rd 106 rfl h106)
      refine ⟨wanted_plain rfl, ?_⟩
      refine wp_of_run (v := .bool true) (w' := X) (by unfold execOp; go_simp) ?_
      exact hI.next (i := 107) rfl rfl (Below.refl _ _)
  · intro vs X hI
    refine fill_end (K := fun a' => Exit.then _ _ .normal a' X) (by kernel_rfl) 107 0 rfl (by rw [hsz]; decide) fun a' h1 h2 => ?_
    have h3 := h1.trans (hI.rd 107 rfl rfl)
    have hb := hI.bel
    clear hI h1
    simp only [Exit.then]
    go_wp2
    exact bodyPost_ret (v := .bool true) (by simp [results, Tryz.results20]; exact h3) (h2.trans hdf) ⟨rfl, HA.below.trans (hb.mono HA.below.size)⟩
end Go.Proofs.YtajdgdelhlfniaaGreatDoor
