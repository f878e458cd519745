/- Parts of the proof of TpP: Aw1. -/
import Derived.Test.YthnimhnlnddnoaaGreatDoorH40
import Derived.WalkKit
import Derived.Deep.Quiet
set_option linter.unusedSimpArgs false
set_option linter.unusedVariables false
set_option maxRecDepth 100000
set_option maxHeartbeats 8000000
namespace Go.Proofs.YthnimhnlnddnoaaGreatDoor
open Go.RowKit
theorem wpList_alloc_any {ops : Array Oper} {rest : List Oper} {o : Oper} {a : Act} {w : World} {Q : Exit → Act → World → Prop} (hgd : o.guard = none) (T : TypeId) (ho : o.op = .alloc T) {cs : Array Value} (hr : (Instr.alloc T true (.tuple #[])).run Tryz.prog w = .ok (.pointer (some ⟨w.heap.size, 0, none⟩)) (w.alloc (.cells cs T)))
  (h : wpList Tryz.prog ops Q rest (a.put o.dst (.pointer (some ⟨w.heap.size, 0, none⟩))) (w.alloc (.cells cs T))) : wpList Tryz.prog ops Q (o :: rest) a w := by
 refine wpList_plain hgd fun K hK => ?_
 unfold Oper.wp execOp
 rw [ho]
 simp only [Sem.run_bind, Sem.run_pure, hr, Result.andThen_ok]
 exact hK _ _ h
theorem rdN {α : Type} {At : World → Addr → α → Prop} [AtKeep At] {sz : Nat} {w w' : World} {v : Value} {xs : List α} (h : Rd At sz w.heap.size w v xs) (hb : Below w.heap.size w w') : Rd At sz w'.heap.size w' v xs := (h.below hb).mono hb.size
theorem rowN {w w' : World} {g : Nat} {o : Obj} (h : w.heap[g]? = some o) (hb : Below w.heap.size w w') : w'.heap[g]? = some o := (hb.block _ (lt_of_block h)).trans h
theorem rdsN {w w' : World} {v : Value} {s : ShR} (h : RdSh w.heap.size w v s) (hb : Below w.heap.size w w') : RdSh w'.heap.size w' v s := (h.below hb).mono hb.size
theorem awake_any {w : World} (hgl : Glob w) : Calls Tryz.prog 5 #[] w fun e w' => e = .returned (.bool true) ∧ Below w.heap.size w w' := by
 have HGl := Lib.hid hgl
 clear hgl
 go_enter Tryz.func5, Tryz.ntmps5
 go_upto_region 1 with (fail)
 go_upto_region 2 with (first | (go_at_call 20; with_reducible refine Calls.mono (sheet_nil _) ?_; rintro e w1 ⟨A1, c1, D1, d1, rfl, hs1, hb1⟩; have HS1 := Lib.hid hs1; have HB1 := Lib.hid hb1; clear hs1 hb1) | (go_at_call 21; refine (gentle_any _).mono ?_; rintro e w2 ⟨g2, rfl, _, hr2, hb2⟩; have HB2 := Lib.hid hb2; have HR2 := Lib.hid hr2; clear hb2 hr2) | (revert HR2; intro HR2; go_at_call 20; with_reducible refine Calls.mono (sheet_one HR2.out) ?_; rintro e w3 ⟨A2, c2, D2, d2, rfl, hs2, hb3⟩; have HS2 := Lib.hid hs2; have HB3 := Lib.hid hb3; clear hs2 hb3) | (go_at_call 22; refine (steep_any _).mono ?_; rintro e w4 ⟨g4, rfl, _, hr4, hb4⟩; have HB4 := Lib.hid hb4; have HR4 := Lib.hid hr4; clear hb4 hr4) | (revert HR4; intro HR4; go_at_call 20; with_reducible refine Calls.mono (sheet_one HR4.out) ?_; rintro e w5 ⟨A3, c3, D3, d3, rfl, hs3, hb5⟩; have HS3 := Lib.hid hs3; have HB5 := Lib.hid hb5; clear hs3 hb5; obtain ⟨X1, hX1, r1, z1, y1⟩ := box_any w5 #[.int .i64 0, .slice none 0 0, .slice none 0 0] 38; obtain ⟨X2, hX2, r2, z2, y2⟩ := box_any X1 #[.int .i64 0, .slice none 0 0, .slice none 0 0] 38; obtain ⟨X3, hX3, r3, z3, y3⟩ := box_any X2 #[.int .i64 0, .slice none 0 0, .slice none 0 0] 38; have HX1 := Lib.hid hX1; have HX2 := Lib.hid hX2; have HX3 := Lib.hid hX3; have Y1 := Lib.hid y1; have Y2 := Lib.hid y2; have Y3 := Lib.hid y3; have R3 := Lib.hid r3; have R2 := Lib.hid ((y3.block _ (by omega)).trans r2); have R1 := Lib.hid ((y3.block _ (by omega)).trans ((y2.block _ (by omega)).trans r1)); have Z := Lib.hid (And.intro z1 (And.intro z2 z3)); obtain ⟨S1, hS1⟩ : ∃ S1, S1 = X3.setRow w5.heap.size #[.int .i64 100, .slice A1 4 c1, .slice D1 4 d1] := ⟨_, rfl⟩; obtain ⟨S2, hS2⟩ : ∃ S2, S2 = S1.setRow X1.heap.size #[.int .i64 100, .slice A2 4 c2, .slice D2 5 d2] := ⟨_, rfl⟩; obtain ⟨S3, hS3⟩ : ∃ S3, S3 = S2.setRow X2.heap.size #[.int .i64 100, .slice A3 4 c3, .slice D3 5 d3] := ⟨_, rfl⟩; have GS1 := Lib.hid hS1; have GS2 := Lib.hid hS2; have GS3 := Lib.hid hS3; have RS2 := Lib.hid (show S1.heap[X1.heap.size]? = some (.cells #[.int .i64 0, .slice none 0 0, .slice none 0 0] 38) by rw [hS1]; exact (setRow_other _ _ _ _ (by omega)).trans R2.out); have RS3 := Lib.hid (show S2.heap[X2.heap.size]? = some (.cells #[.int .i64 0, .slice none 0 0, .slice none 0 0] 38) by rw [hS2, hS1]; exact (setRow_other _ _ _ _ (by omega)).trans ((setRow_other _ _ _ _ (by omega)).trans R3.out)); clear hS1 hS2 hS3; clear hX1 hX2 hX3 y1 y2 y3 r1 r2 r3 z1 z2 z3) | (revert HX1 HX2 HX3; intro HX1 HX2 HX3; refine wpList_alloc_any rfl 38 rfl (run_alloc25 _) ?_; first | rw [← HX1.out] | rw [← HX2.out] | rw [← HX3.out]; simp only [Act.put, List.setIfInBounds_toArray, List.set_cons_succ, List.set_cons_zero]) | (revert R1 RS2 RS3; intro R1 RS2 RS3; refine wpList_store_row rfl 38 (.tmp 1) (.tmp 29) rfl w5.heap.size #[.int .i64 100, .slice A1 4 c1, .slice D1 4 d1] rfl rfl 38 _ R1.out (by kernel_rfl) rfl (by simp [Value.oneCell']) ?_; rw [← GS1.out]) | (revert R1 RS2 RS3; intro R1 RS2 RS3; refine wpList_store_row rfl 38 (.tmp 2) (.tmp 31) rfl X1.heap.size #[.int .i64 100, .slice A2 4 c2, .slice D2 5 d2] rfl rfl 38 _ RS2.out (by kernel_rfl) rfl (by simp [Value.oneCell']) ?_; rw [← GS2.out]) | (revert R1 RS2 RS3; intro R1 RS2 RS3; refine wpList_store_row rfl 38 (.tmp 3) (.tmp 33) rfl X2.heap.size #[.int .i64 100, .slice A3 4 c3, .slice D3 5 d3] rfl rfl 38 _ RS3.out (by kernel_rfl) rfl (by simp [Value.oneCell']) ?_; rw [← GS3.out]))
 obtain ⟨z1, z2, z3⟩ := Z.out
 have b5 : Below w.heap.size w w5 := HB1.out.trans ((HB2.out.trans ((HB3.out.trans ((HB4.out.trans (HB5.out.mono HB4.out.size)).mono HB3.out.size)).mono HB2.out.size)).mono HB1.out.size)
 have b53 : Below w5.heap.size w5 S3 := by
  rw [GS3.out, GS2.out, GS1.out]
  exact Y1.out.trans ((Y2.out.mono (by omega)).trans ((Y3.out.mono (by omega)).trans ((setRow_below _ (Nat.le_refl _)).trans ((setRow_below _ (by omega)).trans (setRow_below _ (by omega))))))
 have HAw : Hid (AwS w w5.heap.size w5.heap.size (.slice A1 4 c1) (.slice D1 4 d1) (.slice A2 4 c2) (.slice D2 5 d2) (.slice A3 4 c3) (.slice D3 5 d3) S3) := by
  refine Lib.hid ⟨?_, ?_, ?_, ?_, ?_, ?_, b53.size, b5.trans (b53.mono b5.size), HGl.out.below (b5.trans (b53.mono b5.size))⟩
  ·rw [GS3.out, GS2.out, GS1.out, setRow_other _ _ _ _ (by omega), setRow_other _ _ _ _ (by omega)]
   exact setRow_heap _ _ _ _ _ _ R1.out
  ·have := setRow_heap _ _ _ #[.int .i64 100, .slice A2 4 c2, .slice D2 5 d2] _ _ RS2.out
   rw [GS3.out, GS2.out, setRow_other _ _ _ _ (by omega), ← z1]
   exact this
  ·have := setRow_heap _ _ _ #[.int .i64 100, .slice A3 4 c3, .slice D3 5 d3] _ _ RS3.out
   rw [GS3.out, show w5.heap.size + 2 = X2.heap.size by omega]
   exact this
  ·exact ((HS1.out.below (HB2.out.trans ((HB3.out.trans ((HB4.out.trans (HB5.out.mono HB4.out.size)).mono HB3.out.size)).mono HB2.out.size))).mono (Nat.le_trans HB2.out.size (Nat.le_trans HB3.out.size (Nat.le_trans HB4.out.size HB5.out.size)))).below b53
  ·exact ((HS2.out.below (HB4.out.trans (HB5.out.mono HB4.out.size))).mono (Nat.le_trans HB4.out.size HB5.out.size)).below b53
  ·exact HS3.out.below b53
 rw [show X2.heap.size = w5.heap.size + 2 by omega, z1]
 clear z1 z2 z3 b5 b53 HX1 HX2 HX3 Y1 Y2 Y3 R1 R2 R3 RS2 RS3 GS1 GS2 GS3 Z HS1 HS2 HS3 HB1 HB2 HB3 HB4 HB5 HR2 HR4 HGl
 simp only [Act.put]
 have HA := HAw
 clear HAw
 obtain ⟨⟨q0, q1, q2⟩, ⟨q3, q4, q5⟩, q6, q7, q8⟩ := HA.out.cells
 go_upto_region 3 with (go_at_call 23; refine (aw_fitS HA.out).mono ?_; rintro e wx ⟨rfl, hb⟩; replace HA := Lib.hid (HA.out.next hb); clear q0 q1 q2 q3 q4 q5 q6 q7 q8; obtain ⟨⟨q0, q1, q2⟩, ⟨q3, q4, q5⟩, q6, q7, q8⟩ := HA.out.cells; clear hb)
 go_upto_region 4 with (go_at_call 23; refine (aw_fitB HA.out).mono ?_; rintro e wx ⟨rfl, hb⟩; replace HA := Lib.hid (HA.out.next hb); clear q0 q1 q2 q3 q4 q5 q6 q7 q8; obtain ⟨⟨q0, q1, q2⟩, ⟨q3, q4, q5⟩, q6, q7, q8⟩ := HA.out.cells; clear hb)
 go_upto_region 5 with (go_at_call 8; refine (aw_heiT HA.out).mono ?_; rintro e wx ⟨AT, cT, rfl, hr, hb⟩; replace HA := Lib.hid (HA.out.next hb); clear q0 q1 q2 q3 q4 q5 q6 q7 q8; obtain ⟨⟨q0, q1, q2⟩, ⟨q3, q4, q5⟩, q6, q7, q8⟩ := HA.out.cells; have HRT := Lib.hid hr; clear hb hr)
 go_upto_region 6 with (go_at_call 24; refine (aw_apaT HA.out).mono ?_; rintro e wx ⟨rfl, hb⟩; replace HA := Lib.hid (HA.out.next hb); clear q0 q1 q2 q3 q4 q5 q6 q7 q8; obtain ⟨⟨q0, q1, q2⟩, ⟨q3, q4, q5⟩, q6, q7, q8⟩ := HA.out.cells; replace HRT := Lib.hid (rdN HRT.out hb); clear hb)
 obtain ⟨wy, hwy⟩ : ∃ wy, wy = wx.alloc (.cells #[.int .i64 10, .int .i64 40] 42) := ⟨_, rfl⟩
 rw [← hwy]
 have hb : Below wx.heap.size wx wy := by rw [hwy]; exact (Below.refl _ _).alloc (Nat.le_refl _) _
 have hbx : wy.heap[wx.heap.size]? = some (.cells #[.int .i64 10, .int .i64 40] 42) := by rw [hwy]; exact heap_alloc_new _ _
 clear hwy
 replace HA := Lib.hid (HA.out.next hb)
 clear q0 q1 q2 q3 q4 q5 q6 q7 q8; obtain ⟨⟨q0, q1, q2⟩, ⟨q3, q4, q5⟩, q6, q7, q8⟩ := HA.out.cells
 replace HRT := Lib.hid (rdN HRT.out hb)
 obtain ⟨gx, hgx⟩ : ∃ gx, wx.heap.size = gx := ⟨_, rfl⟩
 rw [hgx] at hbx ⊢
 have HBX := Lib.hid hbx
 clear hb hbx hgx
 go_upto_region 7 with (go_at_call 25; refine (aw_higS HA.out).mono ?_; rintro e wx ⟨AH, cH, rfl, hr, hb⟩; replace HA := Lib.hid (HA.out.next hb); clear q0 q1 q2 q3 q4 q5 q6 q7 q8; obtain ⟨⟨q0, q1, q2⟩, ⟨q3, q4, q5⟩, q6, q7, q8⟩ := HA.out.cells; replace HRT := Lib.hid (rdN HRT.out hb); replace HBX := Lib.hid (rowN HBX.out hb); have HRH := Lib.hid hr; clear hb hr)
 go_upto_region 8 with (go_at_call 26; refine (aw_proB HA.out).mono ?_; rintro e wx ⟨AP, cP, rfl, hr, hb⟩; replace HA := Lib.hid (HA.out.next hb); clear q0 q1 q2 q3 q4 q5 q6 q7 q8; obtain ⟨⟨q0, q1, q2⟩, ⟨q3, q4, q5⟩, q6, q7, q8⟩ := HA.out.cells; replace HRT := Lib.hid (rdN HRT.out hb); replace HBX := Lib.hid (rowN HBX.out hb); replace HRH := Lib.hid (rdN HRH.out hb); have HRP := Lib.hid hr; clear hb hr)
 go_upto_region 9 with (go_at_call 27; refine (aw_wroB HA.out).mono ?_; rintro e wx ⟨AW, cW, rfl, hr, hb⟩; replace HA := Lib.hid (HA.out.next hb); clear q0 q1 q2 q3 q4 q5 q6 q7 q8; obtain ⟨⟨q0, q1, q2⟩, ⟨q3, q4, q5⟩, q6, q7, q8⟩ := HA.out.cells; replace HRT := Lib.hid (rdN HRT.out hb); replace HBX := Lib.hid (rowN HBX.out hb); replace HRH := Lib.hid (rdN HRH.out hb); replace HRP := Lib.hid (rdN HRP.out hb); have HRW := Lib.hid hr; clear hb hr)
 go_upto_region 10 with (go_at_call 28; refine (aw_widB HA.out).mono ?_; rintro e wx ⟨rfl, hb⟩; replace HA := Lib.hid (HA.out.next hb); clear q0 q1 q2 q3 q4 q5 q6 q7 q8; obtain ⟨⟨q0, q1, q2⟩, ⟨q3, q4, q5⟩, q6, q7, q8⟩ := HA.out.cells; replace HRT := Lib.hid (rdN HRT.out hb); replace HBX := Lib.hid (rowN HBX.out hb); replace HRH := Lib.hid (rdN HRH.out hb); replace HRP := Lib.hid (rdN HRP.out hb); replace HRW := Lib.hid (rdN HRW.out hb); clear hb)
 go_upto_region 11 with (go_at_call 29; refine (aw_wriS HA.out).mono ?_; rintro e wx ⟨rfl, hb⟩; replace HA := Lib.hid (HA.out.next hb); clear q0 q1 q2 q3 q4 q5 q6 q7 q8; obtain ⟨⟨q0, q1, q2⟩, ⟨q3, q4, q5⟩, q6, q7, q8⟩ := HA.out.cells; replace HRT := Lib.hid (rdN HRT.out hb); replace HBX := Lib.hid (rowN HBX.out hb); replace HRH := Lib.hid (rdN HRH.out hb); replace HRP := Lib.hid (rdN HRP.out hb); replace HRW := Lib.hid (rdN HRW.out hb); clear hb)
 go_upto_region 12 with (first | (go_at_call 31; refine (text_lit _).mono ?_; rintro e wt ⟨rfl, hw⟩; subst wt) | (go_at_call 30; refine (aw_reaS HA.out).mono ?_; rintro e wx ⟨AR, cR, DR, dR, rfl, hr, hb⟩; replace HA := Lib.hid (HA.out.next hb); clear q0 q1 q2 q3 q4 q5 q6 q7 q8; obtain ⟨⟨q0, q1, q2⟩, ⟨q3, q4, q5⟩, q6, q7, q8⟩ := HA.out.cells; replace HRT := Lib.hid (rdN HRT.out hb); replace HBX := Lib.hid (rowN HBX.out hb); replace HRH := Lib.hid (rdN HRH.out hb); replace HRP := Lib.hid (rdN HRP.out hb); replace HRW := Lib.hid (rdN HRW.out hb); have HRS := Lib.hid hr; clear hb hr) | (refine wpList_alloc_any rfl 38 rfl (run_alloc25 _) ?_; simp only [Act.put, List.setIfInBounds_toArray, List.set_cons_succ, List.set_cons_zero]) | (refine wpList_store_row rfl 38 (.tmp 23) (.tmp 83) rfl wx.heap.size #[.int .i64 100, .slice AR 4 cR, .slice DR 4 dR] rfl rfl 38 _ (heap_alloc_new _ _) (by kernel_rfl) rfl (by simp [Value.oneCell']) ?_))
 obtain ⟨wr, hwr⟩ : ∃ wr, wr = (wx.alloc (.cells #[.int .i64 0, .slice none 0 0, .slice none 0 0] 38)).setRow wx.heap.size #[.int .i64 100, .slice AR 4 cR, .slice DR 4 dR] := ⟨_, rfl⟩
 rw [← hwr]
 have hb : Below wx.heap.size wx wr := by rw [hwr]; exact ((Below.refl _ _).alloc (Nat.le_refl _) _).trans (setRow_below _ (Nat.le_refl _))
 have hbr : wr.heap[wx.heap.size]? = some (.cells #[.int .i64 100, .slice AR 4 cR, .slice DR 4 dR] 38) := by rw [hwr]; exact setRow_heap _ _ _ _ _ _ (heap_alloc_new _ _)
 clear hwr
 replace HA := Lib.hid (HA.out.next hb)
 clear q0 q1 q2 q3 q4 q5 q6 q7 q8; obtain ⟨⟨q0, q1, q2⟩, ⟨q3, q4, q5⟩, q6, q7, q8⟩ := HA.out.cells
 replace HRT := Lib.hid (rdN HRT.out hb)
 replace HBX := Lib.hid (rowN HBX.out hb)
 replace HRH := Lib.hid (rdN HRH.out hb)
 replace HRP := Lib.hid (rdN HRP.out hb)
 replace HRW := Lib.hid (rdN HRW.out hb)
 replace HRS := Lib.hid (rdsN HRS.out hb)
 obtain ⟨gr, hgr⟩ : ∃ gr, wx.heap.size = gr := ⟨_, rfl⟩
 rw [hgr] at hbr ⊢
 have HBR := Lib.hid hbr
 clear hb hbr hgr
 go_upto_region 13 with (go_at_call 8; refine (aw_heiB HA.out).mono ?_; rintro e wx ⟨AB, cB, rfl, hb⟩; replace HA := Lib.hid (HA.out.next hb); clear q0 q1 q2 q3 q4 q5 q6 q7 q8; obtain ⟨⟨q0, q1, q2⟩, ⟨q3, q4, q5⟩, q6, q7, q8⟩ := HA.out.cells; replace HRT := Lib.hid (rdN HRT.out hb); replace HBX := Lib.hid (rowN HBX.out hb); replace HRH := Lib.hid (rdN HRH.out hb); replace HRP := Lib.hid (rdN HRP.out hb); replace HRW := Lib.hid (rdN HRW.out hb); replace HRS := Lib.hid (rdsN HRS.out hb); replace HBR := Lib.hid (rowN HBR.out hb); clear hb)
 have htx : (textX.toList == textX.toList) = true := beq_self_eq_true _
 have HX0 := Lib.hid (cellOf HBX.out 0 (v := .int .i64 10) rfl)
 have IH1 := Lib.hid (fun (W : World) (A : Option Addr) (c : Nat) (h : Rd IntAt 1 W.heap.size W (.slice A 1 c) [0]) => ints_at h (cs := #[.int .i64 0]) (n := 1) rfl rfl (by simp))
 have IH3 := Lib.hid (fun (W : World) (A : Option Addr) (c : Nat) (h : Rd IntAt 1 W.heap.size W (.slice A 3 c) [0, 1, 4]) => ints_at h (cs := #[.int .i64 0, .int .i64 1, .int .i64 4]) (n := 3) rfl rfl (by simp))
 have IHS := Lib.hid (fun (W : World) (A : Option Addr) (c : Nat) (h : Rd SpanAt 2 W.heap.size W (.slice A 4 c) [(1180, 1200), (900, 940), (910, 950), (900, 940)]) => spans_at h (cs := #[.int .i64 1180, .int .i64 1200, .int .i64 900, .int .i64 940, .int .i64 910, .int .i64 950, .int .i64 900, .int .i64 940]) (n := 4) rfl rfl (by simp))
 go_upto_region 14 with (first | (go_at_call 26; refine (aw_proS HA.out).mono ?_; rintro e wx ⟨AN, cN, rfl, hb⟩; replace HA := Lib.hid (HA.out.next hb); clear q0 q1 q2 q3 q4 q5 q6 q7 q8; obtain ⟨⟨q0, q1, q2⟩, ⟨q3, q4, q5⟩, q6, q7, q8⟩ := HA.out.cells; replace HRT := Lib.hid (rdN HRT.out hb); replace HBX := Lib.hid (rowN HBX.out hb); replace HRH := Lib.hid (rdN HRH.out hb); replace HRP := Lib.hid (rdN HRP.out hb); replace HRW := Lib.hid (rdN HRW.out hb); replace HRS := Lib.hid (rdsN HRS.out hb); replace HBR := Lib.hid (rowN HBR.out hb); clear hb; have x0 := cellOf HBX.out 0 (v := .int .i64 10) rfl; have x1 := cellOf HBX.out 1 (v := .int .i64 40) rfl; have y0 := cellOf HBR.out 0 (v := .int .i64 100) rfl; have y1 := cellOf HBR.out 1 (v := .slice AR 4 cR) rfl; have y2 := cellOf HBR.out 2 (v := .slice DR 4 dR) rfl))
 simp only [List.append_eq, List.cons_append, List.nil_append]
 refine gen_act fun a0 ha0 => ?_
 have hsz : a0.tmps.size = 202 := by rw [ha0]; rfl
 have hdf : a0.defers = [] := by rw [ha0]
 have s1 : a0.tmps[1]?.getD undef = .pointer (some ⟨w5.heap.size, 0, none⟩) := by rw [ha0]; rfl
 have s4 : a0.tmps[4]?.getD undef = .bool true := by rw [ha0]; rfl
 have s5 : a0.tmps[5]?.getD undef = .int .i64 0 := by rw [ha0]; rfl
 have s6 : a0.tmps[6]?.getD undef = .bool false := by rw [ha0]; rfl
 have s7 : a0.tmps[7]?.getD undef = .int .i64 0 := by rw [ha0]; rfl
 have s8 : a0.tmps[8]?.getD undef = .slice AT 4 cT := by rw [ha0]; rfl
 have s9 : a0.tmps[9]?.getD undef = .int .i64 0 := by rw [ha0]; rfl
 have s10 : a0.tmps[10]?.getD undef = .pointer (some ⟨gx, 0, none⟩) := by rw [ha0]; rfl
 have s11 : a0.tmps[11]?.getD undef = .int .i64 2 := by rw [ha0]; rfl
 have s12 : a0.tmps[12]?.getD undef = .int .i64 0 := by rw [ha0]; rfl
 have s13 : a0.tmps[13]?.getD undef = .slice AH 1 cH := by rw [ha0]; rfl
 have s14 : a0.tmps[14]?.getD undef = .int .i64 0 := by rw [ha0]; rfl
 have s15 : a0.tmps[15]?.getD undef = .slice AP 3 cP := by rw [ha0]; rfl
 have s16 : a0.tmps[16]?.getD undef = .int .i64 0 := by rw [ha0]; rfl
 have s17 : a0.tmps[17]?.getD undef = .slice AW 1 cW := by rw [ha0]; rfl
 have s18 : a0.tmps[18]?.getD undef = .int .i64 0 := by rw [ha0]; rfl
 have s19 : a0.tmps[19]?.getD undef = .int .i64 60 := by rw [ha0]; rfl
 have s20 : a0.tmps[20]?.getD undef = .int .i64 0 := by rw [ha0]; rfl
 have s21 : a0.tmps[21]?.getD undef = .string textX := by rw [ha0]; rfl
 have s22 : a0.tmps[22]?.getD undef = .int .i64 0 := by rw [ha0]; rfl
 have s23 : a0.tmps[23]?.getD undef = .pointer (some ⟨gr, 0, none⟩) := by rw [ha0]; rfl
 have s24 : a0.tmps[24]?.getD undef = .int .i64 0 := by rw [ha0]; rfl
 have s26 : a0.tmps[26]?.getD undef = .int .i64 9 := by rw [ha0]; rfl
 have s28 : a0.tmps[28]?.getD undef = .int .i64 4 := by rw [ha0]; rfl
 clear ha0
 replace HA := HA.out
 replace HRT := HRT.out
 replace HBX := HBX.out
 replace HRH := HRH.out
 replace HRP := HRP.out
 replace HRW := HRW.out
 replace HRS := HRS.out
 replace HBR := HBR.out
 clear q0 q1 q2 q3 q4 q5 q6 q7 q8 htx HX0 IH1 IH3 IHS
 refine wp_region_ghostG (AgI wx (fun k => ([.int .i64 0, .bool true, .bool true, .int .i64 0, .bool true, .bool true, .bool true, .int .i64 0, .bool true, .bool true, .bool true, .int .i64 0, .bool true, .bool true, .bool true, .int .i64 0, .bool true, .bool true, .bool true, .int .i64 0, .bool true, .bool true, .bool true, .int .i64 0, .bool true, .bool true, .bool true, .int .i64 0, .bool true, .bool true, .bool true, .int .i64 0, .bool true, .bool true, .bool true, .int .i64 0, .bool true, .bool true, .bool true, .int .i64 9, .bool true, .bool true, .bool true, .int .i64 4, .bool true, .bool true, .bool true, .bool true, .bool true, .bool true, .bool false, .bool true, .bool true, .bool true, .slice AT 4 cT, .agg #[.int .i64 1180, .int .i64 1200], .agg #[.int .i64 900, .int .i64 940], .agg #[.int .i64 910, .int .i64 950], .agg #[.int .i64 900, .int .i64 940], undef, .bool true, .bool true, .bool true, .agg #[.int .i64 10, .int .i64 40], .agg #[.int .i64 10, .int .i64 40], .bool true, .bool true, .bool true, .int .i64 2, .bool true, .bool true, .bool true, .slice AH 1 cH, undef, .bool true, .bool true, .bool true, .slice AP 3 cP, undef, .bool true, .bool true, .bool true, .slice AW 1 cW, undef, .bool true, .bool true, .bool true, .int .i64 60, .bool true, .bool true, .bool true, .string textX, .string textX, .bool true, .bool true, .bool true, .agg #[.int .i64 100, .slice AR 4 cR, .slice DR 4 dR], .agg #[.int .i64 100, .slice A1 4 c1, .slice D1 4 d1], .bool true, .bool true, .bool true, .bool true, .bool true, .bool true, .bool false, .bool true, .bool true, .bool true] : List Value).getD k undef) (fun k => ([(59, (4, #[.int .i64 1180, .int .i64 1200, .int .i64 900, .int .i64 940, .int .i64 910, .int .i64 950, .int .i64 900, .int .i64 940], 42)), (73, (1, #[.int .i64 0], 3)), (78, (3, #[.int .i64 0, .int .i64 1, .int .i64 4], 3)), (83, (1, #[.int .i64 0], 3))] : List (Nat × Nat × Array Value × TypeId)).lookup k)) (by kernel_rfl) (by kernel_rfl) ?_ ?_ ?_
 ·exact ⟨(Below.refl _ _).drew, fun _ _ h => (by cases h), fun _ _ _ _ _ h => (by cases h)⟩
 ·refine ⟨?_, ?_, ?_, ?_, ?_, ?_, ?_, ?_, ?_, ?_, ?_, ?_, ?_, ?_, ?_, ?_, ?_, ?_, ?_, ?_, ?_, ?_, ?_, ?_, ?_, ?_, ?_, ?_, ?_, ?_, ?_, ?_, ?_, ?_, ?_, ?_, ?_, ?_, ?_, ?_, ?_, ?_, ?_, ?_, ?_, ?_, ?_, ?_, ?_, ?_, ?_, ?_, ?_, ?_, ?_, ?_, ?_, ?_, ?_, ?_, ?_, ?_, ?_, ?_, ?_, ?_, ?_, ?_, ?_, ?_, ?_, ?_, ?_, ?_, ?_, ?_, ?_, ?_, ?_, ?_, ?_, ?_, ?_, ?_, ?_, ?_, ?_, ?_, ?_, ?_, ?_, ?_, ?_, ?_, ?_, ?_, ?_, ?_, ?_, ?_, ?_, ?_, ?_, ?_, ?_, ?_, ?_, ?_, trivial⟩
  all_goals
   intro L vs X b hL hw hcl hI hf
  ·have e5 : b.tmps[5]?.getD undef = .int .i64 0 := (hf.old 5 (by kernel_rfl)).trans s5
   exact ⟨wanted_plain rfl, wp_of_run (v := .int .i64 0) (w' := X) (by unfold execOp; go_simp) (hI.next (i := 0) rfl rfl (Below.refl _ _))⟩
  ·have e95 := hf.got hw 0 95 (.int .i64 0) rfl (by kernel_rfl) (by rw [hsz]; decide) (hI.rd 0 rfl)
   exact ⟨wanted_plain rfl, wp_of_run (v := .bool true) (w' := X) (by unfold execOp; go_simp) (hI.next (i := 1) rfl rfl (Below.refl _ _))⟩
  ·have e96 := hf.got hw 1 96 (.bool true) rfl (by kernel_rfl) (by rw [hsz]; decide) (hI.rd 1 rfl)
   exact ⟨wanted_plain rfl, wp_of_run (v := .bool true) (w' := X) (by unfold execOp; go_simp) (hI.next (i := 2) rfl rfl (Below.refl _ _))⟩
  ·have e7 : b.tmps[7]?.getD undef = .int .i64 0 := (hf.old 7 (by kernel_rfl)).trans s7
   have eg := hf.got hw 2 97 (.bool true) rfl (by kernel_rfl) (by rw [hsz]; decide) (hI.rd 2 rfl)
   refine ⟨wanted_of rfl (k := 2) (d := 97) rfl eg, ?_⟩
   clear eg
   exact wp_of_run (v := .int .i64 0) (w' := X) (by unfold execOp; go_simp) (hI.next (i := 3) rfl rfl (Below.refl _ _))
  ·have e98 := hf.got hw 3 98 (.int .i64 0) rfl (by kernel_rfl) (by rw [hsz]; decide) (hI.rd 3 rfl)
   have eg := hf.got hw 2 97 (.bool true) rfl (by kernel_rfl) (by rw [hsz]; decide) (hI.rd 2 rfl)
   refine ⟨wanted_of rfl (k := 2) (d := 97) rfl eg, ?_⟩
   clear eg
   exact wp_of_run (v := .bool true) (w' := X) (by unfold execOp; go_simp) (hI.next (i := 4) rfl rfl (Below.refl _ _))
  ·have e97 := hf.got hw 2 97 (.bool true) rfl (by kernel_rfl) (by rw [hsz]; decide) (hI.rd 2 rfl)
   have e99 := hf.got hw 4 99 (.bool true) rfl (by kernel_rfl) (by rw [hsz]; decide) (hI.rd 4 rfl)
   exact ⟨wanted_plain rfl, wp_of_run (v := .bool true) (w' := X) (by unfold execOp; go_simp) (hI.next (i := 5) rfl rfl (Below.refl _ _))⟩
  ·have e100 := hf.got hw 5 100 (.bool true) rfl (by kernel_rfl) (by rw [hsz]; decide) (hI.rd 5 rfl)
   exact ⟨wanted_plain rfl, wp_of_run (v := .bool true) (w' := X) (by unfold execOp; go_simp) (hI.next (i := 6) rfl rfl (Below.refl _ _))⟩
  ·have e9 : b.tmps[9]?.getD undef = .int .i64 0 := (hf.old 9 (by kernel_rfl)).trans s9
   have eg := hf.got hw 6 101 (.bool true) rfl (by kernel_rfl) (by rw [hsz]; decide) (hI.rd 6 rfl)
   refine ⟨wanted_of rfl (k := 6) (d := 101) rfl eg, ?_⟩
   clear eg
   exact wp_of_run (v := .int .i64 0) (w' := X) (by unfold execOp; go_simp) (hI.next (i := 7) rfl rfl (Below.refl _ _))
  ·have e102 := hf.got hw 7 102 (.int .i64 0) rfl (by kernel_rfl) (by rw [hsz]; decide) (hI.rd 7 rfl)
   have eg := hf.got hw 6 101 (.bool true) rfl (by kernel_rfl) (by rw [hsz]; decide) (hI.rd 6 rfl)
   refine ⟨wanted_of rfl (k := 6) (d := 101) rfl eg, ?_⟩
   clear eg
   exact wp_of_run (v := .bool true) (w' := X) (by unfold execOp; go_simp) (hI.next (i := 8) rfl rfl (Below.refl _ _))
  ·have e101 := hf.got hw 6 101 (.bool true) rfl (by kernel_rfl) (by rw [hsz]; decide) (hI.rd 6 rfl)
   have e103 := hf.got hw 8 103 (.bool true) rfl (by kernel_rfl) (by rw [hsz]; decide) (hI.rd 8 rfl)
   exact ⟨wanted_plain rfl, wp_of_run (v := .bool true) (w' := X) (by unfold execOp; go_simp) (hI.next (i := 9) rfl rfl (Below.refl _ _))⟩
  ·have e104 := hf.got hw 9 104 (.bool true) rfl (by kernel_rfl) (by rw [hsz]; decide) (hI.rd 9 rfl)
   exact ⟨wanted_plain rfl, wp_of_run (v := .bool true) (w' := X) (by unfold execOp; go_simp) (hI.next (i := 10) rfl rfl (Below.refl _ _))⟩
  ·have e12 : b.tmps[12]?.getD undef = .int .i64 0 := (hf.old 12 (by kernel_rfl)).trans s12
   have eg := hf.got hw 10 105 (.bool true) rfl (by kernel_rfl) (by rw [hsz]; decide) (hI.rd 10 rfl)
   refine ⟨wanted_of rfl (k := 10) (d := 105) rfl eg, ?_⟩
   clear eg
   exact wp_of_run (v := .int .i64 0) (w' := X) (by unfold execOp; go_simp) (hI.next (i := 11) rfl rfl (Below.refl _ _))
  ·have e106 := hf.got hw 11 106 (.int .i64 0) rfl (by kernel_rfl) (by rw [hsz]; decide) (hI.rd 11 rfl)
   have eg := hf.got hw 10 105 (.bool true) rfl (by kernel_rfl) (by rw [hsz]; decide) (hI.rd 10 rfl)
   refine ⟨wanted_of rfl (k := 10) (d := 105) rfl eg, ?_⟩
   clear eg
   exact wp_of_run (v := .bool true) (w' := X) (by unfold execOp; go_simp) (hI.next (i := 12) rfl rfl (Below.refl _ _))
  ·have e105 := hf.got hw 10 105 (.bool true) rfl (by kernel_rfl) (by rw [hsz]; decide) (hI.rd 10 rfl)
   have e107 := hf.got hw 12 107 (.bool true) rfl (by kernel_rfl) (by rw [hsz]; decide) (hI.rd 12 rfl)
   exact ⟨wanted_plain rfl, wp_of_run (v := .bool true) (w' := X) (by unfold execOp; go_simp) (hI.next (i := 13) rfl rfl (Below.refl _ _))⟩
  ·have e108 := hf.got hw 13 108 (.bool true) rfl (by kernel_rfl) (by rw [hsz]; decide) (hI.rd 13 rfl)
   exact ⟨wanted_plain rfl, wp_of_run (v := .bool true) (w' := X) (by unfold execOp; go_simp) (hI.next (i := 14) rfl rfl (Below.refl _ _))⟩
  ·have e14 : b.tmps[14]?.getD undef = .int .i64 0 := (hf.old 14 (by kernel_rfl)).trans s14
   have eg := hf.got hw 14 109 (.bool true) rfl (by kernel_rfl) (by rw [hsz]; decide) (hI.rd 14 rfl)
   refine ⟨wanted_of rfl (k := 14) (d := 109) rfl eg, ?_⟩
   clear eg
   exact wp_of_run (v := .int .i64 0) (w' := X) (by unfold execOp; go_simp) (hI.next (i := 15) rfl rfl (Below.refl _ _))
  ·have e110 := hf.got hw 15 110 (.int .i64 0) rfl (by kernel_rfl) (by rw [hsz]; decide) (hI.rd 15 rfl)
   have eg := hf.got hw 14 109 (.bool true) rfl (by kernel_rfl) (by rw [hsz]; decide) (hI.rd 14 rfl)
   refine ⟨wanted_of rfl (k := 14) (d := 109) rfl eg, ?_⟩
   clear eg
   exact wp_of_run (v := .bool true) (w' := X) (by unfold execOp; go_simp) (hI.next (i := 16) rfl rfl (Below.refl _ _))
  ·have e109 := hf.got hw 14 109 (.bool true) rfl (by kernel_rfl) (by rw [hsz]; decide) (hI.rd 14 rfl)
   have e111 := hf.got hw 16 111 (.bool true) rfl (by kernel_rfl) (by rw [hsz]; decide) (hI.rd 16 rfl)
   exact ⟨wanted_plain rfl, wp_of_run (v := .bool true) (w' := X) (by unfold execOp; go_simp) (hI.next (i := 17) rfl rfl (Below.refl _ _))⟩
  ·have e112 := hf.got hw 17 112 (.bool true) rfl (by kernel_rfl) (by rw [hsz]; decide) (hI.rd 17 rfl)
   exact ⟨wanted_plain rfl, wp_of_run (v := .bool true) (w' := X) (by unfold execOp; go_simp) (hI.next (i := 18) rfl rfl (Below.refl _ _))⟩
  ·have e16 : b.tmps[16]?.getD undef = .int .i64 0 := (hf.old 16 (by kernel_rfl)).trans s16
   have eg := hf.got hw 18 113 (.bool true) rfl (by kernel_rfl) (by rw [hsz]; decide) (hI.rd 18 rfl)
   refine ⟨wanted_of rfl (k := 18) (d := 113) rfl eg, ?_⟩
   clear eg
   exact wp_of_run (v := .int .i64 0) (w' := X) (by unfold execOp; go_simp) (hI.next (i := 19) rfl rfl (Below.refl _ _))
  ·have e114 := hf.got hw 19 114 (.int .i64 0) rfl (by kernel_rfl) (by rw [hsz]; decide) (hI.rd 19 rfl)
   have eg := hf.got hw 18 113 (.bool true) rfl (by kernel_rfl) (by rw [hsz]; decide) (hI.rd 18 rfl)
   refine ⟨wanted_of rfl (k := 18) (d := 113) rfl eg, ?_⟩
   clear eg
   exact wp_of_run (v := .bool true) (w' := X) (by unfold execOp; go_simp) (hI.next (i := 20) rfl rfl (Below.refl _ _))
  ·have e113 := hf.got hw 18 113 (.bool true) rfl (by kernel_rfl) (by rw [hsz]; decide) (hI.rd 18 rfl)
   have e115 := hf.got hw 20 115 (.bool true) rfl (by kernel_rfl) (by rw [hsz]; decide) (hI.rd 20 rfl)
   exact ⟨wanted_plain rfl, wp_of_run (v := .bool true) (w' := X) (by unfold execOp; go_simp) (hI.next (i := 21) rfl rfl (Below.refl _ _))⟩
  ·have e116 := hf.got hw 21 116 (.bool true) rfl (by kernel_rfl) (by rw [hsz]; decide) (hI.rd 21 rfl)
   exact ⟨wanted_plain rfl, wp_of_run (v := .bool true) (w' := X) (by unfold execOp; go_simp) (hI.next (i := 22) rfl rfl (Below.refl _ _))⟩
  ·have e18 : b.tmps[18]?.getD undef = .int .i64 0 := (hf.old 18 (by kernel_rfl)).trans s18
   have eg := hf.got hw 22 117 (.bool true) rfl (by kernel_rfl) (by rw [hsz]; decide) (hI.rd 22 rfl)
   refine ⟨wanted_of rfl (k := 22) (d := 117) rfl eg, ?_⟩
   clear eg
   exact wp_of_run (v := .int .i64 0) (w' := X) (by unfold execOp; go_simp) (hI.next (i := 23) rfl rfl (Below.refl _ _))
  ·have e118 := hf.got hw 23 118 (.int .i64 0) rfl (by kernel_rfl) (by rw [hsz]; decide) (hI.rd 23 rfl)
   have eg := hf.got hw 22 117 (.bool true) rfl (by kernel_rfl) (by rw [hsz]; decide) (hI.rd 22 rfl)
   refine ⟨wanted_of rfl (k := 22) (d := 117) rfl eg, ?_⟩
   clear eg
   exact wp_of_run (v := .bool true) (w' := X) (by unfold execOp; go_simp) (hI.next (i := 24) rfl rfl (Below.refl _ _))
  ·have e117 := hf.got hw 22 117 (.bool true) rfl (by kernel_rfl) (by rw [hsz]; decide) (hI.rd 22 rfl)
   have e119 := hf.got hw 24 119 (.bool true) rfl (by kernel_rfl) (by rw [hsz]; decide) (hI.rd 24 rfl)
   exact ⟨wanted_plain rfl, wp_of_run (v := .bool true) (w' := X) (by unfold execOp; go_simp) (hI.next (i := 25) rfl rfl (Below.refl _ _))⟩
  ·have e120 := hf.got hw 25 120 (.bool true) rfl (by kernel_rfl) (by rw [hsz]; decide) (hI.rd 25 rfl)
   exact ⟨wanted_plain rfl, wp_of_run (v := .bool true) (w' := X) (by unfold execOp; go_simp) (hI.next (i := 26) rfl rfl (Below.refl _ _))⟩
  ·have e20 : b.tmps[20]?.getD undef = .int .i64 0 := (hf.old 20 (by kernel_rfl)).trans s20
   have eg := hf.got hw 26 121 (.bool true) rfl (by kernel_rfl) (by rw [hsz]; decide) (hI.rd 26 rfl)
   refine ⟨wanted_of rfl (k := 26) (d := 121) rfl eg, ?_⟩
   clear eg
   exact wp_of_run (v := .int .i64 0) (w' := X) (by unfold execOp; go_simp) (hI.next (i := 27) rfl rfl (Below.refl _ _))
  ·have e122 := hf.got hw 27 122 (.int .i64 0) rfl (by kernel_rfl) (by rw [hsz]; decide) (hI.rd 27 rfl)
   have eg := hf.got hw 26 121 (.bool true) rfl (by kernel_rfl) (by rw [hsz]; decide) (hI.rd 26 rfl)
   refine ⟨wanted_of rfl (k := 26) (d := 121) rfl eg, ?_⟩
   clear eg
   exact wp_of_run (v := .bool true) (w' := X) (by unfold execOp; go_simp) (hI.next (i := 28) rfl rfl (Below.refl _ _))
  ·have e121 := hf.got hw 26 121 (.bool true) rfl (by kernel_rfl) (by rw [hsz]; decide) (hI.rd 26 rfl)
   have e123 := hf.got hw 28 123 (.bool true) rfl (by kernel_rfl) (by rw [hsz]; decide) (hI.rd 28 rfl)
   exact ⟨wanted_plain rfl, wp_of_run (v := .bool true) (w' := X) (by unfold execOp; go_simp) (hI.next (i := 29) rfl rfl (Below.refl _ _))⟩
  ·have e124 := hf.got hw 29 124 (.bool true) rfl (by kernel_rfl) (by rw [hsz]; decide) (hI.rd 29 rfl)
   exact ⟨wanted_plain rfl, wp_of_run (v := .bool true) (w' := X) (by unfold execOp; go_simp) (hI.next (i := 30) rfl rfl (Below.refl _ _))⟩
  ·have e22 : b.tmps[22]?.getD undef = .int .i64 0 := (hf.old 22 (by kernel_rfl)).trans s22
   have eg := hf.got hw 30 125 (.bool true) rfl (by kernel_rfl) (by rw [hsz]; decide) (hI.rd 30 rfl)
   refine ⟨wanted_of rfl (k := 30) (d := 125) rfl eg, ?_⟩
   clear eg
   exact wp_of_run (v := .int .i64 0) (w' := X) (by unfold execOp; go_simp) (hI.next (i := 31) rfl rfl (Below.refl _ _))
  ·have e126 := hf.got hw 31 126 (.int .i64 0) rfl (by kernel_rfl) (by rw [hsz]; decide) (hI.rd 31 rfl)
   have eg := hf.got hw 30 125 (.bool true) rfl (by kernel_rfl) (by rw [hsz]; decide) (hI.rd 30 rfl)
   refine ⟨wanted_of rfl (k := 30) (d := 125) rfl eg, ?_⟩
   clear eg
   exact wp_of_run (v := .bool true) (w' := X) (by unfold execOp; go_simp) (hI.next (i := 32) rfl rfl (Below.refl _ _))
  ·have e125 := hf.got hw 30 125 (.bool true) rfl (by kernel_rfl) (by rw [hsz]; decide) (hI.rd 30 rfl)
   have e127 := hf.got hw 32 127 (.bool true) rfl (by kernel_rfl) (by rw [hsz]; decide) (hI.rd 32 rfl)
   exact ⟨wanted_plain rfl, wp_of_run (v := .bool true) (w' := X) (by unfold execOp; go_simp) (hI.next (i := 33) rfl rfl (Below.refl _ _))⟩
  ·have e128 := hf.got hw 33 128 (.bool true) rfl (by kernel_rfl) (by rw [hsz]; decide) (hI.rd 33 rfl)
   exact ⟨wanted_plain rfl, wp_of_run (v := .bool true) (w' := X) (by unfold execOp; go_simp) (hI.next (i := 34) rfl rfl (Below.refl _ _))⟩
  ·have e24 : b.tmps[24]?.getD undef = .int .i64 0 := (hf.old 24 (by kernel_rfl)).trans s24
   have eg := hf.got hw 34 129 (.bool true) rfl (by kernel_rfl) (by rw [hsz]; decide) (hI.rd 34 rfl)
   refine ⟨wanted_of rfl (k := 34) (d := 129) rfl eg, ?_⟩
   clear eg
   exact wp_of_run (v := .int .i64 0) (w' := X) (by unfold execOp; go_simp) (hI.next (i := 35) rfl rfl (Below.refl _ _))
  ·have e130 := hf.got hw 35 130 (.int .i64 0) rfl (by kernel_rfl) (by rw [hsz]; decide) (hI.rd 35 rfl)
   have eg := hf.got hw 34 129 (.bool true) rfl (by kernel_rfl) (by rw [hsz]; decide) (hI.rd 34 rfl)
   refine ⟨wanted_of rfl (k := 34) (d := 129) rfl eg, ?_⟩
   clear eg
   exact wp_of_run (v := .bool true) (w' := X) (by unfold execOp; go_simp) (hI.next (i := 36) rfl rfl (Below.refl _ _))
  ·have e129 := hf.got hw 34 129 (.bool true) rfl (by kernel_rfl) (by rw [hsz]; decide) (hI.rd 34 rfl)
   have e131 := hf.got hw 36 131 (.bool true) rfl (by kernel_rfl) (by rw [hsz]; decide) (hI.rd 36 rfl)
   exact ⟨wanted_plain rfl, wp_of_run (v := .bool true) (w' := X) (by unfold execOp; go_simp) (hI.next (i := 37) rfl rfl (Below.refl _ _))⟩
  ·have e132 := hf.got hw 37 132 (.bool true) rfl (by kernel_rfl) (by rw [hsz]; decide) (hI.rd 37 rfl)
   exact ⟨wanted_plain rfl, wp_of_run (v := .bool true) (w' := X) (by unfold execOp; go_simp) (hI.next (i := 38) rfl rfl (Below.refl _ _))⟩
  ·have e26 : b.tmps[26]?.getD undef = .int .i64 9 := (hf.old 26 (by kernel_rfl)).trans s26
   have eg := hf.got hw 38 133 (.bool true) rfl (by kernel_rfl) (by rw [hsz]; decide) (hI.rd 38 rfl)
   refine ⟨wanted_of rfl (k := 38) (d := 133) rfl eg, ?_⟩
   clear eg
   exact wp_of_run (v := .int .i64 9) (w' := X) (by unfold execOp; go_simp) (hI.next (i := 39) rfl rfl (Below.refl _ _))
  ·have e134 := hf.got hw 39 134 (.int .i64 9) rfl (by kernel_rfl) (by rw [hsz]; decide) (hI.rd 39 rfl)
   have eg := hf.got hw 38 133 (.bool true) rfl (by kernel_rfl) (by rw [hsz]; decide) (hI.rd 38 rfl)
   refine ⟨wanted_of rfl (k := 38) (d := 133) rfl eg, ?_⟩
   clear eg
   exact wp_of_run (v := .bool true) (w' := X) (by unfold execOp; go_simp) (hI.next (i := 40) rfl rfl (Below.refl _ _))
  ·have e133 := hf.got hw 38 133 (.bool true) rfl (by kernel_rfl) (by rw [hsz]; decide) (hI.rd 38 rfl)
   have e135 := hf.got hw 40 135 (.bool true) rfl (by kernel_rfl) (by rw [hsz]; decide) (hI.rd 40 rfl)
   exact ⟨wanted_plain rfl, wp_of_run (v := .bool true) (w' := X) (by unfold execOp; go_simp) (hI.next (i := 41) rfl rfl (Below.refl _ _))⟩
  ·have e136 := hf.got hw 41 136 (.bool true) rfl (by kernel_rfl) (by rw [hsz]; decide) (hI.rd 41 rfl)
   exact ⟨wanted_plain rfl, wp_of_run (v := .bool true) (w' := X) (by unfold execOp; go_simp) (hI.next (i := 42) rfl rfl (Below.refl _ _))⟩
  ·have e28 : b.tmps[28]?.getD undef = .int .i64 4 := (hf.old 28 (by kernel_rfl)).trans s28
   have eg := hf.got hw 42 137 (.bool true) rfl (by kernel_rfl) (by rw [hsz]; decide) (hI.rd 42 rfl)
   refine ⟨wanted_of rfl (k := 42) (d := 137) rfl eg, ?_⟩
   clear eg
   exact wp_of_run (v := .int .i64 4) (w' := X) (by unfold execOp; go_simp) (hI.next (i := 43) rfl rfl (Below.refl _ _))
  ·have e138 := hf.got hw 43 138 (.int .i64 4) rfl (by kernel_rfl) (by rw [hsz]; decide) (hI.rd 43 rfl)
   have eg := hf.got hw 42 137 (.bool true) rfl (by kernel_rfl) (by rw [hsz]; decide) (hI.rd 42 rfl)
   refine ⟨wanted_of rfl (k := 42) (d := 137) rfl eg, ?_⟩
   clear eg
   exact wp_of_run (v := .bool true) (w' := X) (by unfold execOp; go_simp) (hI.next (i := 44) rfl rfl (Below.refl _ _))
  ·have e137 := hf.got hw 42 137 (.bool true) rfl (by kernel_rfl) (by rw [hsz]; decide) (hI.rd 42 rfl)
   have e139 := hf.got hw 44 139 (.bool true) rfl (by kernel_rfl) (by rw [hsz]; decide) (hI.rd 44 rfl)
   exact ⟨wanted_plain rfl, wp_of_run (v := .bool true) (w' := X) (by unfold execOp; go_simp) (hI.next (i := 45) rfl rfl (Below.refl _ _))⟩
  ·have e140 := hf.got hw 45 140 (.bool true) rfl (by kernel_rfl) (by rw [hsz]; decide) (hI.rd 45 rfl)
   exact ⟨wanted_plain rfl, wp_of_run (v := .bool true) (w' := X) (by unfold execOp; go_simp) (hI.next (i := 46) rfl rfl (Below.refl _ _))⟩
  ·have e4 : b.tmps[4]?.getD undef = .bool true := (hf.old 4 (by kernel_rfl)).trans s4
   have eg := hf.got hw 46 141 (.bool true) rfl (by kernel_rfl) (by rw [hsz]; decide) (hI.rd 46 rfl)
   refine ⟨wanted_of rfl (k := 46) (d := 141) rfl eg, ?_⟩
   clear eg
   exact wp_of_run (v := .bool true) (w' := X) (by unfold execOp; go_simp) (hI.next (i := 47) rfl rfl (Below.refl _ _))
  ·have e141 := hf.got hw 46 141 (.bool true) rfl (by kernel_rfl) (by rw [hsz]; decide) (hI.rd 46 rfl)
   have e142 := hf.got hw 47 142 (.bool true) rfl (by kernel_rfl) (by rw [hsz]; decide) (hI.rd 47 rfl)
   exact ⟨wanted_plain rfl, wp_of_run (v := .bool true) (w' := X) (by unfold execOp; go_simp) (hI.next (i := 48) rfl rfl (Below.refl _ _))⟩
  ·have e143 := hf.got hw 48 143 (.bool true) rfl (by kernel_rfl) (by rw [hsz]; decide) (hI.rd 48 rfl)
   exact ⟨wanted_plain rfl, wp_of_run (v := .bool true) (w' := X) (by unfold execOp; go_simp) (hI.next (i := 49) rfl rfl (Below.refl _ _))⟩
  ·have e6 : b.tmps[6]?.getD undef = .bool false := (hf.old 6 (by kernel_rfl)).trans s6
   have eg := hf.got hw 49 144 (.bool true) rfl (by kernel_rfl) (by rw [hsz]; decide) (hI.rd 49 rfl)
   refine ⟨wanted_of rfl (k := 49) (d := 144) rfl eg, ?_⟩
   clear eg
   exact wp_of_run (v := .bool false) (w' := X) (by unfold execOp; go_simp) (hI.next (i := 50) rfl rfl (Below.refl _ _))
  ·have e145 := hf.got hw 50 145 (.bool false) rfl (by kernel_rfl) (by rw [hsz]; decide) (hI.rd 50 rfl)
   have eg := hf.got hw 49 144 (.bool true) rfl (by kernel_rfl) (by rw [hsz]; decide) (hI.rd 49 rfl)
   refine ⟨wanted_of rfl (k := 49) (d := 144) rfl eg, ?_⟩
   clear eg
   exact wp_of_run (v := .bool true) (w' := X) (by unfold execOp; go_simp) (hI.next (i := 51) rfl rfl (Below.refl _ _))
  ·have e144 := hf.got hw 49 144 (.bool true) rfl (by kernel_rfl) (by rw [hsz]; decide) (hI.rd 49 rfl)
   have e146 := hf.got hw 51 146 (.bool true) rfl (by kernel_rfl) (by rw [hsz]; decide) (hI.rd 51 rfl)
   exact ⟨wanted_plain rfl, wp_of_run (v := .bool true) (w' := X) (by unfold execOp; go_simp) (hI.next (i := 52) rfl rfl (Below.refl _ _))⟩
  ·have e147 := hf.got hw 52 147 (.bool true) rfl (by kernel_rfl) (by rw [hsz]; decide) (hI.rd 52 rfl)
   exact ⟨wanted_plain rfl, wp_of_run (v := .bool true) (w' := X) (by unfold execOp; go_simp) (hI.next (i := 53) rfl rfl (Below.refl _ _))⟩
  ·have e8 : b.tmps[8]?.getD undef = .slice AT 4 cT := (hf.old 8 (by kernel_rfl)).trans s8
   have eg := hf.got hw 53 148 (.bool true) rfl (by kernel_rfl) (by rw [hsz]; decide) (hI.rd 53 rfl)
   refine ⟨wanted_of rfl (k := 53) (d := 148) rfl eg, ?_⟩
   clear eg
   exact wp_of_run (v := .slice AT 4 cT) (w' := X) (by unfold execOp; go_simp) (hI.next (i := 54) rfl rfl (Below.refl _ _))
  ·have eg := hf.got hw 53 148 (.bool true) rfl (by kernel_rfl) (by rw [hsz]; decide) (hI.rd 53 rfl)
   refine ⟨wanted_of rfl (k := 53) (d := 148) rfl eg, ?_⟩
   clear eg
   refine wp_of_call (f := 33) (args := #[.int .i64 1180, .int .i64 1200]) (run_call_clo (.func 33) _ _ rfl (c := #[]) rfl enterA43 rfl) ?_
   refine (span_any 1180 1200 X).mono ?_
   rintro e wz ⟨rfl, hbz⟩
   exact ⟨_, rfl, hI.next (i := 55) rfl rfl hbz⟩
  ·have eg := hf.got hw 53 148 (.bool true) rfl (by kernel_rfl) (by rw [hsz]; decide) (hI.rd 53 rfl)
   refine ⟨wanted_of rfl (k := 53) (d := 148) rfl eg, ?_⟩
   clear eg
   refine wp_of_call (f := 33) (args := #[.int .i64 900, .int .i64 940]) (run_call_clo (.func 33) _ _ rfl (c := #[]) rfl enterA43 rfl) ?_
   refine (span_any 900 940 X).mono ?_
   rintro e wz ⟨rfl, hbz⟩
   exact ⟨_, rfl, hI.next (i := 56) rfl rfl hbz⟩
  ·have eg := hf.got hw 53 148 (.bool true) rfl (by kernel_rfl) (by rw [hsz]; decide) (hI.rd 53 rfl)
   refine ⟨wanted_of rfl (k := 53) (d := 148) rfl eg, ?_⟩
   clear eg
   refine wp_of_call (f := 33) (args := #[.int .i64 910, .int .i64 950]) (run_call_clo (.func 33) _ _ rfl (c := #[]) rfl enterA43 rfl) ?_
   refine (span_any 910 950 X).mono ?_
   rintro e wz ⟨rfl, hbz⟩
   exact ⟨_, rfl, hI.next (i := 57) rfl rfl hbz⟩
  ·have eg := hf.got hw 53 148 (.bool true) rfl (by kernel_rfl) (by rw [hsz]; decide) (hI.rd 53 rfl)
   refine ⟨wanted_of rfl (k := 53) (d := 148) rfl eg, ?_⟩
   clear eg
   refine wp_of_call (f := 33) (args := #[.int .i64 900, .int .i64 940]) (run_call_clo (.func 33) _ _ rfl (c := #[]) rfl enterA43 rfl) ?_
   refine (span_any 900 940 X).mono ?_
   rintro e wz ⟨rfl, hbz⟩
   exact ⟨_, rfl, hI.next (i := 58) rfl rfl hbz⟩
  ·have e150 := hf.got hw 55 150 (.agg #[.int .i64 1180, .int .i64 1200]) rfl (by kernel_rfl) (by rw [hsz]; decide) (hI.rd 55 rfl)
   have e151 := hf.got hw 56 151 (.agg #[.int .i64 900, .int .i64 940]) rfl (by kernel_rfl) (by rw [hsz]; decide) (hI.rd 56 rfl)
   have e152 := hf.got hw 57 152 (.agg #[.int .i64 910, .int .i64 950]) rfl (by kernel_rfl) (by rw [hsz]; decide) (hI.rd 57 rfl)
   have e153 := hf.got hw 58 153 (.agg #[.int .i64 900, .int .i64 940]) rfl (by kernel_rfl) (by rw [hsz]; decide) (hI.rd 58 rfl)
   have eg := hf.got hw 53 148 (.bool true) rfl (by kernel_rfl) (by rw [hsz]; decide) (hI.rd 53 rfl)
   refine ⟨wanted_of rfl (k := 53) (d := 148) rfl eg, ?_⟩
   clear eg
   exact wp_of_run (v := .slice (some ⟨X.heap.size, 0, none⟩) 4 4) (w' := X.alloc (.cells #[.int .i64 1180, .int .i64 1200, .int .i64 900, .int .i64 940, .int .i64 910, .int .i64 950, .int .i64 900, .int .i64 940] 42)) (by unfold execOp; go_simp) (hI.made (i := 59) rfl)
  ·have e149 := hf.got hw 54 149 (.slice AT 4 cT) rfl (by kernel_rfl) (by rw [hsz]; decide) (hI.rd 54 rfl)
   have h59 : L 59 = true := done_of hw 59 (by kernel_rfl)
   obtain ⟨gb, hgb, hgx⟩ := hI.sl 59 4 #[.int .i64 1180, .int .i64 1200, .int .i64 900, .int .i64 940, .int .i64 910, .int .i64 950, .int .i64 900, .int .i64 940] 42 rfl h59
   have e154 : b.tmps[154]?.getD undef = .slice (some ⟨gb, 0, none⟩) 4 4 := (hf.new 59 154 rfl h59 (by rw [hsz]; decide)).trans hgb
   have eg := hf.got hw 53 148 (.bool true) rfl (by kernel_rfl) (by rw [hsz]; decide) (hI.rd 53 rfl)
   refine ⟨wanted_of rfl (k := 53) (d := 148) rfl eg, ?_⟩
   clear eg
   refine wp_of_call (f := 32) (args := #[.slice AT 4 cT, .slice (some ⟨gb, 0, none⟩) 4 4]) (run_call_clo (.func 32) _ _ rfl (c := #[]) rfl enterA25 (by simp [eval_tmp e149, eval_tmp e154])) ?_
   refine (spans_lit (rdX HRT hI.bel) rfl (by simp) rfl hgx).mono ?_
   rintro e wz ⟨rfl, hbz⟩
   exact ⟨_, rfl, hI.next (i := 60) rfl rfl hbz⟩
  ·have e148 := hf.got hw 53 148 (.bool true) rfl (by kernel_rfl) (by rw [hsz]; decide) (hI.rd 53 rfl)
   have e155 := hf.got hw 60 155 (.bool true) rfl (by kernel_rfl) (by rw [hsz]; decide) (hI.rd 60 rfl)
   exact ⟨wanted_plain rfl, wp_of_run (v := .bool true) (w' := X) (by unfold execOp; go_simp) (hI.next (i := 61) rfl rfl (Below.refl _ _))⟩
  ·have e156 := hf.got hw 61 156 (.bool true) rfl (by kernel_rfl) (by rw [hsz]; decide) (hI.rd 61 rfl)
   exact ⟨wanted_plain rfl, wp_of_run (v := .bool true) (w' := X) (by unfold execOp; go_simp) (hI.next (i := 62) rfl rfl (Below.refl _ _))⟩
  ·have e10 : b.tmps[10]?.getD undef = .pointer (some ⟨gx, 0, none⟩) := (hf.old 10 (by kernel_rfl)).trans s10
   have eg := hf.got hw 62 157 (.bool true) rfl (by kernel_rfl) (by rw [hsz]; decide) (hI.rd 62 rfl)
   refine ⟨wanted_of rfl (k := 62) (d := 157) rfl eg, ?_⟩
   clear eg
   have x0 := cellOf (rowX HBX hI.bel) 0 (v := .int .i64 10) rfl
   have x1 := cellOf (rowX HBX hI.bel) 1 (v := .int .i64 40) rfl
   exact wp_of_run (v := .agg #[.int .i64 10, .int .i64 40]) (w' := X) (by unfold execOp; go_simp) (hI.next (i := 63) rfl rfl (Below.refl _ _))
  ·have eg := hf.got hw 62 157 (.bool true) rfl (by kernel_rfl) (by rw [hsz]; decide) (hI.rd 62 rfl)
   refine ⟨wanted_of rfl (k := 62) (d := 157) rfl eg, ?_⟩
   clear eg
   refine wp_of_call (f := 33) (args := #[.int .i64 10, .int .i64 40]) (run_call_clo (.func 33) _ _ rfl (c := #[]) rfl enterA43 rfl) ?_
   refine (span_any 10 40 X).mono ?_
   rintro e wz ⟨rfl, hbz⟩
   exact ⟨_, rfl, hI.next (i := 64) rfl rfl hbz⟩
  ·have e158 := hf.got hw 63 158 (.agg #[.int .i64 10, .int .i64 40]) rfl (by kernel_rfl) (by rw [hsz]; decide) (hI.rd 63 rfl)
   have e159 := hf.got hw 64 159 (.agg #[.int .i64 10, .int .i64 40]) rfl (by kernel_rfl) (by rw [hsz]; decide) (hI.rd 64 rfl)
   have eg := hf.got hw 62 157 (.bool true) rfl (by kernel_rfl) (by rw [hsz]; decide) (hI.rd 62 rfl)
   refine ⟨wanted_of rfl (k := 62) (d := 157) rfl eg, ?_⟩
   clear eg
   exact wp_of_run (v := .bool true) (w' := X) (by unfold execOp; go_simp) (hI.next (i := 65) rfl rfl (Below.refl _ _))
  ·have e157 := hf.got hw 62 157 (.bool true) rfl (by kernel_rfl) (by rw [hsz]; decide) (hI.rd 62 rfl)
   have e160 := hf.got hw 65 160 (.bool true) rfl (by kernel_rfl) (by rw [hsz]; decide) (hI.rd 65 rfl)
   exact ⟨wanted_plain rfl, wp_of_run (v := .bool true) (w' := X) (by unfold execOp; go_simp) (hI.next (i := 66) rfl rfl (Below.refl _ _))⟩
  ·have e161 := hf.got hw 66 161 (.bool true) rfl (by kernel_rfl) (by rw [hsz]; decide) (hI.rd 66 rfl)
   exact ⟨wanted_plain rfl, wp_of_run (v := .bool true) (w' := X) (by unfold execOp; go_simp) (hI.next (i := 67) rfl rfl (Below.refl _ _))⟩
  ·have e11 : b.tmps[11]?.getD undef = .int .i64 2 := (hf.old 11 (by kernel_rfl)).trans s11
   have eg := hf.got hw 67 162 (.bool true) rfl (by kernel_rfl) (by rw [hsz]; decide) (hI.rd 67 rfl)
   refine ⟨wanted_of rfl (k := 67) (d := 162) rfl eg, ?_⟩
   clear eg
   exact wp_of_run (v := .int .i64 2) (w' := X) (by unfold execOp; go_simp) (hI.next (i := 68) rfl rfl (Below.refl _ _))
  ·have e163 := hf.got hw 68 163 (.int .i64 2) rfl (by kernel_rfl) (by rw [hsz]; decide) (hI.rd 68 rfl)
   have eg := hf.got hw 67 162 (.bool true) rfl (by kernel_rfl) (by rw [hsz]; decide) (hI.rd 67 rfl)
   refine ⟨wanted_of rfl (k := 67) (d := 162) rfl eg, ?_⟩
   clear eg
   exact wp_of_run (v := .bool true) (w' := X) (by unfold execOp; go_simp) (hI.next (i := 69) rfl rfl (Below.refl _ _))
  ·have e162 := hf.got hw 67 162 (.bool true) rfl (by kernel_rfl) (by rw [hsz]; decide) (hI.rd 67 rfl)
   have e164 := hf.got hw 69 164 (.bool true) rfl (by kernel_rfl) (by rw [hsz]; decide) (hI.rd 69 rfl)
   exact ⟨wanted_plain rfl, wp_of_run (v := .bool true) (w' := X) (by unfold execOp; go_simp) (hI.next (i := 70) rfl rfl (Below.refl _ _))⟩
  ·have e165 := hf.got hw 70 165 (.bool true) rfl (by kernel_rfl) (by rw [hsz]; decide) (hI.rd 70 rfl)
   exact ⟨wanted_plain rfl, wp_of_run (v := .bool true) (w' := X) (by unfold execOp; go_simp) (hI.next (i := 71) rfl rfl (Below.refl _ _))⟩
  ·have e13 : b.tmps[13]?.getD undef = .slice AH 1 cH := (hf.old 13 (by kernel_rfl)).trans s13
   have eg := hf.got hw 71 166 (.bool true) rfl (by kernel_rfl) (by rw [hsz]; decide) (hI.rd 71 rfl)
   refine ⟨wanted_of rfl (k := 71) (d := 166) rfl eg, ?_⟩
   clear eg
   exact wp_of_run (v := .slice AH 1 cH) (w' := X) (by unfold execOp; go_simp) (hI.next (i := 72) rfl rfl (Below.refl _ _))
  ·have eg := hf.got hw 71 166 (.bool true) rfl (by kernel_rfl) (by rw [hsz]; decide) (hI.rd 71 rfl)
   refine ⟨wanted_of rfl (k := 71) (d := 166) rfl eg, ?_⟩
   clear eg
   exact wp_of_run (v := .slice (some ⟨X.heap.size, 0, none⟩) 1 1) (w' := X.alloc (.cells #[.int .i64 0] 3)) (by unfold execOp; go_simp) (hI.made (i := 73) rfl)
  ·have e167 := hf.got hw 72 167 (.slice AH 1 cH) rfl (by kernel_rfl) (by rw [hsz]; decide) (hI.rd 72 rfl)
   have h73 : L 73 = true := done_of hw 73 (by kernel_rfl)
   obtain ⟨gb, hgb, hgx⟩ := hI.sl 73 1 #[.int .i64 0] 3 rfl h73
   have e168 : b.tmps[168]?.getD undef = .slice (some ⟨gb, 0, none⟩) 1 1 := (hf.new 73 168 rfl h73 (by rw [hsz]; decide)).trans hgb
   have eg := hf.got hw 71 166 (.bool true) rfl (by kernel_rfl) (by rw [hsz]; decide) (hI.rd 71 rfl)
   refine ⟨wanted_of rfl (k := 71) (d := 166) rfl eg, ?_⟩
   clear eg
   refine wp_of_call (f := 16) (args := #[.slice AH 1 cH, .slice (some ⟨gb, 0, none⟩) 1 1]) (run_call_clo (.func 16) _ _ rfl (c := #[]) rfl enterA30 (by simp [eval_tmp e167, eval_tmp e168])) ?_
   refine (ints_lit (rdX HRH hI.bel) rfl (by simp) rfl hgx).mono ?_
   rintro e wz ⟨rfl, hbz⟩
   exact ⟨_, rfl, hI.next (i := 74) rfl rfl hbz⟩
  ·have e166 := hf.got hw 71 166 (.bool true) rfl (by kernel_rfl) (by rw [hsz]; decide) (hI.rd 71 rfl)
   have e169 := hf.got hw 74 169 (.bool true) rfl (by kernel_rfl) (by rw [hsz]; decide) (hI.rd 74 rfl)
   exact ⟨wanted_plain rfl, wp_of_run (v := .bool true) (w' := X) (by unfold execOp; go_simp) (hI.next (i := 75) rfl rfl (Below.refl _ _))⟩
  ·have e170 := hf.got hw 75 170 (.bool true) rfl (by kernel_rfl) (by rw [hsz]; decide) (hI.rd 75 rfl)
   exact ⟨wanted_plain rfl, wp_of_run (v := .bool true) (w' := X) (by unfold execOp; go_simp) (hI.next (i := 76) rfl rfl (Below.refl _ _))⟩
  ·have e15 : b.tmps[15]?.getD undef = .slice AP 3 cP := (hf.old 15 (by kernel_rfl)).trans s15
   have eg := hf.got hw 76 171 (.bool true) rfl (by kernel_rfl) (by rw [hsz]; decide) (hI.rd 76 rfl)
   refine ⟨wanted_of rfl (k := 76) (d := 171) rfl eg, ?_⟩
   clear eg
   exact wp_of_run (v := .slice AP 3 cP) (w' := X) (by unfold execOp; go_simp) (hI.next (i := 77) rfl rfl (Below.refl _ _))
  ·have eg := hf.got hw 76 171 (.bool true) rfl (by kernel_rfl) (by rw [hsz]; decide) (hI.rd 76 rfl)
   refine ⟨wanted_of rfl (k := 76) (d := 171) rfl eg, ?_⟩
   clear eg
   exact wp_of_run (v := .slice (some ⟨X.heap.size, 0, none⟩) 3 3) (w' := X.alloc (.cells #[.int .i64 0, .int .i64 1, .int .i64 4] 3)) (by unfold execOp; go_simp) (hI.made (i := 78) rfl)
  ·have e172 := hf.got hw 77 172 (.slice AP 3 cP) rfl (by kernel_rfl) (by rw [hsz]; decide) (hI.rd 77 rfl)
   have h78 : L 78 = true := done_of hw 78 (by kernel_rfl)
   obtain ⟨gb, hgb, hgx⟩ := hI.sl 78 3 #[.int .i64 0, .int .i64 1, .int .i64 4] 3 rfl h78
   have e173 : b.tmps[173]?.getD undef = .slice (some ⟨gb, 0, none⟩) 3 3 := (hf.new 78 173 rfl h78 (by rw [hsz]; decide)).trans hgb
   have eg := hf.got hw 76 171 (.bool true) rfl (by kernel_rfl) (by rw [hsz]; decide) (hI.rd 76 rfl)
   refine ⟨wanted_of rfl (k := 76) (d := 171) rfl eg, ?_⟩
   clear eg
   refine wp_of_call (f := 16) (args := #[.slice AP 3 cP, .slice (some ⟨gb, 0, none⟩) 3 3]) (run_call_clo (.func 16) _ _ rfl (c := #[]) rfl enterA30 (by simp [eval_tmp e172, eval_tmp e173])) ?_
   refine (ints_lit (rdX HRP hI.bel) rfl (by simp) rfl hgx).mono ?_
   rintro e wz ⟨rfl, hbz⟩
   exact ⟨_, rfl, hI.next (i := 79) rfl rfl hbz⟩
  ·have e171 := hf.got hw 76 171 (.bool true) rfl (by kernel_rfl) (by rw [hsz]; decide) (hI.rd 76 rfl)
   have e174 := hf.got hw 79 174 (.bool true) rfl (by kernel_rfl) (by rw [hsz]; decide) (hI.rd 79 rfl)
   exact ⟨wanted_plain rfl, wp_of_run (v := .bool true) (w' := X) (by unfold execOp; go_simp) (hI.next (i := 80) rfl rfl (Below.refl _ _))⟩
  ·have e175 := hf.got hw 80 175 (.bool true) rfl (by kernel_rfl) (by rw [hsz]; decide) (hI.rd 80 rfl)
   exact ⟨wanted_plain rfl, wp_of_run (v := .bool true) (w' := X) (by unfold execOp; go_simp) (hI.next (i := 81) rfl rfl (Below.refl _ _))⟩
  ·have e17 : b.tmps[17]?.getD undef = .slice AW 1 cW := (hf.old 17 (by kernel_rfl)).trans s17
   have eg := hf.got hw 81 176 (.bool true) rfl (by kernel_rfl) (by rw [hsz]; decide) (hI.rd 81 rfl)
   refine ⟨wanted_of rfl (k := 81) (d := 176) rfl eg, ?_⟩
   clear eg
   exact wp_of_run (v := .slice AW 1 cW) (w' := X) (by unfold execOp; go_simp) (hI.next (i := 82) rfl rfl (Below.refl _ _))
  ·have eg := hf.got hw 81 176 (.bool true) rfl (by kernel_rfl) (by rw [hsz]; decide) (hI.rd 81 rfl)
   refine ⟨wanted_of rfl (k := 81) (d := 176) rfl eg, ?_⟩
   clear eg
   exact wp_of_run (v := .slice (some ⟨X.heap.size, 0, none⟩) 1 1) (w' := X.alloc (.cells #[.int .i64 0] 3)) (by unfold execOp; go_simp) (hI.made (i := 83) rfl)
  ·have e177 := hf.got hw 82 177 (.slice AW 1 cW) rfl (by kernel_rfl) (by rw [hsz]; decide) (hI.rd 82 rfl)
   have h83 : L 83 = true := done_of hw 83 (by kernel_rfl)
   obtain ⟨gb, hgb, hgx⟩ := hI.sl 83 1 #[.int .i64 0] 3 rfl h83
   have e178 : b.tmps[178]?.getD undef = .slice (some ⟨gb, 0, none⟩) 1 1 := (hf.new 83 178 rfl h83 (by rw [hsz]; decide)).trans hgb
   have eg := hf.got hw 81 176 (.bool true) rfl (by kernel_rfl) (by rw [hsz]; decide) (hI.rd 81 rfl)
   refine ⟨wanted_of rfl (k := 81) (d := 176) rfl eg, ?_⟩
   clear eg
   refine wp_of_call (f := 16) (args := #[.slice AW 1 cW, .slice (some ⟨gb, 0, none⟩) 1 1]) (run_call_clo (.func 16) _ _ rfl (c := #[]) rfl enterA30 (by simp [eval_tmp e177, eval_tmp e178])) ?_
   refine (ints_lit (rdX HRW hI.bel) rfl (by simp) rfl hgx).mono ?_
   rintro e wz ⟨rfl, hbz⟩
   exact ⟨_, rfl, hI.next (i := 84) rfl rfl hbz⟩
  ·have e176 := hf.got hw 81 176 (.bool true) rfl (by kernel_rfl) (by rw [hsz]; decide) (hI.rd 81 rfl)
   have e179 := hf.got hw 84 179 (.bool true) rfl (by kernel_rfl) (by rw [hsz]; decide) (hI.rd 84 rfl)
   exact ⟨wanted_plain rfl, wp_of_run (v := .bool true) (w' := X) (by unfold execOp; go_simp) (hI.next (i := 85) rfl rfl (Below.refl _ _))⟩
  ·have e180 := hf.got hw 85 180 (.bool true) rfl (by kernel_rfl) (by rw [hsz]; decide) (hI.rd 85 rfl)
   exact ⟨wanted_plain rfl, wp_of_run (v := .bool true) (w' := X) (by unfold execOp; go_simp) (hI.next (i := 86) rfl rfl (Below.refl _ _))⟩
  ·have e19 : b.tmps[19]?.getD undef = .int .i64 60 := (hf.old 19 (by kernel_rfl)).trans s19
   have eg := hf.got hw 86 181 (.bool true) rfl (by kernel_rfl) (by rw [hsz]; decide) (hI.rd 86 rfl)
   refine ⟨wanted_of rfl (k := 86) (d := 181) rfl eg, ?_⟩
   clear eg
   exact wp_of_run (v := .int .i64 60) (w' := X) (by unfold execOp; go_simp) (hI.next (i := 87) rfl rfl (Below.refl _ _))
  ·have e182 := hf.got hw 87 182 (.int .i64 60) rfl (by kernel_rfl) (by rw [hsz]; decide) (hI.rd 87 rfl)
   have eg := hf.got hw 86 181 (.bool true) rfl (by kernel_rfl) (by rw [hsz]; decide) (hI.rd 86 rfl)
   refine ⟨wanted_of rfl (k := 86) (d := 181) rfl eg, ?_⟩
   clear eg
   exact wp_of_run (v := .bool true) (w' := X) (by unfold execOp; go_simp) (hI.next (i := 88) rfl rfl (Below.refl _ _))
  ·have e181 := hf.got hw 86 181 (.bool true) rfl (by kernel_rfl) (by rw [hsz]; decide) (hI.rd 86 rfl)
   have e183 := hf.got hw 88 183 (.bool true) rfl (by kernel_rfl) (by rw [hsz]; decide) (hI.rd 88 rfl)
   exact ⟨wanted_plain rfl, wp_of_run (v := .bool true) (w' := X) (by unfold execOp; go_simp) (hI.next (i := 89) rfl rfl (Below.refl _ _))⟩
  ·have e184 := hf.got hw 89 184 (.bool true) rfl (by kernel_rfl) (by rw [hsz]; decide) (hI.rd 89 rfl)
   exact ⟨wanted_plain rfl, wp_of_run (v := .bool true) (w' := X) (by unfold execOp; go_simp) (hI.next (i := 90) rfl rfl (Below.refl _ _))⟩
  ·have e21 : b.tmps[21]?.getD undef = .string textX := (hf.old 21 (by kernel_rfl)).trans s21
   have eg := hf.got hw 90 185 (.bool true) rfl (by kernel_rfl) (by rw [hsz]; decide) (hI.rd 90 rfl)
   refine ⟨wanted_of rfl (k := 90) (d := 185) rfl eg, ?_⟩
   clear eg
   exact wp_of_run (v := .string textX) (w' := X) (by unfold execOp; go_simp) (hI.next (i := 91) rfl rfl (Below.refl _ _))
  ·have eg := hf.got hw 90 185 (.bool true) rfl (by kernel_rfl) (by rw [hsz]; decide) (hI.rd 90 rfl)
   refine ⟨wanted_of rfl (k := 90) (d := 185) rfl eg, ?_⟩
   clear eg
   refine wp_of_call (f := 31) (args := #[]) (run_call_clo (.func 31) _ _ rfl (c := #[]) rfl enterA67 rfl) ?_
   refine (text_lit X).mono ?_
   rintro e wz ⟨rfl, hwz⟩
   subst wz
   exact ⟨_, rfl, hI.next (i := 92) rfl rfl (Below.refl _ _)⟩
  ·have e186 := hf.got hw 91 186 (.string textX) rfl (by kernel_rfl) (by rw [hsz]; decide) (hI.rd 91 rfl)
   have e187 := hf.got hw 92 187 (.string textX) rfl (by kernel_rfl) (by rw [hsz]; decide) (hI.rd 92 rfl)
   have eg := hf.got hw 90 185 (.bool true) rfl (by kernel_rfl) (by rw [hsz]; decide) (hI.rd 90 rfl)
   refine ⟨wanted_of rfl (k := 90) (d := 185) rfl eg, ?_⟩
   clear eg
   have htx : (textX.toList == textX.toList) = true := beq_self_eq_true _
   exact wp_of_run (v := .bool true) (w' := X) (by unfold execOp; go_simp) (hI.next (i := 93) rfl rfl (Below.refl _ _))
  ·have e185 := hf.got hw 90 185 (.bool true) rfl (by kernel_rfl) (by rw [hsz]; decide) (hI.rd 90 rfl)
   have e188 := hf.got hw 93 188 (.bool true) rfl (by kernel_rfl) (by rw [hsz]; decide) (hI.rd 93 rfl)
   exact ⟨wanted_plain rfl, wp_of_run (v := .bool true) (w' := X) (by unfold execOp; go_simp) (hI.next (i := 94) rfl rfl (Below.refl _ _))⟩
  ·have e189 := hf.got hw 94 189 (.bool true) rfl (by kernel_rfl) (by rw [hsz]; decide) (hI.rd 94 rfl)
   exact ⟨wanted_plain rfl, wp_of_run (v := .bool true) (w' := X) (by unfold execOp; go_simp) (hI.next (i := 95) rfl rfl (Below.refl _ _))⟩
  ·have e23 : b.tmps[23]?.getD undef = .pointer (some ⟨gr, 0, none⟩) := (hf.old 23 (by kernel_rfl)).trans s23
   have eg := hf.got hw 95 190 (.bool true) rfl (by kernel_rfl) (by rw [hsz]; decide) (hI.rd 95 rfl)
   refine ⟨wanted_of rfl (k := 95) (d := 190) rfl eg, ?_⟩
   clear eg
   have x0 := cellOf (rowX HBR hI.bel) 0 (v := .int .i64 100) rfl
   have x1 := cellOf (rowX HBR hI.bel) 1 (v := .slice AR 4 cR) rfl
   have x2 := cellOf (rowX HBR hI.bel) 2 (v := .slice DR 4 dR) rfl
   exact wp_of_run (v := .agg #[.int .i64 100, .slice AR 4 cR, .slice DR 4 dR]) (w' := X) (by unfold execOp; go_simp) (hI.next (i := 96) rfl rfl (Below.refl _ _))
  ·have e1 : b.tmps[1]?.getD undef = .pointer (some ⟨w5.heap.size, 0, none⟩) := (hf.old 1 (by kernel_rfl)).trans s1
   have eg := hf.got hw 95 190 (.bool true) rfl (by kernel_rfl) (by rw [hsz]; decide) (hI.rd 95 rfl)
   refine ⟨wanted_of rfl (k := 95) (d := 190) rfl eg, ?_⟩
   clear eg
   obtain ⟨⟨x0, x1, x2⟩, _⟩ := (HA.next hI.bel).cells
   exact wp_of_run (v := .agg #[.int .i64 100, .slice A1 4 c1, .slice D1 4 d1]) (w' := X) (by unfold execOp; go_simp) (hI.next (i := 97) rfl rfl (Below.refl _ _))
  ·have e191 := hf.got hw 96 191 (.agg #[.int .i64 100, .slice AR 4 cR, .slice DR 4 dR]) rfl (by kernel_rfl) (by rw [hsz]; decide) (hI.rd 96 rfl)
   have e192 := hf.got hw 97 192 (.agg #[.int .i64 100, .slice A1 4 c1, .slice D1 4 d1]) rfl (by kernel_rfl) (by rw [hsz]; decide) (hI.rd 97 rfl)
   have eg := hf.got hw 95 190 (.bool true) rfl (by kernel_rfl) (by rw [hsz]; decide) (hI.rd 95 rfl)
   refine ⟨wanted_of rfl (k := 95) (d := 190) rfl eg, ?_⟩
   clear eg
   refine wp_of_call (f := 34) (args := #[.agg #[.int .i64 100, .slice AR 4 cR, .slice DR 4 dR], .agg #[.int .i64 100, .slice A1 4 c1, .slice D1 4 d1]]) (run_call_clo (.func 34) _ _ rfl (c := #[]) rfl enterA41 (by simp [eval_tmp e191, eval_tmp e192])) ?_
   refine (aw_same (HA.next hI.bel) (rdsX HRS hI.bel)).mono ?_
   rintro e wz ⟨rfl, hbz⟩
   exact ⟨_, rfl, hI.next (i := 98) rfl rfl hbz⟩
  ·have e190 := hf.got hw 95 190 (.bool true) rfl (by kernel_rfl) (by rw [hsz]; decide) (hI.rd 95 rfl)
   have e193 := hf.got hw 98 193 (.bool true) rfl (by kernel_rfl) (by rw [hsz]; decide) (hI.rd 98 rfl)
   exact ⟨wanted_plain rfl, wp_of_run (v := .bool true) (w' := X) (by unfold execOp; go_simp) (hI.next (i := 99) rfl rfl (Below.refl _ _))⟩
  ·have e194 := hf.got hw 99 194 (.bool true) rfl (by kernel_rfl) (by rw [hsz]; decide) (hI.rd 99 rfl)
   exact ⟨wanted_plain rfl, wp_of_run (v := .bool true) (w' := X) (by unfold execOp; go_simp) (hI.next (i := 100) rfl rfl (Below.refl _ _))⟩
  ·have eg := hf.got hw 100 195 (.bool true) rfl (by kernel_rfl) (by rw [hsz]; decide) (hI.rd 100 rfl)
   refine ⟨wanted_of rfl (k := 100) (d := 195) rfl eg, ?_⟩
   clear eg
   refine wp_of_call (f := 35) (args := #[.string ⟨#[97, 45, 57]⟩]) (run_call_clo (.func 35) _ _ rfl (c := #[]) rfl enterA18 rfl) ?_
   refine (aw_nameY X).mono ?_
   rintro e wz ⟨rfl, hbz⟩
   exact ⟨_, rfl, hI.next (i := 101) rfl rfl hbz⟩
  ·have e195 := hf.got hw 100 195 (.bool true) rfl (by kernel_rfl) (by rw [hsz]; decide) (hI.rd 100 rfl)
   have e196 := hf.got hw 101 196 (.bool true) rfl (by kernel_rfl) (by rw [hsz]; decide) (hI.rd 101 rfl)
   exact ⟨wanted_plain rfl, wp_of_run (v := .bool true) (w' := X) (by unfold execOp; go_simp) (hI.next (i := 102) rfl rfl (Below.refl _ _))⟩
  ·have e197 := hf.got hw 102 197 (.bool true) rfl (by kernel_rfl) (by rw [hsz]; decide) (hI.rd 102 rfl)
   exact ⟨wanted_plain rfl, wp_of_run (v := .bool true) (w' := X) (by unfold execOp; go_simp) (hI.next (i := 103) rfl rfl (Below.refl _ _))⟩
  ·have eg := hf.got hw 103 198 (.bool true) rfl (by kernel_rfl) (by rw [hsz]; decide) (hI.rd 103 rfl)
   refine ⟨wanted_of rfl (k := 103) (d := 198) rfl eg, ?_⟩
   clear eg
   refine wp_of_call (f := 35) (args := #[.string ⟨#[57, 97]⟩]) (run_call_clo (.func 35) _ _ rfl (c := #[]) rfl enterA18 rfl) ?_
   refine (aw_nameN X).mono ?_
   rintro e wz ⟨rfl, hbz⟩
   exact ⟨_, rfl, hI.next (i := 104) rfl rfl hbz⟩
  ·have e199 := hf.got hw 104 199 (.bool false) rfl (by kernel_rfl) (by rw [hsz]; decide) (hI.rd 104 rfl)
   have eg := hf.got hw 103 198 (.bool true) rfl (by kernel_rfl) (by rw [hsz]; decide) (hI.rd 103 rfl)
   refine ⟨wanted_of rfl (k := 103) (d := 198) rfl eg, ?_⟩
   clear eg
   exact wp_of_run (v := .bool true) (w' := X) (by unfold execOp; go_simp) (hI.next (i := 105) rfl rfl (Below.refl _ _))
  ·have e198 := hf.got hw 103 198 (.bool true) rfl (by kernel_rfl) (by rw [hsz]; decide) (hI.rd 103 rfl)
   have e200 := hf.got hw 105 200 (.bool true) rfl (by kernel_rfl) (by rw [hsz]; decide) (hI.rd 105 rfl)
   exact ⟨wanted_plain rfl, wp_of_run (v := .bool true) (w' := X) (by unfold execOp; go_simp) (hI.next (i := 106) rfl rfl (Below.refl _ _))⟩
  ·have e201 := hf.got hw 106 201 (.bool true) rfl (by kernel_rfl) (by rw [hsz]; decide) (hI.rd 106 rfl)
   exact ⟨wanted_plain rfl, wp_of_run (v := .bool true) (w' := X) (by unfold execOp; go_simp) (hI.next (i := 107) rfl rfl (Below.refl _ _))⟩
 ·intro vs X hI
  refine fill_end (K := fun a' => Exit.then _ _ .normal a' X) (by kernel_rfl) 107 0 rfl (by rw [hsz]; decide) fun a' h1 h2 => ?_
  have h3 := h1.trans (hI.rd 107 rfl rfl)
  have hb := hI.bel
  clear hI h1
  simp only [Exit.then]
  go_wp2
  exact bodyPost_ret (v := .bool true) (by simp [results, Tryz.results5]; exact h3) (h2.trans hdf) ⟨rfl, HA.below.trans (hb.mono HA.below.size)⟩
end Go.Proofs.YthnimhnlnddnoaaGreatDoor
