/- Parts of the proof of TpP: RvY, Con. -/
import Derived.Test.YthnimhnlnddnoaaGreatDoorH10
import Derived.WalkKit
import Derived.Deep.Quiet
import Derived.Test.YthnimhnlnddnoaaGreatDoorH9
set_option linter.unusedSimpArgs false
set_option linter.unusedVariables false
set_option maxRecDepth 100000
set_option maxHeartbeats 8000000
namespace Go.Proofs.YthnimhnlnddnoaaGreatDoor
open Go.RowKit Go.Shelf
attribute [local go_sem] Oper.semAt_some
theorem ck_zero {r : List RvR} (hg : RGood r) : ckP (mouR r r.length) = 0 ∧ ckE (mouR r r.length) = 0 := by
 have hl := hg.len
 have h := hg.ends 0 (by omega)
 have := mouR_pos (r := r) h (loc_walk hg.loc r.length (by omega : 0 < r.length))
 unfold ckP ckE
 rw [if_neg (by omega), if_neg (by omega)]
 exact ⟨rfl, rfl⟩
theorem rvcheck_good {B : Nat} {w : World} {v : Value} {r : List RvR} (hs : Rd RvAt 4 B w v r) (hg : RGood r) (hB : B ≤ w.heap.size) :
  Calls Tryz.prog 41 #[v] w fun e w' => e = .returned (.tuple #[.int .i64 0, .int .i64 0, .int .i64 0]) ∧ Below w.heap.size w w' := by
 have := rvcheck_any hs hg.loc (fun _ => hg.ends) hB
 rwa [(ck_zero hg).1, (ck_zero hg).2] at this
theorem run_build97 (A : Option Addr) (n c : Nat) (w : World) : (Instr.build 97 #[(0, .slice A n c)]).run Tryz.prog w = .ok (.agg (rivC (.slice A n c) fun _ _ => 0)) w := by kernel_rfl
theorem run_box97 (A : Option Addr) (n c : Nat) (w : World) : (Instr.box 97 (.agg (rivC (.slice A n c) fun _ _ => 0))).run Tryz.prog w = .ok (.pointer (some ⟨w.heap.size, 0, none⟩)) (w.alloc (.cells (rivC (.slice A n c) fun _ _ => 0) 97)) := by kernel_rfl
theorem exec_build {P : Program} {o : Oper} {a : Act} {w w' : World} (T : TypeId) (parts : Array (Nat × Operand)) (ho : o.op = .build T parts) {vs : Array (Nat × Value)}
  (hv : parts.toList.map (fun (i, x) => (i, a.eval x)) = vs.toList) {v : Value} (hr : (Instr.build T vs).run P w = .ok v w') : (execOp a.eval o).run P w = .ok (.value v) w' := by
 unfold execOp
 rw [ho]
 have hv : parts.map (fun (i, x) => (i, a.eval x)) = vs := by
  rw [← Array.toList_inj, Array.toList_map]
  exact hv
 simp only [Sem.run_bind, Sem.run_pure, hv, hr, Result.andThen_ok]
theorem exec_box {P : Program} {o : Oper} {a : Act} {w w' : World} (T : TypeId) (x : Operand) (ho : o.op = .box T x) {u v : Value} (hx : a.eval x = u) (hr : (Instr.box T u).run P w = .ok v w') : (execOp a.eval o).run P w = .ok (.value v) w' := by
 unfold execOp
 rw [ho]
 simp only [Sem.run_bind, Sem.run_pure, hx, hr, Result.andThen_ok]
theorem rbelow_any (w : World) (i : Int) (A : Option Addr) (n c : Nat) :
  Calls Tryz.prog 49 #[.slice A n c, .int .i64 i] w fun e w' =>
   e = .returned (.func (.func 86) #[] #[.pointer (some ⟨w.heap.size + 1, 0, none⟩), .pointer (some ⟨w.heap.size, 0, none⟩)]) ∧
   w' = (w.alloc (.cells #[.slice A n c] 95)).alloc (.cells #[.int .i64 i] 3) := by
 go_enter Tryz.func49, Tryz.ntmps49
 go_wp2
 go_ret
 simp
structure OpJ (w : World) (b : Nat) (sl : Value) (f : Nat → Nat → Int) (W : World) : Prop where
 below : Below w.heap.size w W
 x : W.heap[w.heap.size]? = some (.cells #[.pointer (some ⟨b, 0, none⟩)] 87)
 riv : RivAt W b sl f
theorem OpJ.step {w : World} {b : Nat} {sl : Value} {f : Nat → Nat → Int} {W W' : World} (h : OpJ w b sl f W) (hb : Below W.heap.size W W') : OpJ w b sl f W' :=
 ⟨h.below.trans (hb.mono h.below.size), (hb.block _ (lt_of_block h.x)).trans h.x, h.riv.below hb⟩
theorem OpJ.set_ {w : World} {b : Nat} {sl : Value} {f : Nat → Nat → Int} {W : World} (h : OpJ w b sl f W) (hb : w.heap.size < b) {i k : Nat} (hi : i < 9) (hk : k < 9) (x : Int) :
  OpJ w b sl (setF f i k x) ((W.setCell ⟨b, 1 + i * 9 + k, none⟩ (.int .i64 x)).drew) :=
 ⟨(h.below.setCell (by show w.heap.size ≤ b; omega) _).drew, (Below.heap_setCell _ _ _ _ (by show w.heap.size ≠ b; omega)).trans h.x, h.riv.set_ hi hk x⟩
theorem results46 {w : World} {a : Addr} {v : Value} {e : Int} {tmps : Array Value} (h1 : w.cell? a = some v) (t1 : tmps[2]?.getD undef = .pointer (some a)) (t2 : tmps[3]?.getD undef = .int .i64 e) :
  (results Tryz.f46 tmps).run Tryz.prog w = .ok (.tuple #[v, .int .i64 e]) w := by
 have hl : (loadVar 87 a).run Tryz.prog w = .ok v w := by simp [loadVar, go_sem, h1]
 simp [results, Tryz.results46, t1, t2, asAddr, hl]
theorem ropen_any {B : Nat} {w : World} {v : Value} {r : List RvR} (hs : Rd RvAt 4 B w v r) (hg : RGood r) (hB : B ≤ w.heap.size) :
  Calls Tryz.prog 46 #[v] w fun e w' => ∃ b, e = .returned (.tuple #[.pointer (some ⟨b, 0, none⟩), .int .i64 0]) ∧ LookAt w' b v r ∧ w.heap.size ≤ b ∧ Below w.heap.size w w' := by
 obtain ⟨A, cap, rfl, h5, h6, _⟩ := id hs
 have hlen := hg.len
 have HG0 := Lib.hid hg
 have HS0 := Lib.hid hs
 obtain ⟨W1, hW1, r1, z1, d1⟩ := box_any w #[.pointer none] 87
 have HS := Lib.hid (hs.below (d1.mono hB))
 have HC := Lib.hid (rvcheck_good (hs.below (d1.mono hB)) hg (Nat.le_trans hB d1.size))
 have HB1 := Lib.hid d1
 have HR1 := Lib.hid r1
 clear hs hg h5 h6 r1 d1 z1
 refine calls_of_wp_marks Tryz.func46 rfl ?_
 simp only [Tryz.ntmps46, List.size_toArray, List.length_cons, List.length_nil, Nat.reduceAdd, Nat.reduceSub, Array.replicate_succ,
   Array.replicate_zero, List.push_toArray, List.append_toArray, List.nil_append, List.cons_append]
 go_upto_region 1 with (fail)
 rw [← hW1]
 clear hW1
 go_upto_region 4 with (go_at_call 41; refine HC.out.mono ?_; rintro e w2 ⟨rfl, hb2⟩)
 have hk2 := (hb2.block _ (lt_of_block HR1.out)).trans HR1.out
 obtain ⟨W3, hW3, r3, z3, d3⟩ := box_any w2 (rivC (.slice A r.length cap) fun _ _ => 0) 97
 have hbx : (Instr.box 97 (.agg (rivC (.slice A r.length cap) fun _ _ => 0))).run Tryz.prog w2 = .ok (.pointer (some ⟨w2.heap.size, 0, none⟩)) W3 := by rw [hW3]; exact run_box97 _ _ _ _
 have hk3 := (d3.block _ (lt_of_block hk2)).trans hk2
 have q0 := cellOf hk3 0 (v := .pointer none) rfl
 have f0 : W3.frozen? ⟨w.heap.size, 0, none⟩ = false := by simp [World.frozen?, hk3]
 have HBX := Lib.hid hbx
 have hw2 : w.heap.size < w2.heap.size := lt_of_block hk2
 have HK3 := Lib.hid hk3
 have HR3 := Lib.hid (show RivAt W3 w2.heap.size (.slice A r.length cap) (fun _ _ => 0) from r3)
 have HB3 := Lib.hid ((HB1.out.trans (hb2.mono HB1.out.size)).trans (d3.mono (by omega)))
 clear hbx hk2 r3 hk3 d3 z3 hW3
 go_upto_region 5 with (first | (refine wpList_exec rfl (exec_build 97 _ rfl (vs := #[(0, .slice A r.length cap)]) rfl (run_build97 _ _ _ _)) ?_) | (refine wpList_exec rfl (exec_box 97 (.tmp 18) rfl rfl HBX.out) ?_))
 obtain ⟨b, hb⟩ : ∃ b, b = w2.heap.size := ⟨_, rfl⟩
 rw [← hb] at hw2 ⊢
 have hr3 := HR3.out
 rw [← hb] at hr3
 have hx4 : (W3.setCell ⟨w.heap.size, 0, none⟩ (.pointer (some ⟨b, 0, none⟩))).heap[w.heap.size]? = some (.cells #[.pointer (some ⟨b, 0, none⟩)] 87) := heap_setCell_row HK3.out _
 have hr4 : RivAt (W3.setCell ⟨w.heap.size, 0, none⟩ (.pointer (some ⟨b, 0, none⟩))) b (.slice A r.length cap) (dropP r 0) := by
  refine RivAt.congr (f := fun _ _ => 0) ?_ (fun _ _ _ _ => by unfold dropP; rw [if_neg (by omega)])
  exact (Below.heap_setCell _ _ _ _ (by show b ≠ w.heap.size; omega)).trans hr3
 have hb4 : Below w.heap.size w (W3.setCell ⟨w.heap.size, 0, none⟩ (.pointer (some ⟨b, 0, none⟩))) := HB3.out.setCell (Nat.le_refl _) _
 generalize W3.setCell ⟨w.heap.size, 0, none⟩ (.pointer (some ⟨b, 0, none⟩)) = W4 at *
 generalize Value.agg (rivC (.slice A r.length cap) fun _ _ => 0) = ag
 have HR4 := Lib.hid hr4
 have HX4 := Lib.hid hx4
 have HB4 := Lib.hid hb4
 clear hb hr3 hx4 hr4 hb4 HR3 HK3 HBX HB3 HR1 HC q0 f0
 go_wp2
 refine wp_loop (fun a2 w2 => ∃ (u4 u5 u6 u7 u22 u23 u24 u25 u26 u27 u28 u29 u30 u31 u32 u33 u34 u35 u36 u37 u38 u39 u40 u41 u42 u43 u46 u47 u48 u49 u50 u51 u52 u53 u54 : Value) (ds : List Deferred), (fun i w2 ds => ∃ k : Nat, k ≤ r.length ∧ i = .int .i64 k ∧ OpJ w b (.slice A r.length cap) (dropP r k) w2 ∧ Marks w.heap.size w2.heap.size w2 ds) u22 w2 ds ∧ a2 = { tmps := #[Value.slice A r.length cap, undef, Value.pointer (some { block := w.heap.size, off := 0 }), Value.int IntKind.i64 0, u4, u5, u6, u7, Value.tuple #[Value.int IntKind.i64 0, Value.int IntKind.i64 0, Value.int IntKind.i64 0], Value.slice A r.length cap, Value.tuple #[Value.int IntKind.i64 0, Value.int IntKind.i64 0, Value.int IntKind.i64 0], Value.int IntKind.i64 0, Value.int IntKind.i64 0, Value.int IntKind.i64 0, Value.int IntKind.i64 0, Value.bool false, undef, Value.slice A r.length cap, ag, Value.pointer (some { block := b, off := 0 }), Value.slice A r.length cap, Value.int IntKind.i64 ↑r.length, u22, u23, u24, u25, u26, u27, u28, u29, u30, u31, u32, u33, u34, u35, u36, u37, u38, u39, u40, u41, u42, u43, undef, undef, u46, u47, u48, u49, u50, u51, u52, u53, u54, undef], defers := ds }) (fun a2 _ => (fun i => r.length - (intOf i).toNat) (a2.tmps.getD 22 undef)) ?start ?round
 case start =>
  repeat apply Exists.intro
  refine ⟨?_, rfl⟩
  exact ⟨0, Nat.zero_le _, rfl, ⟨HB4.out, HX4.out, HR4.out⟩, trivial⟩
 case round =>
  intro a2 wr hinv
  obtain ⟨u4, u5, u6, u7, u22, u23, u24, u25, u26, u27, u28, u29, u30, u31, u32, u33, u34, u35, u36, u37, u38, u39, u40, u41, u42, u43, u46, u47, u48, u49, u50, u51, u52, u53, u54, ds, hrel, ha⟩ := hinv
  subst ha
  try dsimp only
  clear HB4 HX4 HR4
  obtain ⟨k, hk, rfl, hJ, hM⟩ := hrel
  by_cases hlt : k < r.length
  ·obtain ⟨W5, hW5, r5, z5, d5⟩ := box_any wr #[.int .i64 k] 3
   have HJ5 := Lib.hid (hJ.step d5)
   have HM5 := Lib.hid (hM.nc (NC.of_below (NC.refl _) d5))
   have HR5 := Lib.hid r5
   have hgb : wr.heap.size ≠ b := by have := hJ.riv.lt; omega
   clear hJ hM d5 r5 z5
   go_upto_region 8 with (fail)
   rw [← hW5]
   clear hW5
   generalize wr.heap.size = g at *
   go_wp2
   go_loopw [27] (fun i wi => ∃ q : Nat, q ≤ r.length ∧ i = .int .i64 q ∧ OpJ w b (.slice A r.length cap) (dropI r k q) wi ∧ wi.heap[g]? = some (.cells #[.int .i64 k] 3) ∧ Marks w.heap.size g wi ds) (fun i _ => r.length - (intOf i).toNat)
   case atStart => exact ⟨0, Nat.zero_le _, rfl, by rw [dropI_zero]; exact HJ5.out, HR5.out, HM5.out⟩
   case round =>
    clear HJ5 HM5 HR5
    obtain ⟨q, hq, rfl, hJ, hg, hM⟩ := hrel
    by_cases hlq : q < r.length
    ·have x0 := cellOf hJ.x 0 (v := .pointer (some ⟨b, 0, none⟩)) rfl
     have g0 := cellOf hg 0 (v := .int .i64 k) rfl
     have e0 := hJ.riv.cell (i := k) (k := q) (by omega) (by omega)
     have f1 := hJ.riv.frozen (1 + k * 9 + q)
     have hq9 : q < 9 := by omega
     have hk9 : k < 9 := by omega
     have HJ := Lib.hid hJ
     have HG := Lib.hid hg
     have HM := Lib.hid hM
     clear hJ hg hM
     generalize dropI r k q k q = ov at *
     go_upto_region 11 with (fail)
     go_region
     simp only [Exit.inBlock, Exit.then]
     go_wp2
     go_roundw
     case rel => exact ⟨q + 1, by omega, by go_num, by rw [← dropI_set]; exact HJ.out.set_ hw2 hk9 hq9 (-1), (Below.heap_setCell _ _ _ _ (by show g ≠ b; exact hgb)).trans HG.out, HM.out.nc ((NC.refl _).setCell _ _)⟩
     case measure => simp [intOf]; omega
    ·have hqn : q = r.length := by omega
     have x0 := cellOf hJ.x 0 (v := .pointer (some ⟨b, 0, none⟩)) rfl
     have g0 := cellOf hg 0 (v := .int .i64 k) rfl
     have p0 := hJ.riv.pts
     rw [hqn, dropI_all] at hJ
     have HJ := Lib.hid hJ
     have HG := Lib.hid hg
     have HM := Lib.hid hM
     clear hJ hg hM hqn
     go_upto_region 13 with (fail)
     refine region_quiet_tail (C := fun w' => ∃ n, w' = wr.drewN n) 5 (by kernel_rfl) (by kernel_rfl) ⟨1, rfl⟩ ?_
     simp only [List.take_succ_cons, List.take_zero, List.drop_succ_cons, List.drop_zero]
     repeat (first | go_big_quiet_step (fail) | quiet_step (fail))
     refine wpQuiet_nil ?_
     rintro _ ⟨n1, rfl⟩
     obtain ⟨wq, hwq⟩ : ∃ wq, wq = wr.drewN n1 := ⟨_, rfl⟩
     rw [← hwq]
     have HQ := Lib.hid hwq
     have hsq : wq.heap.size = wr.heap.size := by rw [hwq]; rfl
     have HSQ := Lib.hid hsq
     clear hsq
     clear hwq x0 g0 p0
     go_wp2_with (go_at_call 49; refine (rbelow_any _ _ _ _ _).mono ?_; rintro e w' ⟨rfl, rfl⟩)
     refine below_law (w := wq) HG0.out hlt (B := w.heap.size) (A := A) (c := cap) ?hs ?hB rfl rfl
      (fun q W => W.heap[w.heap.size]? = some (.cells #[.pointer (some ⟨b, 0, none⟩)] 87) ∧ RivAt W b (.slice A r.length cap) (dropJ r k q) ∧ W.heap[g]? = some (.cells #[.int .i64 k] 3) ∧ Marks w.heap.size g W ds) (fun _ _ => False) ?hE ?hX rfl ?h0 ?hround ?hdone ?hstop
     case hs =>
      have h1 := (HS0.out.below (HJ.out.below.mono hB)).mono hB
      rw [HQ.out]
      exact h1.qt ⟨n1, rfl⟩
     case hB => rw [HQ.out]; exact HJ.out.below.size
     case hE =>
      rintro q A B ⟨h1, h2, h3, h4⟩ hst
      exact ⟨(hst.low _ (by have := lt_of_block HJ.out.x; have := HSQ.out; omega)).trans h1, (hst.low _ (by have := HJ.out.riv.lt; have := HSQ.out; omega)).trans h2, (hst.low _ (by have := lt_of_block HG.out; have := HSQ.out; omega)).trans h3, h4.keep fun b o hb ho _ => (hst.low _ (by have := lt_of_block HG.out; have := HSQ.out; omega)).trans ho⟩
     case hX => exact fun _ _ _ h => h.elim
     case h0 =>
      have hb0 : Below wq.heap.size wq ((wq.alloc (.cells #[.slice A r.length cap] 95)).alloc (.cells #[.int .i64 k] 3)) := ((Below.refl _ _).alloc (Nat.le_refl _) _).alloc (by simp) _
      have hr : RivAt wq b (.slice A r.length cap) (dropJ r k 0) := by rw [HQ.out]; exact HJ.out.riv
      refine ⟨(hb0.block _ (by have := lt_of_block HJ.out.x; have := HSQ.out; omega)).trans (by rw [HQ.out]; exact HJ.out.x), hr.below hb0, (hb0.block _ (by have := lt_of_block HG.out; have := HSQ.out; omega)).trans (by rw [HQ.out]; exact HG.out), ?_⟩
      have hm : Marks w.heap.size g wq ds := by rw [HQ.out]; exact HM.out.keep fun _ _ _ h _ => h
      exact hm.nc (NC.of_below (NC.refl _) hb0)
     case hstop => exact fun _ _ _ _ _ h => h.elim
     case hdone =>
      rintro d W hd hbW ⟨h1, h2, h3, h4⟩ hk
      rw [dropJ_all] at h2
      have H1 := Lib.hid h1
      have H2 := Lib.hid h2
      have H4 := Lib.hid h4
      have HD := Lib.hid hk
      have HBW := Lib.hid hbW
      clear h1 h2 h3 h4 hk hbW
      simp only [Exit.inBlock, Exit.then]
      go_wp2
      refine ⟨⟨_, _, _, _, _, _, _, _, _, _, _, _, _, _, _, _, _, _, _, _, _, _, _, _, _, _, _, _, _, _, _, _, _, _, _, _, ?rel, rfl⟩, ?measure⟩
      case rel =>
       have e1 : Below w.heap.size w W := by
        refine HJ.out.below.trans (Below.trans ?_ HBW.out)
        rw [HQ.out]
        exact below_drewN (Below.refl _ _) n1
       have e2 : w.heap.size ≤ d := by have := lt_of_block HJ.out.x; have := HSQ.out; omega
       have e3 : g ≤ d := by have := lt_of_block HG.out; have := HSQ.out; omega
       exact ⟨k + 1, by omega, by go_num, ⟨e1, H1.out, H2.out⟩, Marks.cons e2 (lt_of_block HD.out) HD.out (H4.out.up e3)⟩
      case measure => simp [intOf]; omega
     case hround =>
      rintro l q p W hp hbW ⟨h1, h2, h3, h4⟩ hl1 hl2
      generalize hT : Array.foldl _ _ _ = T
      simp at hT
      subst hT
      gi_wp2
      refine ⟨NC.refl _, fun W₂ hbk hsz => ?_⟩
      obtain ⟨p1, p2⟩ := p
      have q1 := (belL_at HG0.out hlt hp).1
      have hb9 : b < wq.heap.size := by have := HJ.out.riv.lt; have := HSQ.out; omega
      have hg9 : g < wq.heap.size := by have := lt_of_block HG.out; have := HSQ.out; omega
      have hx9 : w.heap.size < wq.heap.size := by omega
      have x0 := cellOf ((hbk.below.block _ (by omega)).trans h1) 0 (v := .pointer (some ⟨b, 0, none⟩)) rfl
      have g0 := cellOf ((hbk.below.block _ (by omega)).trans h3) 0 (v := .int .i64 k) rfl
      have hr2 : RivAt W₂ b (.slice A r.length cap) (dropJ r k q) := (hbk.below.block _ (by omega)).trans h2
      have e0 := hr2.cell (i := k) (k := p1) (by omega) (by simp only at q1; omega)
      have f1 := hr2.frozen (1 + k * 9 + p1)
      have HR2 := Lib.hid hr2
      have H1 := Lib.hid h1
      have H3 := Lib.hid h3
      have H4 := Lib.hid h4
      have HBK := Lib.hid hbk
      have HBW := Lib.hid hbW
      have HP := Lib.hid hp
      simp only at q1
      have hq9 : p1 < 9 := by omega
      have hk9 : k < 9 := by omega
      clear hr2 h1 h2 h3 h4 hbk hbW hp
      generalize dropJ r k q k p1 = ov at *
      gi_wp2
      refine round_quiet_tail (C := fun w' => ∃ n, w' = W₂.drewN n) 8 (by kernel_rfl) (by kernel_rfl) ⟨1, rfl⟩ ?_
      simp only [List.take_succ_cons, List.take_zero, List.drop_succ_cons, List.drop_zero]
      repeat (first | go_big_quiet_step (fail) | quiet_step (fail))
      refine wpQuiet_nil ?_
      rintro _ ⟨n2, rfl⟩
      gi_wp2
      have hmk : Marks w.heap.size g W₂ ds := H4.out.keep fun b o hb ho _ => (HBK.out.below.block _ (by omega)).trans ho
      refine ⟨(NC.refl W₂).setCell _ _, ⟨?_, ?_, ?_⟩, ?_, ?_, ?_, ?_⟩
      ·exact ((below_drewN (HBW.out.trans (HBK.out.below.mono (by omega))) n2).setCell (by show w.heap.size ≤ b; omega) _)
      ·exact (Below.heap_setCell _ _ _ _ (by show wq.heap.size ≠ b; omega)).trans (HBK.out.below.block _ (by omega))
      ·exact (Below.heap_setCell _ _ _ _ (by show wq.heap.size + 1 ≠ b; omega)).trans (HBK.out.below.block _ (by omega))
      ·exact (Below.heap_setCell _ _ _ _ (by show w.heap.size ≠ b; omega)).trans ((HBK.out.below.block _ (by omega)).trans H1.out)
      ·rw [← dropJ_set HP.out q1]
       exact (show RivAt (W₂.drewN n2) b _ _ from HR2.out).set_ hk9 hq9 p2
      ·exact (Below.heap_setCell _ _ _ _ (by show g ≠ b; exact hgb)).trans ((HBK.out.below.block _ (by omega)).trans H3.out)
      ·exact hmk.nc ((NC.refl W₂).setCell _ _)
  ·have hkn : k = r.length := by omega
   subst hkn
   have x0 := cellOf hJ.x 0 (v := .pointer (some ⟨b, 0, none⟩)) rfl
   have fx : wr.frozen? ⟨w.heap.size, 0, none⟩ = false := by have := hJ.x; simp [World.frozen?, this]
   have HJ := Lib.hid hJ
   have HM := Lib.hid hM
   clear hJ hM
   go_wp2
   have hx := heap_setCell_row HJ.out.x (n := 0) (.pointer (some ⟨b, 0, none⟩))
   refine leaves_marks ds _ _ (HM.out.nc ((NC.refl _).setCell _ _)) fun w' hb => ?_
   have e2 := hb.cell (cellOf hx 0 (v := .pointer (some ⟨b, 0, none⟩)) rfl)
   refine ⟨_, results46 e2 rfl rfl, b, rfl, ?_, by omega, ?_⟩
   ·have h3 : RivAt (wr.setCell ⟨w.heap.size, 0, none⟩ (.pointer (some ⟨b, 0, none⟩))) b (.slice A r.length cap) (dropP r r.length) := (Below.heap_setCell _ _ _ _ (by show b ≠ w.heap.size; omega)).trans HJ.out.riv
    exact h3.data fun o ho hd => hb.data _ _ ho hd
   ·exact (HJ.out.below.setCell (Nat.le_refl _) _).trans hb.below
end Go.Proofs.YthnimhnlnddnoaaGreatDoor
namespace Go.Proofs.YthnimhnlnddnoaaGreatDoor
def othN (x : NoteR) : Nat := if x.kind = 1 ∨ x.kind = 2 then 8 else x.b.toNat
def nlo (iv : Int) (x : NoteR) : Int := if x.kind = 2 then x.lo * iv else x.lo
def nhi (iv : Int) (x : NoteR) : Int := if x.kind = 2 then x.hi * iv else x.hi
def bnd (iv wd : Int) (x : NoteR) : Nat → Nat × Nat × Int
 | 0 => (othN x, x.a.toNat, nhi iv x + wd)
 | _ => (x.a.toNat, othN x, wd - nlo iv x)
def bndM (iv wd : Int) (x : NoteR) (b : Mat) : Nat → Mat
 | 0 => b
 | k + 1 => bindR (bnd iv wd x k).1 (bnd iv wd x k).2.1 (bnd iv wd x k).2.2 (bndM iv wd x b k)
def bndB (iv wd : Int) (x : NoteR) (b : Mat) (k : Nat) : Bool := bindB (bnd iv wd x k).1 (bnd iv wd x k).2.1 (bnd iv wd x k).2.2 (bndM iv wd x b k)
def withM (iv wd : Int) (b : Mat) (x : NoteR) : Mat × Bool :=
 if bndB iv wd x b 0 = false then (bndM iv wd x b 1, false) else if bndB iv wd x b 1 = false then (bndM iv wd x b 2, false) else (bndM iv wd x b 2, true)
theorem noteOK_oth {np : Nat} {iv : Int} {x : NoteR} (h : NoteOK np iv x) (hn : np ≤ 8) : othN x < 9 := by
 have := h.b
 unfold othN
 split <;> omega
theorem noteOK_a {np : Nat} {iv : Int} {x : NoteR} (h : NoteOK np iv x) (hn : np ≤ 8) : x.a.toNat < 8 := by
 have := h.a
 omega
theorem noteOK_ends {np : Nat} {iv : Int} {x : NoteR} (h : NoteOK np iv x) (hi : 1 ≤ iv) : -9000 ≤ nlo iv x ∧ nlo iv x ≤ nhi iv x ∧ nhi iv x ≤ 9000 := by
 have hk := h.kind
 have hle := h.le
 unfold nlo nhi
 by_cases k2 : x.kind = 2
 ·obtain ⟨h1, h2, h3⟩ := h.band k2
  rw [if_pos k2, if_pos k2]
  have a1 : 0 ≤ x.lo * iv := Int.mul_nonneg h1 (by omega)
  have a2 : x.lo * iv ≤ x.hi * iv := Int.mul_le_mul_of_nonneg_right hle (by omega)
  omega
 ·rw [if_neg k2, if_neg k2]
  have h1 := h.spot
  have h3 := h.lake
  have h4 := h.slope
  omega
theorem bnd_lt {np : Nat} {iv wd : Int} {x : NoteR} (h : NoteOK np iv x) (hn : np ≤ 8) (k : Nat) : (bnd iv wd x k).1 < 9 ∧ (bnd iv wd x k).2.1 < 9 := by
 have h1 := noteOK_oth h hn
 have h2 := noteOK_a h hn
 cases k with
 | zero => exact ⟨h1, by show x.a.toNat < 9; omega⟩
 | succ k => exact ⟨by show x.a.toNat < 9; omega, h1⟩
theorem bnd_most {np : Nat} {iv wd : Int} {x : NoteR} (h : NoteOK np iv x) (hi : 1 ≤ iv) (hw : 0 ≤ wd ∧ wd ≤ 9000) (k : Nat) : -9000 ≤ (bnd iv wd x k).2.2 ∧ (bnd iv wd x k).2.2 ≤ 18000 := by
 have h1 := noteOK_ends h hi
 cases k with
 | zero => show -9000 ≤ nhi iv x + wd ∧ nhi iv x + wd ≤ 18000; omega
 | succ k => show -9000 ≤ wd - nlo iv x ∧ wd - nlo iv x ≤ 18000; omega
theorem bndM_fine {np : Nat} {iv wd : Int} {x : NoteR} {b : Mat} (h : NoteOK np iv x) (hn : np ≤ 8) (hb : Fine b) (k : Nat) : Fine (bndM iv wd x b k) := by
 induction k with
 | zero => exact hb
 | succ k ih => exact bindR_fine ih (bnd_lt h hn k).1 (bnd_lt h hn k).2
def Says (iv wd : Int) (x : NoteR) (h : Nat → Int) : Prop := nlo iv x - wd ≤ h x.a.toNat - h (othN x) ∧ h x.a.toNat - h (othN x) ≤ nhi iv x + wd
theorem says_iff {iv wd : Int} {x : NoteR} {h : Nat → Int} : Says iv wd x h ↔ h (bnd iv wd x 0).2.1 - h (bnd iv wd x 0).1 ≤ (bnd iv wd x 0).2.2 ∧ h (bnd iv wd x 1).2.1 - h (bnd iv wd x 1).1 ≤ (bnd iv wd x 1).2.2 := by
 unfold Says bnd
 simp only
 omega
theorem withM_fine {np : Nat} {iv wd : Int} {x : NoteR} {b : Mat} (h : NoteOK np iv x) (hn : np ≤ 8) (hb : Fine b) : Fine (withM iv wd b x).1 := by
 unfold withM
 split
 ·exact bndM_fine h hn hb 1
 ·split <;> exact bndM_fine h hn hb 2
theorem withM_sol {np : Nat} {iv wd : Int} {x : NoteR} {b : Mat} (h : NoteOK np iv x) (hn : np ≤ 8) (hb : Fine b) (hw : (withM iv wd b x).2 = true) (y : Nat → Int) : Sol 9 (withM iv wd b x).1 y ↔ Sol 9 b y ∧ Says iv wd x y := by
 unfold withM at *
 by_cases h0 : bndB iv wd x b 0 = false
 ·rw [if_pos h0] at hw; cases hw
 ·rw [if_neg h0] at *
  by_cases h1 : bndB iv wd x b 1 = false
  ·rw [if_pos h1] at hw; cases hw
  ·rw [if_neg h1]
   have e0 : bndB iv wd x b 0 = true := by simpa using h0
   have e1 : bndB iv wd x b 1 = true := by simpa using h1
   have s0 := bindR_sol (bndM_fine (wd := wd) h hn hb 0) (bnd_lt (wd := wd) h hn 0).1 (bnd_lt (wd := wd) h hn 0).2 e0 y
   have s1 := bindR_sol (bndM_fine (wd := wd) h hn hb 1) (bnd_lt (wd := wd) h hn 1).1 (bnd_lt (wd := wd) h hn 1).2 e1 y
   rw [says_iff]
   show Sol 9 (bindR _ _ _ (bindR _ _ _ b)) y ↔ _
   rw [show bindR (bnd iv wd x 0).1 (bnd iv wd x 0).2.1 (bnd iv wd x 0).2.2 b = bndM iv wd x b 1 from rfl, s1]
   rw [show bndM iv wd x b 1 = bindR (bnd iv wd x 0).1 (bnd iv wd x 0).2.1 (bnd iv wd x 0).2.2 (bndM iv wd x b 0) from rfl, s0]
   rw [show bndM iv wd x b 0 = b from rfl]
   exact ⟨fun ⟨⟨a, b⟩, c⟩ => ⟨a, b, c⟩, fun ⟨a, b, c⟩ => ⟨⟨a, b⟩, c⟩⟩
theorem withM_no {np : Nat} {iv wd : Int} {x : NoteR} {b : Mat} (h : NoteOK np iv x) (hn : np ≤ 8) (hb : Fine b) (hw : (withM iv wd b x).2 = false) (y : Nat → Int) : ¬ (Sol 9 b y ∧ Says iv wd x y) := by
 rintro ⟨hs, hy⟩
 rw [says_iff] at hy
 unfold withM at hw
 by_cases h0 : bndB iv wd x b 0 = false
 ·exact bindB_no (bnd_lt (wd := wd) h hn 0).1 (bnd_lt (wd := wd) h hn 0).2 h0 y ⟨hs, hy.1⟩
 ·rw [if_neg h0] at hw
  have e0 : bndB iv wd x b 0 = true := by simpa using h0
  have s0 := (bindR_sol (bndM_fine (wd := wd) h hn hb 0) (bnd_lt (wd := wd) h hn 0).1 (bnd_lt (wd := wd) h hn 0).2 e0 y).2 ⟨hs, hy.1⟩
  by_cases h1 : bndB iv wd x b 1 = false
  ·exact bindB_no (bnd_lt (wd := wd) h hn 1).1 (bnd_lt (wd := wd) h hn 1).2 h1 y ⟨s0, hy.2⟩
  ·rw [if_neg h1] at hw
   cases hw
def allM (iv wd : Int) : List NoteR → Mat → Mat × Bool
 | [], b => (b, true)
 | x :: l, b => if (withM iv wd b x).2 = false then ((withM iv wd b x).1, false) else allM iv wd l (withM iv wd b x).1
theorem allM_cons (iv wd : Int) (x : NoteR) (l : List NoteR) (b : Mat) : allM iv wd (x :: l) b = if (withM iv wd b x).2 = false then ((withM iv wd b x).1, false) else allM iv wd l (withM iv wd b x).1 := rfl
theorem allM_fine {np : Nat} {iv wd : Int} (hn : np ≤ 8) : ∀ {l : List NoteR} {b : Mat}, (∀ x ∈ l, NoteOK np iv x) → Fine b → Fine (allM iv wd l b).1 := by
 intro l
 induction l with
 | nil => intro b _ hb; exact hb
 | cons x l ih =>
  intro b hl hb
  rw [allM_cons]
  have h1 := withM_fine (wd := wd) (hl x (by simp)) hn hb
  split
  ·exact h1
  ·exact ih (fun y hy => hl y (by simp [hy])) h1
theorem allM_sol {np : Nat} {iv wd : Int} (hn : np ≤ 8) : ∀ {l : List NoteR} {b : Mat}, (∀ x ∈ l, NoteOK np iv x) → Fine b → (allM iv wd l b).2 = true → ∀ y, Sol 9 (allM iv wd l b).1 y ↔ Sol 9 b y ∧ ∀ x ∈ l, Says iv wd x y := by
 intro l
 induction l with
 | nil => intro b _ _ _ y; simp [allM]
 | cons x l ih =>
  intro b hl hb hw y
  rw [allM_cons] at *
  have h1 := withM_fine (wd := wd) (hl x (by simp)) hn hb
  by_cases h2 : (withM iv wd b x).2 = false
  ·rw [if_pos h2] at hw; cases hw
  ·rw [if_neg h2] at *
   rw [ih (fun y hy => hl y (by simp [hy])) h1 hw y, withM_sol (hl x (by simp)) hn hb (by simpa using h2) y]
   simp [and_assoc]
theorem allM_no {np : Nat} {iv wd : Int} (hn : np ≤ 8) : ∀ {l : List NoteR} {b : Mat}, (∀ x ∈ l, NoteOK np iv x) → Fine b → (allM iv wd l b).2 = false → ∀ y, ¬ (Sol 9 b y ∧ ∀ x ∈ l, Says iv wd x y) := by
 intro l
 induction l with
 | nil => intro b _ _ h; cases h
 | cons x l ih =>
  intro b hl hb hw y
  rw [allM_cons] at hw
  have h1 := withM_fine (wd := wd) (hl x (by simp)) hn hb
  rintro ⟨hs, hy⟩
  by_cases h2 : (withM iv wd b x).2 = false
  ·exact withM_no (hl x (by simp)) hn hb h2 y ⟨hs, hy x (by simp)⟩
  ·rw [if_neg h2] at hw
   refine ih (fun y hy => hl y (by simp [hy])) h1 hw y ⟨?_, fun z hz => hy z (by simp [hz])⟩
   exact (withM_sol (hl x (by simp)) hn hb (by simpa using h2) y).2 ⟨hs, hy x (by simp)⟩
theorem allM_snoc (iv wd : Int) : ∀ (l : List NoteR) (x : NoteR) (b : Mat), (allM iv wd l b).2 = true → allM iv wd (l ++ [x]) b = withM iv wd (allM iv wd l b).1 x := by
 intro l
 induction l with
 | nil =>
  intro x b _
  show (if (withM iv wd b x).2 = false then _ else allM iv wd [] _) = withM iv wd b x
  unfold allM
  cases h : (withM iv wd b x).2 with
  | true => simp [← h]
  | false => simp [← h]
 | cons z l ih =>
  intro x b h
  rw [List.cons_append, allM_cons, allM_cons]
  rw [allM_cons] at h
  by_cases h2 : (withM iv wd b z).2 = false
  ·rw [if_pos h2] at h; cases h
  ·rw [if_neg h2] at h
   rw [if_neg h2, if_neg h2]
   exact ih x _ h
theorem allM_stop (iv wd : Int) : ∀ (l l' : List NoteR) (b : Mat), (allM iv wd l b).2 = false → allM iv wd (l ++ l') b = allM iv wd l b := by
 intro l
 induction l with
 | nil => intro l' b h; cases h
 | cons z l ih =>
  intro l' b h
  rw [List.cons_append, allM_cons, allM_cons]
  rw [allM_cons] at h
  by_cases h2 : (withM iv wd b z).2 = false
  ·rw [if_pos h2, if_pos h2]
  ·rw [if_neg h2] at h
   rw [if_neg h2, if_neg h2]
   exact ih l' _ h
end Go.Proofs.YthnimhnlnddnoaaGreatDoor
