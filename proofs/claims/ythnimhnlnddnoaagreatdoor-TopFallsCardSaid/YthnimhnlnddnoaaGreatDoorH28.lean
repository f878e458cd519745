/- Parts of the proof of TpP: Rdd3, Sam. -/
import Derived.Test.YthnimhnlnddnoaaGreatDoorH27
import Derived.WalkKit
import Derived.Deep.Quiet
set_option linter.unusedSimpArgs false
set_option linter.unusedVariables false
set_option maxRecDepth 100000
set_option maxHeartbeats 8000000
namespace Go.Proofs.YthnimhnlnddnoaaGreatDoor
open Go.RowKit Go.Shelf
theorem run_alloc25 (w : World) : (Instr.alloc 38 true (.tuple #[])).run Tryz.prog w = .ok (.pointer (some ⟨w.heap.size, 0, none⟩)) (w.alloc (.cells #[.int .i64 0, .slice none 0 0, .slice none 0 0] 38)) := by kernel_rfl
theorem enter80 : ∀ args w, (callFunc 65 args).run Tryz.prog w = .ok (.enter 65 args) w := enters_of Tryz.func65 (by kernel_rfl) rfl
theorem enter82 : ∀ args w, (callFunc 67 args).run Tryz.prog w = .ok (.enter 67 args) w := enters_of Tryz.func67 (by kernel_rfl) rfl
theorem enter83 : ∀ args w, (callFunc 68 args).run Tryz.prog w = .ok (.enter 68 args) w := enters_of Tryz.func68 (by kernel_rfl) rfl
theorem enterT84 : ∀ args w, (callFunc 69 args).run Tryz.prog w = .ok (.enter 69 args) w := enters_of Tryz.func69 (by kernel_rfl) rfl
theorem enter108 : ∀ args w, (callFunc 105 args).run Tryz.prog w = .ok (.enter 105 args) w := enters_of Tryz.func105 (by kernel_rfl) rfl
theorem load_sheet {W : World} {H : Nat} {a : Int} {vp vn : Value} (hH : W.heap[H]? = some (.cells #[.int .i64 a, vp, vn] 38)) : (loadVar 38 ⟨H, 0, none⟩).run Tryz.prog W = .ok (.agg #[.int .i64 a, vp, vn]) W := by
 exact run_loadVar_row W H 38 38 #[.int .i64 a, vp, vn] (0, 0) _ hH Tryz.underlying38 rfl (by kernel_rfl)
theorem load_err {W : World} {H : Nat} {e : Int} (hE : W.heap[H]? = some (.cells #[.int .i64 e] 26)) : (loadVar 26 ⟨H, 0, none⟩).run Tryz.prog W = .ok (.int .i64 e) W := by
 have c := cellOf hE 0 (v := .int .i64 e) rfl
 go_simp
theorem results39_at {W : World} {H : Nat} {a e : Int} {vp vn : Value} {tmps : Array Value} (hH : W.heap[H]? = some (.cells #[.int .i64 a, vp, vn] 38)) (hE : W.heap[H + 1]? = some (.cells #[.int .i64 e] 26))
  (h2 : tmps[2]?.getD undef = .pointer (some ⟨H, 0, none⟩)) (h3 : tmps[3]?.getD undef = .pointer (some ⟨H + 1, 0, none⟩)) :
  (results Tryz.f30 tmps).run Tryz.prog W = .ok (.tuple #[.agg #[.int .i64 a, vp, vn], .int .i64 e]) W := by
 have l1 := load_sheet hH
 have l2 := load_err hE
 simp [results, Tryz.results30, h2, h3, asAddr, l1, l2]
theorem leaves_ret {R : Ending → World → Prop} {W : World} {tmps : Array Value} {d H : Nat} {a e : Int} {vp vn : Value} (hk : W.heap[d]? = some (.deferred (some []))) (hd : H + 2 ≤ d) (hH : W.heap[H]? = some (.cells #[.int .i64 a, vp, vn] 38)) (hE : W.heap[H + 1]? = some (.cells #[.int .i64 e] 26))
  (h2 : tmps[2]?.getD undef = .pointer (some ⟨H, 0, none⟩)) (h3 : tmps[3]?.getD undef = .pointer (some ⟨H + 1, 0, none⟩)) (hR : ∀ W', Book (H + 2) W W' → R (.returned (.tuple #[.agg #[.int .i64 a, vp, vn], .int .i64 e])) W') :
  LeavesInM Fence.wide 0 Tryz.prog Tryz.f30 tmps R [{ target := .collected d, args := #[] }, { target := .fn (.func 65) #[.pointer (some ⟨H, 0, none⟩), .pointer (some ⟨H + 1, 0, none⟩)], args := #[] }] .returning W := by
 have hb : Book (H + 2) W (W.putObj d (.deferred none)) := (Book.refl _ _).put hd hk rfl _
 refine ⟨by simp, .inl ⟨d, _, rfl, run_takeDeferred hk, by simp, .inr ⟨by simp [Fence.wide], .func 65, #[.pointer (some ⟨H, 0, none⟩), .pointer (some ⟨H + 1, 0, none⟩)], 65, #[.pointer (some ⟨H, 0, none⟩), .pointer (some ⟨H + 1, 0, none⟩)], rfl, by simp [invoke, enter80], fun _ _ => trivial, ?_⟩⟩⟩
 refine CallsDIn.mono (catch_idle ⟨H, 0, none⟩ ⟨H + 1, 0, none⟩ _) ?_
 rintro e' u' w' ⟨rfl, rfl, rfl⟩
 exact ⟨_, results39_at (hb.data _ _ hH rfl) (hb.data _ _ hE rfl) h2 h3, hR _ hb⟩
theorem leaves_die {R : Ending → World → Prop} {W : World} {tmps : Array Value} {d H : Nat} {a : Int} {vp vn ve : Value} (hk : W.heap[d]? = some (.deferred (some []))) (hd : H + 2 ≤ d) (hH : W.heap[H]? = some (.cells #[.int .i64 a, vp, vn] 38)) (hE : W.heap[H + 1]? = some (.cells #[ve] 26))
  (h2 : tmps[2]?.getD undef = .pointer (some ⟨H, 0, none⟩)) (h3 : tmps[3]?.getD undef = .pointer (some ⟨H + 1, 0, none⟩)) (hR : ∀ W', Below H W W' → R (.returned (.tuple #[.agg #[.int .i64 0, .slice none 0 0, .slice none 0 0], .int .i64 6])) W') :
  LeavesInM Fence.wide 0 Tryz.prog Tryz.f30 tmps R [{ target := .collected d, args := #[] }, { target := .fn (.func 65) #[.pointer (some ⟨H, 0, none⟩), .pointer (some ⟨H + 1, 0, none⟩)], args := #[] }] (.panicking chE) W := by
 have hb : Book (H + 2) W (W.putObj d (.deferred none)) := (Book.refl _ _).put hd hk rfl _
 refine ⟨by simp, .inl ⟨d, _, rfl, run_takeDeferred hk, by simp, .inr ⟨by simp [Fence.wide], .func 65, #[.pointer (some ⟨H, 0, none⟩), .pointer (some ⟨H + 1, 0, none⟩)], 65, #[.pointer (some ⟨H, 0, none⟩), .pointer (some ⟨H + 1, 0, none⟩)], rfl, by simp [invoke, enter80], fun _ _ => trivial, ?_⟩⟩⟩
 refine CallsDIn.mono (catch_line (hb.data _ _ hH rfl) (hb.data _ _ hE rfl)) ?_
 rintro e' u' w' ⟨rfl, rfl, r1, r2, hb2⟩
 refine ⟨_, results39_at r1 r2 h2 h3, hR _ ((hb.below.mono (by omega)).trans hb2)⟩
theorem read_any {w : World} {t : ByteArray} (ht : t.size ≤ 1000000000000) (hgl : Glob w) :
  Calls Tryz.prog 30 #[.string t] w fun e w' => ∃ v, e = .returned (.tuple #[v, .int .i64 (readF t).2]) ∧ RdSh w'.heap.size w' v (readF t).1 ∧ Below w.heap.size w w' := by
 by_cases hl : 1500 < t.size
 ·have hlb : decide ((t.size : Int) > 1500) = true := decide_eq_true (by omega)
  have hlb2 : decide ((1500 : Int) < (t.size : Int)) = true := decide_eq_true (by omega)
  have HF := Lib.hid (show readF t = (zeroS, 3) by unfold readF; rw [if_pos hl])
  have hn : 1500 < t.size := hl
  clear hl
  refine calls_of_wp_marks Tryz.func30 rfl ?_
  simp only [Tryz.ntmps30, List.size_toArray, List.length_cons, List.length_nil, Nat.reduceAdd, Nat.reduceSub, Array.replicate_succ,
   Array.replicate_zero, List.push_toArray, List.append_toArray, List.nil_append, List.cons_append]
  go_wp2
  obtain ⟨W1, hW1, r1, z1, d1⟩ := box_any w #[.int .i64 0, .slice none 0 0, .slice none 0 0] 38
  obtain ⟨W2, hW2, r2, z2, d2⟩ := box_any W1 #[.int .i64 3] 26
  rw [← hW1, ← hW2]
  have r1' := (d2.block _ (by omega)).trans r1
  rw [z1] at r2
  refine ⟨_, results39_at r1' r2 rfl rfl, .agg #[.int .i64 0, .slice none 0 0, .slice none 0 0], by rw [HF.out], ?_, d1.trans (d2.mono d1.size)⟩
  rw [HF.out]
  exact ⟨_, _, rfl, Rd.nil _ _, Rd.nil _ _⟩
 ·have hlb : decide ((t.size : Int) > 1500) = false := decide_eq_false (by omega)
  have hlb2 : decide ((1500 : Int) < (t.size : Int)) = false := decide_eq_false (by omega)
  have hsz : t.size ≤ 1500 := by omega
  have HF := Lib.hid (show readF t = endF t (upToF t (linesOf t).length) by unfold readF; rw [if_neg hl, upToF_all])
  obtain ⟨W1, hW1, r1, z1, d1⟩ := box_any w #[.int .i64 0, .slice none 0 0, .slice none 0 0] 38
  obtain ⟨W2, hW2, r2, z2, d2⟩ := box_any W1 #[.int .i64 0] 26
  obtain ⟨W3, hW3, r3, z3, d3⟩ := box_any W2 #[.string t] 9
  refine calls_of_wp_marks Tryz.func30 rfl ?_
  simp only [Tryz.ntmps30, List.size_toArray, List.length_cons, List.length_nil, Nat.reduceAdd, Nat.reduceSub, Array.replicate_succ,
   Array.replicate_zero, List.push_toArray, List.append_toArray, List.nil_append, List.cons_append]
  have hmf : ∀ (fn : Fn) (first cap : Array Value) (w : World), (Instr.makeFunc fn first cap).run Tryz.prog w = .ok (.func fn first cap) w := fun _ _ _ _ => rfl
  have HW3 := Lib.hid hW3
  clear hW3
  go_upto_region 1 with (fail)
  rw [← hW1, ← hW2]
  have Z1 := Lib.hid z1
  have Z2 := Lib.hid z2
  have Z3 := Lib.hid z3
  clear hW1 hW2 z1 z2 z3 hl
  go_wp2_with (go_at_call 66; refine (lines_any _ _).mono ?_; rintro e w3 ⟨rfl, hw3⟩)
  rw [← HW3.out]
  rw [show W2.heap.size = w.heap.size + 2 by rw [Z2.out, Z1.out]]
  have b3 : Below w.heap.size w W3 := d1.trans ((d2.mono (by have := Z1.out; omega)).trans (d3.mono (by have := Z1.out; have := Z2.out; omega)))
  have r1' := (d3.block _ (by have := Z1.out; have := Z2.out; omega)).trans ((d2.block _ (by have := Z1.out; omega)).trans r1)
  have r2' := (d3.block _ (by have := Z1.out; have := Z2.out; omega)).trans r2
  have hz3 : W3.heap.size = w.heap.size + 3 := by rw [Z3.out, Z2.out, Z1.out]
  rw [Z1.out] at r2'
  rw [show W2.heap.size = w.heap.size + 2 by rw [Z2.out, Z1.out]] at r3
  have hJ0 : RdJ w (w.heap.size + 3) w.heap.size t 0 W3 := ⟨⟨zeroS, .slice none 0 0, .slice none 0 0, rfl, ⟨Nat.le_refl _, fun p hp => by cases hp⟩, ⟨r1', Own.nil _ _ _, Own.nil _ _ _⟩⟩, r2', b3, by omega⟩
  have HGl := Lib.hid hgl
  have HF' := Lib.hid HF.out
  clear hgl r1 r2 r1' r2' d1 d2 d3 HF Z1 Z2 Z3 HW3 hw3
  refine range_law_dies (gf := 105) (lb := #[.pointer (some ⟨w.heap.size + 2, 0, none⟩)]) rfl enter108 (D := (linesOf t).length) (el := fun k => #[.string ((linesOf t)[k]?.getD ByteArray.empty)]) (fun _ => rfl)
   (Kp := LnK (w.heap.size + 2)) (S := LnS (w.heap.size + 2)) (St := fun A => A.heap[w.heap.size + 2]? = some (.cells #[.string t] 9)) (fun l Y ZP W hS hR h0 hst => lines_iter t (by omega) (w.heap.size + 2) l Y ZP W hS hR h0 hst)
   r3 (fun A B h hb => hb.data _ _ h rfl) ?hKp ?hSN (RdJ w (w.heap.size + 3) w.heap.size t) (fun c W => c = chE ∧ RdX w w.heap.size t W) ?hJb ?hJS hJ0 ?hround ?hdone ?hdies
  case hKp => exact fun A B C h hd cs f hc => hd _ _ (h cs f hc) rfl
  case hSN => exact fun A B h => h.nc
  case hJb => exact fun k A B h hb => h.book hb (by omega)
  case hJS => exact fun k A B h hs => h.lns hs (by omega) (by omega) (by omega) (by omega)
  case hround =>
   intro r k W hk h hr1 hr2
   obtain ⟨x, hx⟩ : ∃ x, (linesOf t)[k]?.getD ByteArray.empty = x := ⟨_, rfl⟩
   have hxs : x.size ≤ 1500 := by
    rw [← hx, List.getElem?_eq_getElem hk]
    exact Nat.le_trans (linesOf_small (List.getElem_mem hk)) hsz
   rw [hx]
   generalize hT : Array.foldl _ _ _ = T
   simp at hT
   subst hT
   have Hh := Lib.hid h
   clear h
   gi_wp2
   refine ⟨NC.refl _, fun W₂ hb2 hz2 => ?_⟩
   have hJ2 := Hh.out.book hb2 (by omega)
   have HK : Hid (∀ W', LnK (w.heap.size + 2) W₂ W' → LnK (w.heap.size + 2) W W') := Lib.hid fun W' hk cs f hc => hk cs f (hb2.data _ _ hc rfl)
   have HT := Lib.hid (take_step hJ2 hk HGl.out hsz hx)
   rw [show List.range _ = [0, 1, 2, 3] from rfl]
   refine opsTo_value rfl rfl (by intro c h; cases h) (by intro c h; cases h) (v := .string x) (w' := W₂) (by unfold execOp; go_simp) ?_
   simp only [Act.put, List.setIfInBounds_toArray, List.set_cons_succ, List.set_cons_zero]
   refine opsTo_call (f := 69) (args := #[.string x, .string ⟨#[10]⟩]) rfl rfl (by intro c h; cases h) (run_call_clo (.func 69) _ _ rfl (c := #[]) rfl enterT84 rfl) (fun _ _ => trivial) (by simp [Fence.wide]) rfl ?_
   refine (callsIn_wide.2 (Tryz.strings_TrimSuffix x ⟨#[10]⟩ W₂ (by omega))).mono ?_
   rintro e w3 ⟨rfl, hw3⟩
   subst w3
   refine .inl ⟨_, rfl, ?_⟩
   rw [show (⟨(Lib.trimSuffix x.data.toList (⟨#[10]⟩ : ByteArray).data.toList).toArray⟩ : ByteArray) = trimL x from rfl]
   simp only [Act.put, List.setIfInBounds_toArray, List.set_cons_succ, List.set_cons_zero]
   refine opsTo_call (f := 68) (args := #[.string (trimL x), .string ⟨#[32]⟩]) rfl rfl (by intro c h; cases h) (run_call_clo (.func 68) _ _ rfl (c := #[]) rfl enter83 rfl) (fun _ _ => trivial) (by simp [Fence.wide]) rfl ?_
   refine (callsIn_wide.2 (Tryz.strings_Split_shaped (trimL x) ⟨#[32]⟩ W₂ (HGl.out.below hJ2.b0).shaped (by have := trimL_size x; omega) (by decide))).mono ?_
   rintro e w3 ⟨rfl, hw3⟩
   refine .inl ⟨_, rfl, ?_⟩
   rw [← wordsOf_len] at *
   rw [show Lib.splitB ⟨#[32]⟩ 0 (Lib.countB (trimL x) ⟨#[32]⟩) (trimL x) = wordsOf x from rfl] at hw3
   subst w3
   simp only [Act.put, List.setIfInBounds_toArray, List.set_cons_succ, List.set_cons_zero]
   refine opsTo_call (f := 67) (args := #[.pointer (some ⟨w.heap.size, 0, none⟩), .slice (some ⟨W₂.heap.size, 0, none⟩) (wordsOf x).length (wordsOf x).length]) rfl rfl (by intro c h; cases h) (run_call_clo (.func 67) _ _ rfl (c := #[]) rfl enter82 rfl) (fun _ _ => trivial) (by simp [Fence.wide]) rfl ?_
   refine (callsIn_wide.2 HT.out).mono ?_
   rintro e W' (⟨rfl, h1, h2, h3⟩ | ⟨rfl, h1, h2⟩)
   ·exact .inl ⟨_, rfl, opsTo_nil ⟨h1, h2, HK.out _ h3⟩⟩
   ·exact .inr ⟨_, rfl, h1, rfl, h2⟩
  case hdone =>
   intro d W hd hJ hk
   obtain ⟨s, vp, vn, hs, hf, hsh⟩ := hJ.s
   have rH := hsh.row
   have rE := hJ.er
   have Hk := Lib.hid hk
   have HJ := Lib.hid hJ
   have HSh := Lib.hid hsh
   have HS : Hid (readF t = endF t (some s)) := Lib.hid (by rw [HF'.out, hs])
   have hrd : RdSh W.heap.size W (.agg #[.int .i64 s.iv, vp, vn]) s := ⟨vp, vn, rfl, hsh.pts.rd, hsh.nts.rd⟩
   have hnm : Named s := fun p hp => Nat.le_trans (hf.small p hp) (by omega)
   have HC := Lib.hid (pcheck_any (w := W) hrd hnm (Nat.le_refl _))
   unfold checkV at HC
   have heo : errOf s = (check s).2.2 := rfl
   rw [← heo] at HC
   clear heo
   have c0 := cellOf rH 0 (v := .int .i64 s.iv) rfl
   have c1 := cellOf rH 1 (v := vp) rfl
   have c2 := cellOf rH 2 (v := vn) rfl
   have e0 := cellOf rE 0 (v := .int .i64 0) rfl
   have fe : W.frozen? ⟨w.heap.size + 1, 0, none⟩ = false := by simp [World.frozen?, rE]
   have HRd := Lib.hid hrd
   clear hJ hsh hs hf hrd hnm hk rH rE
   generalize (check s).1 = q1 at *
   generalize (check s).2.1 = q2 at *
   simp only [Exit.inBlock, Exit.then]
   have HKeep : Hid (∀ wx, Below W.heap.size W wx → wx.heap[d]? = some (.deferred (some [])) ∧ wx.heap[w.heap.size]? = some (.cells #[.int .i64 s.iv, vp, vn] 38) ∧ wx.heap[w.heap.size + 1]? = some (.cells #[.int .i64 0] 26) ∧ Below w.heap.size w wx) := Lib.hid fun wx hx =>
    ⟨(hx.block _ (lt_of_block Hk.out)).trans Hk.out, (hx.block _ (lt_of_block HSh.out.row)).trans HSh.out.row, (hx.block _ (lt_of_block HJ.out.er)).trans HJ.out.er, HJ.out.b0.trans (hx.mono HJ.out.b0.size)⟩
   by_cases he : errOf s = 0
   ·rw [he] at HC
    have HGood := Lib.hid (good_of_valid he)
    go_upto_region 8 with (go_at_call 58; refine HC.out.mono ?_; rintro e wx ⟨rfl, hbx⟩; have HX := Lib.hid (HKeep.out _ hbx); have e0 := cellOf HX.out.2.2.1 0 (v := .int .i64 0) rfl; have fe : wx.frozen? ⟨w.heap.size + 1, 0, none⟩ = false := by simp [World.frozen?, HX.out.2.2.1])
    have hrow := (Below.heap_setCell wx ⟨w.heap.size + 1, 0, none⟩ (.int .i64 0) w.heap.size (by show w.heap.size ≠ w.heap.size + 1; omega)).trans HX.out.2.1
    have herr := (row3 HX.out.2.2.1 0 (.int .i64 0)).trans (show _ = some (Obj.cells #[.int .i64 0] 26) by simp)
    have hdf := (Below.heap_setCell wx ⟨w.heap.size + 1, 0, none⟩ (.int .i64 0) d (by show d ≠ w.heap.size + 1; omega)).trans HX.out.1
    have hbw : Below w.heap.size w (wx.setCell ⟨w.heap.size + 1, 0, none⟩ (.int .i64 0)) := HX.out.2.2.2.setCell (Nat.le_succ _) _
    have hshx := HSh.out.below hbx
    have hsh : SheetAt (w.heap.size + 3) (wx.setCell ⟨w.heap.size + 1, 0, none⟩ (.int .i64 0)) w.heap.size vp vn s := ⟨hrow, hshx.pts.setOther HX.out.2.2.1 (by decide) 0 _, hshx.nts.setOther HX.out.2.2.1 (by decide) 0 _⟩
    generalize wx.setCell ⟨w.heap.size + 1, 0, none⟩ (.int .i64 0) = wy at *
    have HT := Lib.hid (text_any (w := wy) (B := wy.heap.size) (v := .agg #[.int .i64 s.iv, vp, vn]) ⟨vp, vn, rfl, hsh.pts.rd, hsh.nts.rd⟩ HGood.out (Nat.le_refl _) (HGl.out.below hbw))
    have KY : Hid (∀ wz, Below wy.heap.size wy wz → wz.heap[d]? = some (.deferred (some [])) ∧ SheetAt (w.heap.size + 3) wz w.heap.size vp vn s ∧ wz.heap[w.heap.size + 1]? = some (.cells #[.int .i64 0] 26) ∧ Below w.heap.size w wz) := Lib.hid fun wz hz =>
     ⟨(hz.block _ (lt_of_block hdf)).trans hdf, hsh.below hz, (hz.block _ (lt_of_block herr)).trans herr, hbw.trans (hz.mono hbw.size)⟩
    have e1 := cellOf herr 0 (v := .int .i64 0) rfl
    have g0 := cellOf hrow 0 (v := .int .i64 s.iv) rfl
    have g1 := cellOf hrow 1 (v := vp) rfl
    have g2 := cellOf hrow 2 (v := vn) rfl
    clear hrow herr hdf hbw e0 fe c0 c1 c2 HX hshx hsh
    by_cases htx : (⟨(textB s).toArray⟩ : ByteArray) = t
    ·have hF : readF t = (s, 0) := by rw [HS.out]; exact if_pos ⟨he, htx⟩
     have HFz := Lib.hid hF
     have htl : (⟨(textB s).toArray⟩ : ByteArray).toList == t.toList := by rw [htx]; exact beq_self_eq_true _
     clear he hF htx
     generalize (⟨(textB s).toArray⟩ : ByteArray) = tx at *
     go_upto_region 9 with (first | (go_at_call 64; refine HT.out.mono ?_; rintro e wz ⟨rfl, hz⟩) | (go_at_call 70; refine (must_true _).mono ?_; rintro e wm ⟨rfl, hw⟩; subst wm))
     obtain ⟨y1, y2, y3, y4⟩ := KY.out _ hz
     obtain ⟨Ap, cp, rfl, _⟩ := y2.pts.form
     obtain ⟨An, cn, rfl, _⟩ := y2.nts.form
     have m0 := cellOf y2.row 0 (v := .int .i64 s.iv) rfl
     have m1 := cellOf y2.row 1 (v := .slice Ap s.pts.length cp) rfl
     have m2 := cellOf y2.row 2 (v := .slice An s.notes.length cn) rfl
     have hset := setRow_heap wz w.heap.size _ #[.int .i64 s.iv, .slice Ap s.pts.length cp, .slice An s.notes.length cn] 38 (0, 0) y2.row
     have hoth := fun k (h : k ≠ w.heap.size) => setRow_other wz w.heap.size k #[.int .i64 s.iv, .slice Ap s.pts.length cp, .slice An s.notes.length cn] h
     have hE2 := (hoth (w.heap.size + 1) (by omega)).trans y3
     have fE2 : (wz.setRow w.heap.size #[.int .i64 s.iv, .slice Ap s.pts.length cp, .slice An s.notes.length cn]).frozen? ⟨w.heap.size + 1, 0, none⟩ = false := by simp [World.frozen?, hE2]
     have cE2 := cellOf hE2 0 (v := .int .i64 0) rfl
     have HY := Lib.hid (And.intro y1 (And.intro y2 (And.intro hset (And.intro hoth (And.intro hE2 y4)))))
     have HStore := Lib.hid y2.row
     have HBu : Hid (Below w.heap.size w wz → Below w.heap.size w ((wz.setRow w.heap.size #[.int .i64 s.iv, .slice Ap s.pts.length cp, .slice An s.notes.length cn]).setCell ⟨w.heap.size + 1, 0, none⟩ (.int .i64 0))) := Lib.hid fun h => (h.trans (setRow_below _ (Nat.le_refl _))).setCell (Nat.le_succ _) _
     clear y1 y2 y3 y4 hset hoth hE2 e1 g0 g1 g2
     go_wp2_with (refine wpList_store_row rfl 38 (.tmp 2) (.tmp 32) rfl w.heap.size #[.int .i64 s.iv, .slice Ap s.pts.length cp, .slice An s.notes.length cn] rfl rfl 38 _ HStore.out (by kernel_rfl) rfl (by simp [Value.oneCell']) ?_)
     obtain ⟨y1, y2, hset, hoth, hE2, y4⟩ := HY.out
     generalize wz.setRow w.heap.size #[.int .i64 s.iv, .slice Ap s.pts.length cp, .slice An s.notes.length cn] = wu at *
     have kv : ∀ b, b ≠ w.heap.size + 1 → (wu.setCell ⟨w.heap.size + 1, 0, none⟩ (.int .i64 0)).heap[b]? = wu.heap[b]? := fun b hb => Below.heap_setCell _ _ _ _ hb
     have kz : ∀ b, b ≠ w.heap.size → b ≠ w.heap.size + 1 → (wu.setCell ⟨w.heap.size + 1, 0, none⟩ (.int .i64 0)).heap[b]? = wz.heap[b]? := fun b h1 h2 => (kv b h2).trans (hoth b h1)
     have pv := y2.pts.keepD (w' := wu.setCell ⟨w.heap.size + 1, 0, none⟩ (.int .i64 0)) fun b cs f hb hh => (kz b (by omega) (by omega)).trans hh
     have nv := y2.nts.keepD (w' := wu.setCell ⟨w.heap.size + 1, 0, none⟩ (.int .i64 0)) fun b cs f hb hh => (kz b (by omega) (by omega)).trans hh
     have bv : Below w.heap.size w (wu.setCell ⟨w.heap.size + 1, 0, none⟩ (.int .i64 0)) := HBu.out y4
     refine leaves_ret ((kz d (by omega) (by omega)).trans y1) (by omega) ((kv _ (by omega)).trans hset) ((row3 hE2 0 _).trans (show _ = some (Obj.cells #[.int .i64 0] 26) by simp)) rfl rfl fun W' hb => ?_
     refine ⟨.agg #[.int .i64 s.iv, .slice Ap s.pts.length cp, .slice An s.notes.length cn], by rw [HFz.out], ?_, bv.trans (hb.below.mono (by omega))⟩
     rw [HFz.out]
     exact ⟨_, _, rfl, (pv.keepD fun b cs f _ hh => hb.data _ _ hh rfl).rd, (nv.keepD fun b cs f _ hh => hb.data _ _ hh rfl).rd⟩
    ·have hF : readF t = (zeroS, 6) := by rw [HS.out]; exact if_neg (fun h => htx h.2)
     have HFz := Lib.hid hF
     have htl : ((⟨(textB s).toArray⟩ : ByteArray).toList == t.toList) = false := by
      rw [ByteArray.toList_eq, ByteArray.toList_eq]
      refine beq_false_of_ne fun e => htx ?_
      have e2 : (textB s) = t.data.toList := by simpa using e
      rw [e2]
     clear he hF htx
     generalize (⟨(textB s).toArray⟩ : ByteArray) = tx at *
     go_wp2_with (first | (go_at_call 64; refine HT.out.mono ?_; rintro e wz ⟨rfl, hz⟩) | (go_at_call 70; refine (must_false _).mono ?_; rintro e wm ⟨rfl, hw⟩; subst wm))
     obtain ⟨y1, y2, y3, y4⟩ := KY.out _ hz
     refine leaves_die y1 (by omega) y2.row y3 rfl rfl fun W' hb => ?_
     refine ⟨.agg #[.int .i64 0, .slice none 0 0, .slice none 0 0], by rw [HFz.out], ?_, y4.trans hb⟩
     rw [HFz.out]
     exact ⟨_, _, rfl, Rd.nil _ _, Rd.nil _ _⟩
   ·have hne : (errOf s == 0) = false := by simp [he]
    have hF : readF t = (zeroS, 6) := by rw [HS.out]; exact if_neg (fun h => he h.1)
    have HFz := Lib.hid hF
    clear he hF
    generalize errOf s = er at *
    go_upto_region 8 with (go_at_call 58; refine HC.out.mono ?_; rintro e wx ⟨rfl, hbx⟩; have HX := Lib.hid (HKeep.out _ hbx); have e0 := cellOf HX.out.2.2.1 0 (v := .int .i64 0) rfl; have fe : wx.frozen? ⟨w.heap.size + 1, 0, none⟩ = false := by simp [World.frozen?, HX.out.2.2.1])
    have hrow := (Below.heap_setCell wx ⟨w.heap.size + 1, 0, none⟩ (.int .i64 er) w.heap.size (by show w.heap.size ≠ w.heap.size + 1; omega)).trans HX.out.2.1
    have herr := (row3 HX.out.2.2.1 0 (.int .i64 er)).trans (show _ = some (Obj.cells #[.int .i64 er] 26) by simp)
    have hdf := (Below.heap_setCell wx ⟨w.heap.size + 1, 0, none⟩ (.int .i64 er) d (by show d ≠ w.heap.size + 1; omega)).trans HX.out.1
    have hbw : Below w.heap.size w (wx.setCell ⟨w.heap.size + 1, 0, none⟩ (.int .i64 er)) := HX.out.2.2.2.setCell (Nat.le_succ _) _
    generalize wx.setCell ⟨w.heap.size + 1, 0, none⟩ (.int .i64 er) = wy at *
    have HE := Lib.hid fun (tmps : Array Value) (h2 : tmps[2]?.getD undef = .pointer (some ⟨w.heap.size, 0, none⟩)) (h3 : tmps[3]?.getD undef = .pointer (some ⟨w.heap.size + 1, 0, none⟩)) => leaves_die (R := fun e w' => ∃ v, e = .returned (.tuple #[v, .int .i64 (readF t).2]) ∧ RdSh w'.heap.size w' v (readF t).1 ∧ Below w.heap.size w w') hdf (by omega) hrow herr h2 h3 fun W' hb => by
     refine ⟨.agg #[.int .i64 0, .slice none 0 0, .slice none 0 0], by rw [HFz.out], ?_, hbw.trans hb⟩
     rw [HFz.out]
     exact ⟨_, _, rfl, Rd.nil _ _, Rd.nil _ _⟩
    have e1 := cellOf herr 0 (v := .int .i64 er) rfl
    clear hrow herr hdf hbw e0 fe c0 c1 c2 HX
    go_wp2_with (go_at_call 70; refine (must_false _).mono ?_; rintro e wm ⟨rfl, hw⟩; subst wm)
    exact HE.out _ rfl rfl
  case hdies =>
   rintro d c W hd ⟨rfl, hX⟩ hk
   obtain ⟨a, vp, vn, rH⟩ := hX.rH
   refine leaves_die hk (by omega) rH hX.er rfl rfl fun W' hb => ?_
   have hF : readF t = (zeroS, 6) := by rw [HF'.out, hX.none_]; rfl
   refine ⟨.agg #[.int .i64 0, .slice none 0 0, .slice none 0 0], by rw [hF], ?_, hX.b0.trans hb⟩
   rw [hF]
   exact ⟨_, _, rfl, Rd.nil _ _, Rd.nil _ _⟩
end Go.Proofs.YthnimhnlnddnoaaGreatDoor
namespace Go.Proofs.YthnimhnlnddnoaaGreatDoor
open Go.RowKit
theorem retB {a b : Bool} (h : a = b) : Ending.returned (.bool a) = .returned (.bool b) := by rw [h]
theorem str_ne {x y : ByteArray} (h : ¬ x = y) : (x.toList == y.toList) = false := by
 rw [ByteArray.toList_eq, ByteArray.toList_eq]
 refine beq_false_of_ne fun e => h ?_
 obtain ⟨⟨d⟩⟩ := x
 obtain ⟨⟨d'⟩⟩ := y
 simp at e
 rw [e]
theorem ints_any {B B' : Nat} {w : World} {v v' : Value} {xs ys : List Int} (hx : Rd IntAt 1 B w v xs) (hy : Rd IntAt 1 B' w v' ys) (_hn : xs.length ≤ 1000000) :
  Calls Tryz.prog 16 #[v, v'] w fun e w' => e = .returned (.bool (decide (xs = ys))) ∧ Qt w w' := by
 obtain ⟨A, c, rfl, _⟩ := id hx
 obtain ⟨A', c', rfl, _⟩ := id hy
 by_cases hlen : xs.length = ys.length
 ·have hne : ((xs.length : Int) != (ys.length : Int)) = false := by simp [hlen]
  have Hl := Lib.hid hlen
  clear hlen
  go_enter Tryz.func16, Tryz.ntmps16
  go_wp2
  go_loopw [5] (fun i wr => ∃ k : Nat, k ≤ xs.length ∧ i = .int .i64 k ∧ (∀ j, j < k → xs[j]? = ys[j]?) ∧ Qt w wr) (fun i _ => xs.length - (intOf i).toNat)
  case atStart => exact ⟨0, Nat.zero_le _, rfl, fun j hj => by omega, Qt.refl _⟩
  case round =>
   obtain ⟨k, hk, rfl, hall, hq⟩ := hrel
   by_cases h1 : k < xs.length
   ·obtain ⟨ad, rfl, _, d0⟩ := (hx.qt hq).int h1
    have hl := Hl.out
    obtain ⟨ad', rfl, _, e0⟩ := (hy.qt hq).int (i := k) (by omega)
    have hk2 : k < ys.length := by omega
    clear hl
    have HA := Lib.hid hall
    have HQ := Lib.hid hq
    have Hx := Lib.hid (show xs[k]? = some (xs[k]?.getD 0) by simp [h1])
    have Hy := Lib.hid (show ys[k]? = some (ys[k]?.getD 0) by simp [hk2])
    clear hall hq
    generalize xs[k]?.getD 0 = x at *
    generalize ys[k]?.getD 0 = y at *
    by_cases hxy : x = y
    ·have Hxy := Lib.hid hxy
     have hb : (x != y) = false := by simp [hxy]
     clear hxy
     go_wp2
     go_quiet (fail)
     go_wp2
     go_roundw
     case rel => exact ⟨k + 1, by omega, by go_num, fun j hj => by
      by_cases hjk : j < k
      ·exact HA.out j hjk
      ·obtain rfl : j = k := by omega
       rw [Hx.out, Hy.out]
       rw [Hxy.out], HQ.out.drewN _⟩
     case measure => simp [intOf]; omega
    ·have Hxy := Lib.hid hxy
     have hb : (x != y) = true := by simpa using hxy
     clear hxy
     go_wp2
     go_quiet (fail)
     go_wp2
     go_ret
     refine ⟨retB ?_, HQ.out.drewN _⟩
     symm
     refine decide_eq_false fun e => Hxy.out ?_
     rw [e] at Hx
     exact Option.some.inj (Hx.out.symm.trans Hy.out)
   ·have hkk : k = xs.length := by omega
    subst hkk
    have HA := Lib.hid hall
    have HQ := Lib.hid hq
    clear hall hq
    go_wp2
    go_ret
    refine ⟨retB ?_, HQ.out⟩
    symm
    rw [decide_eq_true_eq]
    apply List.ext_getElem?
    intro j
    by_cases hj : j < xs.length
    ·exact HA.out j hj
    ·have := Hl.out
     rw [List.getElem?_eq_none (by omega), List.getElem?_eq_none (by omega)]
 ·have hne : ((xs.length : Int) != (ys.length : Int)) = true := by simpa using fun h => hlen (by exact_mod_cast h)
  have Hf := Lib.hid (show decide (xs = ys) = false from decide_eq_false fun e => hlen (by rw [e]))
  clear hlen
  go_enter Tryz.func16, Tryz.ntmps16
  go_wp2
  go_ret
  exact ⟨retB Hf.out.symm, Qt.refl _⟩
theorem words_any {B B' : Nat} {w : World} {v v' : Value} {xs ys : List ByteArray} (hx : Rd StrAt 1 B w v xs) (hy : Rd StrAt 1 B' w v' ys) (_hn : xs.length ≤ 1000000) :
  Calls Tryz.prog 71 #[v, v'] w fun e w' => e = .returned (.bool (decide (xs = ys))) ∧ Qt w w' := by
 obtain ⟨A, c, rfl, _⟩ := id hx
 obtain ⟨A', c', rfl, _⟩ := id hy
 by_cases hlen : xs.length = ys.length
 ·have hne : ((xs.length : Int) != (ys.length : Int)) = false := by simp [hlen]
  have Hl := Lib.hid hlen
  clear hlen
  go_enter Tryz.func71, Tryz.ntmps71
  go_wp2
  go_loopw [5] (fun i wr => ∃ k : Nat, k ≤ xs.length ∧ i = .int .i64 k ∧ (∀ j, j < k → xs[j]? = ys[j]?) ∧ Qt w wr) (fun i _ => xs.length - (intOf i).toNat)
  case atStart => exact ⟨0, Nat.zero_le _, rfl, fun j hj => by omega, Qt.refl _⟩
  case round =>
   obtain ⟨k, hk, rfl, hall, hq⟩ := hrel
   by_cases h1 : k < xs.length
   ·obtain ⟨ad, rfl, _, d0⟩ := (hx.qt hq).str h1
    have hl := Hl.out
    obtain ⟨ad', rfl, _, e0⟩ := (hy.qt hq).str (i := k) (by omega)
    have hk2 : k < ys.length := by omega
    clear hl
    have HA := Lib.hid hall
    have HQ := Lib.hid hq
    have Hx := Lib.hid (show xs[k]? = some (xs[k]?.getD ByteArray.empty) by simp [h1])
    have Hy := Lib.hid (show ys[k]? = some (ys[k]?.getD ByteArray.empty) by simp [hk2])
    clear hall hq
    generalize xs[k]?.getD ByteArray.empty = x at *
    generalize ys[k]?.getD ByteArray.empty = y at *
    by_cases hxy : x = y
    ·have Hxy := Lib.hid hxy
     have hb : (x.toList == y.toList) = true := by rw [hxy]; exact beq_self_eq_true _
     have hb2 : (x.toList != y.toList) = false := by rw [bne, hb]; rfl
     clear hxy
     go_wp2
     go_quiet (fail)
     go_wp2
     go_roundw
     case rel => exact ⟨k + 1, by omega, by go_num, fun j hj => by
      by_cases hjk : j < k
      ·exact HA.out j hjk
      ·obtain rfl : j = k := by omega
       rw [Hx.out, Hy.out]
       rw [Hxy.out], HQ.out.drewN _⟩
     case measure => simp [intOf]; omega
    ·have Hxy := Lib.hid hxy
     have hb : (x.toList == y.toList) = false := str_ne hxy
     have hb2 : (x.toList != y.toList) = true := by rw [bne, hb]; rfl
     clear hxy
     go_wp2
     go_quiet (fail)
     go_wp2
     go_ret
     refine ⟨retB ?_, HQ.out.drewN _⟩
     symm
     refine decide_eq_false fun e => Hxy.out ?_
     rw [e] at Hx
     exact Option.some.inj (Hx.out.symm.trans Hy.out)
   ·have hkk : k = xs.length := by omega
    subst hkk
    have HA := Lib.hid hall
    have HQ := Lib.hid hq
    clear hall hq
    go_wp2
    go_ret
    refine ⟨retB ?_, HQ.out⟩
    symm
    rw [decide_eq_true_eq]
    apply List.ext_getElem?
    intro j
    by_cases hj : j < xs.length
    ·exact HA.out j hj
    ·have := Hl.out
     rw [List.getElem?_eq_none (by omega), List.getElem?_eq_none (by omega)]
 ·have hne : ((xs.length : Int) != (ys.length : Int)) = true := by simpa using fun h => hlen (by exact_mod_cast h)
  have Hf := Lib.hid (show decide (xs = ys) = false from decide_eq_false fun e => hlen (by rw [e]))
  clear hlen
  go_enter Tryz.func71, Tryz.ntmps71
  go_wp2
  go_ret
  exact ⟨retB Hf.out.symm, Qt.refl _⟩
theorem spans_any {B B' : Nat} {w : World} {v v' : Value} {xs ys : List (Int × Int)} (hx : Rd SpanAt 2 B w v xs) (hy : Rd SpanAt 2 B' w v' ys) (_hn : xs.length ≤ 1000000) :
  Calls Tryz.prog 32 #[v, v'] w fun e w' => e = .returned (.bool (decide (xs = ys))) ∧ Qt w w' := by
 obtain ⟨A, c, rfl, _⟩ := id hx
 obtain ⟨A', c', rfl, _⟩ := id hy
 by_cases hlen : xs.length = ys.length
 ·have hne : ((xs.length : Int) != (ys.length : Int)) = false := by simp [hlen]
  have Hl := Lib.hid hlen
  clear hlen
  go_enter Tryz.func32, Tryz.ntmps32
  go_wp2
  go_loopw [5] (fun i wr => ∃ k : Nat, k ≤ xs.length ∧ i = .int .i64 k ∧ (∀ j, j < k → xs[j]? = ys[j]?) ∧ Qt w wr) (fun i _ => xs.length - (intOf i).toNat)
  case atStart => exact ⟨0, Nat.zero_le _, rfl, fun j hj => by omega, Qt.refl _⟩
  case round =>
   obtain ⟨k, hk, rfl, hall, hq⟩ := hrel
   by_cases h1 : k < xs.length
   ·obtain ⟨ad, rfl, _, d0, d1⟩ := (hx.qt hq).span h1
    have hl := Hl.out
    obtain ⟨ad', rfl, _, e0, e1⟩ := (hy.qt hq).span (i := k) (by omega)
    have hk2 : k < ys.length := by omega
    clear hl
    have HA := Lib.hid hall
    have HQ := Lib.hid hq
    have Hx := Lib.hid (show xs[k]? = some (xs[k]?.getD default) by simp [h1])
    have Hy := Lib.hid (show ys[k]? = some (ys[k]?.getD default) by simp [hk2])
    clear hall hq
    generalize xs[k]?.getD default = x at *
    generalize ys[k]?.getD default = y at *
    obtain ⟨x1, x2⟩ := x
    obtain ⟨y1, y2⟩ := y
    simp only at d0 d1 e0 e1
    by_cases hxy : x1 = y1 ∧ x2 = y2
    ·have Hxy := Lib.hid hxy
     obtain ⟨g1, g2⟩ := id hxy
     have hb1 : (x1 == y1) = true := by simp [g1]
     have hb2 : (x2 == y2) = true := by simp [g2]
     clear g1 g2
     clear hxy
     go_wp2
     go_quiet (fail)
     go_wp2
     go_roundw
     case rel => exact ⟨k + 1, by omega, by go_num, fun j hj => by
      by_cases hjk : j < k
      ·exact HA.out j hjk
      ·obtain rfl : j = k := by omega
       rw [Hx.out, Hy.out]
       obtain ⟨g1, g2⟩ := Hxy.out; rw [g1, g2], HQ.out.drewN _⟩
     case measure => simp [intOf]; omega
    ·have Hxy := Lib.hid hxy
     by_cases g1 : x1 = y1
     rotate_left
     ·have hb1 : (x1 == y1) = false := by simp [g1]
      clear hxy g1
      go_wp2
      go_quiet (fail)
      go_wp2
      go_ret
      refine ⟨retB ?_, HQ.out.drewN _⟩
      symm
      refine decide_eq_false fun e => Hxy.out ?_
      rw [e] at Hx
      exact (fun e => by simpa using e) (Option.some.inj (Hx.out.symm.trans Hy.out))
     have hb1 : (x1 == y1) = true := by simp [g1]
     have hb2 : (x2 == y2) = false := by simpa using fun h => hxy ⟨g1, h⟩
     clear hxy g1
     go_wp2
     go_quiet (fail)
     go_wp2
     go_ret
     refine ⟨retB ?_, HQ.out.drewN _⟩
     symm
     refine decide_eq_false fun e => Hxy.out ?_
     rw [e] at Hx
     exact (fun e => by simpa using e) (Option.some.inj (Hx.out.symm.trans Hy.out))
   ·have hkk : k = xs.length := by omega
    subst hkk
    have HA := Lib.hid hall
    have HQ := Lib.hid hq
    clear hall hq
    go_wp2
    go_ret
    refine ⟨retB ?_, HQ.out⟩
    symm
    rw [decide_eq_true_eq]
    apply List.ext_getElem?
    intro j
    by_cases hj : j < xs.length
    ·exact HA.out j hj
    ·have := Hl.out
     rw [List.getElem?_eq_none (by omega), List.getElem?_eq_none (by omega)]
 ·have hne : ((xs.length : Int) != (ys.length : Int)) = true := by simpa using fun h => hlen (by exact_mod_cast h)
  have Hf := Lib.hid (show decide (xs = ys) = false from decide_eq_false fun e => hlen (by rw [e]))
  clear hlen
  go_enter Tryz.func32, Tryz.ntmps32
  go_wp2
  go_ret
  exact ⟨retB Hf.out.symm, Qt.refl _⟩
end Go.Proofs.YthnimhnlnddnoaaGreatDoor
