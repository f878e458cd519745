/- Parts of the proof of TpP: RvZ9. -/
import Derived.Test.YthnimhnlnddnoaaGreatDoorH18
import Derived.WalkKit
import Derived.Deep.Quiet
set_option linter.unusedSimpArgs false
set_option linter.unusedVariables false
set_option maxRecDepth 100000
set_option maxHeartbeats 8000000
namespace Go.Proofs.YthnimhnlnddnoaaGreatDoor
open Go.RowKit Go.Shelf
attribute [local go_sem] Oper.semAt_some
theorem carve1_snoc (h : Int) : ∀ (t : List (Nat × Int)) (p : Nat × Int) (l : List Int), carve1 h (t ++ [p]) l = (carve1 h t l).set p.1 (min ((carve1 h t l).getD p.1 0) (h - p.2))
 | [], _, _ => rfl
 | q :: t, p, l => by rw [List.cons_append, carve1, carve1, carve1_snoc h t p]
def carveQ (r : List RvR) (i q : Nat) : List Int := carve1 (rvH r i) ((belL r i).take q) (carveK r i)
theorem carveQ_zero (r : List RvR) (i : Nat) : carveQ r i 0 = carveK r i := by simp [carveQ, carve1]
theorem carveQ_all (r : List RvR) (i : Nat) : carveQ r i (belL r i).length = carveK r (i + 1) := by unfold carveQ; rw [List.take_length]; rfl
theorem carveQ_succ {r : List RvR} {i q : Nat} {p : Nat × Int} (h : (belL r i)[q]? = some p) : carveQ r i (q + 1) = (carveQ r i q).set p.1 (min ((carveQ r i q).getD p.1 0) (rvH r i - p.2)) := by
 have hlt := (List.getElem?_eq_some_iff.1 h).1
 unfold carveQ
 rw [List.take_succ_eq_append_getElem hlt, (List.getElem?_eq_some_iff.1 h).2, carve1_snoc]
theorem carveQ_len (r : List RvR) (i q : Nat) : (carveQ r i q).length = r.length := by unfold carveQ; rw [carve1_len, carveK_len]
theorem carveQ_le {r : List RvR} (hc : CarveOK r) {i : Nat} (hi : i < r.length) (q k : Nat) (hk : k < r.length) : 0 ≤ (carveQ r i q).getD k 0 ∧ (carveQ r i q).getD k 0 ≤ 9000 := by
 have h0 := carveK_between (r := r) (f := fun _ => 0) (fun i hi p hp => by have := hc i hi p hp; omega) (fun _ _ => by omega) i (by omega)
 exact carve1_between (f := fun _ => 0) _ _ (fun p hp => by have := hc i hi p (List.mem_of_mem_take hp); omega) (fun j hj => h0 j (by rw [carveK_len] at hj; exact hj)) k (by rw [carveK_len]; exact hk)
def LArr (w : World) (g : Nat) (l : List Int) : Prop := IArr w g l.length fun d => l.getD d 0
theorem LArr.set_ {w : World} {g : Nat} {l : List Int} (h : LArr w g l) {i : Nat} (hi : i < l.length) (v : Int) : LArr (w.setCell ⟨g, i, none⟩ (.int .i64 v)) g (l.set i v) := by
 unfold LArr
 rw [List.length_set]
 refine (IArr.set_ h i v).congr fun d => ?_
 rw [getD_set hi]
 by_cases e : d = i
 ·rw [if_pos e, if_pos e.symm]
 ·rw [if_neg e, if_neg (fun h => e h.symm)]
theorem LArr.cell {w : World} {g : Nat} {l : List Int} (h : LArr w g l) {i : Nat} (hi : i < l.length) : w.cell? ⟨g, i, none⟩ = some (.int .i64 (l.getD i 0)) := IArr.cell h hi
theorem flat_ints (l : List Int) : l.flatMap (Enc.enc (α := Int)) = l.map fun x => Value.int .i64 x := by
 induction l with
 | nil => rfl
 | cons x l ih => rw [List.flatMap_cons, ih]; rfl
theorem LArr.own {base : Nat} {w : World} {g : Nat} {l : List Int} (h : LArr w g l) (hb : base ≤ g) (hl : l.length ≤ 1000) : Own base 3 w (.slice (some ⟨g, 0, none⟩) l.length l.length) l := by
 have e : intsC l.length (fun d => l.getD d 0) = (l.flatMap (Enc.enc (α := Int))).toArray := by
  unfold intsC
  rw [flat_ints]
  congr 1
  refine List.ext_getElem (by simp) fun i h1 h2 => ?_
  have hi : i < l.length := by simpa using h1
  simp [List.getElem?_eq_getElem hi]
 have h2 : w.heap[g]? = some (.cells (l.flatMap (Enc.enc (α := Int))).toArray 3) := by rw [← e]; exact h
 refine ⟨by rw [flat_len], .inr ⟨g, l.length, (l.flatMap (Enc.enc (α := Int))).toArray, rfl, hb, h2, Nat.le_refl _, by unfold maxLen; omega, ?_, ?_⟩⟩
 ·rw [flat_ints]; simp
 ·rw [flat_ints]
  exact List.take_of_length_le (by simp)
theorem exec_make {P : Program} {o : Oper} {a : Act} {w w' : World} (T : TypeId) (x y : Operand) (ho : o.op = .makeSlice T x y) {u u2 v : Value} (hx : a.eval x = u) (hy : a.eval y = u2) (hr : (Instr.makeSlice T u u2).run P w = .ok v w') : (execOp a.eval o).run P w = .ok (.value v) w' := by
 unfold execOp
 rw [ho]
 simp only [Sem.run_bind, Sem.run_pure, hx, hy, hr, Result.andThen_ok]
theorem results14 {w : World} {a b : Addr} {v u : Value} {tmps : Array Value} (h1 : w.cell? a = some v) (h2 : w.cell? b = some u) (t1 : tmps[2]?.getD undef = .pointer (some a)) (t2 : tmps[3]?.getD undef = .pointer (some b)) :
  (results Tryz.f14 tmps).run Tryz.prog w = .ok (.tuple #[v, u]) w := by
 have hl : (loadVar 30 a).run Tryz.prog w = .ok v w := by simp [loadVar, go_sem, h1]
 have hl2 : (loadVar 26 b).run Tryz.prog w = .ok u w := by simp [loadVar, go_sem, h2]
 simp [results, Tryz.results14, t1, t2, asAddr, hl, hl2]
theorem rcarve_any {B : Nat} {w : World} {v : Value} {r : List RvR} (hs : Rd RvAt 4 B w v r) (hg : RGood r) (hc : CarveOK r) (hB : B ≤ w.heap.size) :
  Calls Tryz.prog 14 #[v] w (OwnRes w.heap.size 3 (carveL r) 0 w) := by
 obtain ⟨A, cap, rfl, h5, h6, _⟩ := id hs
 have hlen := hg.len
 obtain ⟨W1, hW1, r1, z1, d1⟩ := box_any w #[.slice none 0 0] 30
 obtain ⟨W2, hW2, r2, z2, d2⟩ := box_any W1 #[.int .i64 0] 26
 have hb2 : Below w.heap.size w W2 := d1.trans (d2.mono (by omega))
 have HG := Lib.hid hg
 have HCo := Lib.hid hc
 have HS0 := Lib.hid hs
 have HO := Lib.hid (ropen_any (hs.below (hb2.mono hB)) hg (Nat.le_trans hB hb2.size))
 have HS2 := Lib.hid (hs.below (hb2.mono hB))
 have HB2 := Lib.hid hb2
 have HR1 := Lib.hid ((d2.block _ (by omega)).trans r1)
 rw [z1] at r2
 have HR2 := Lib.hid r2
 have HZ2 := Lib.hid (show W2.heap.size = w.heap.size + 2 by omega)
 clear hs hg hc h5 h6 d1 d2 z1 z2 r1 r2 hb2
 refine calls_of_wp_marks Tryz.func14 rfl ?_
 simp only [Tryz.ntmps14, List.size_toArray, List.length_cons, List.length_nil, Nat.reduceAdd, Nat.reduceSub, Array.replicate_succ,
   Array.replicate_zero, List.push_toArray, List.append_toArray, List.nil_append, List.cons_append]
 go_upto_region 1 with (fail)
 rw [← hW1, ← hW2]
 clear hW1 hW2
 go_upto_region 4 with (go_at_call 46; refine HO.out.mono ?_; rintro e w1 ⟨b, rfl, hL, hb, hb1⟩)
 have HB1 := Lib.hid (HB2.out.trans (hb1.mono HB2.out.size))
 have HK1 := Lib.hid ((hb1.block _ (lt_of_block HR1.out)).trans HR1.out)
 have HK2 := Lib.hid ((hb1.block _ (lt_of_block HR2.out)).trans HR2.out)
 have hBw2 := Nat.le_trans hB HB2.out.size
 have HL := Lib.hid (LkN.of_open HS2.out hBw2 hL hb1)
 have hbw : w.heap.size + 2 ≤ w1.heap.size := by have := hb1.size; have := HZ2.out; omega
 obtain ⟨W3, hW3, r3, z3, d3⟩ := box_any w1 (intsC r.length fun _ => 0) 3
 have hmk := make_ints r.length (by omega) w1
 rw [← hW3] at hmk
 obtain ⟨W4, hW4, r4, z4, d4⟩ := box_any W3 #[.slice (some ⟨w1.heap.size, 0, none⟩) r.length r.length] 30
 have hA4 : LArr W4 w1.heap.size (List.replicate r.length 0) := by
  have h : IArr W4 w1.heap.size r.length (fun _ => 0) := (d4.block _ (by omega)).trans r3
  unfold LArr
  rw [List.length_replicate]
  refine h.congr fun d => ?_
  rw [List.getD_eq_getElem?_getD, List.getElem?_replicate]
  split <;> rfl
 have HA4 := Lib.hid hA4
 rw [z3] at r4
 have HR4 := Lib.hid r4
 have HZ4 := Lib.hid (show W4.heap.size = w1.heap.size + 2 by omega)
 have HB4 := Lib.hid (show Below w1.heap.size w1 W4 from d3.trans (d4.mono (by omega)))
 have Z3 := Lib.hid z3
 clear hL hb1 hA4 d3 r3 z3 d4 r4 z4 hbw
 obtain ⟨gl, hgl⟩ : ∃ g, g = w1.heap.size := ⟨_, rfl⟩
 have HMK := Lib.hid hmk
 have HW4 := Lib.hid hW4
 clear hmk hW3 hW4
 go_upto_region 5 with (at_make; refine wpList_exec rfl (exec_make 30 (.tmp 21) (.tmp 21) rfl rfl rfl HMK.out) ?_)
 rw [← HW4.out, Z3.out, ← hgl]
 rw [← hgl] at HA4 HR4 HZ4 Z3
 have hbl := HL.out.riv.lt
 have hgw : w.heap.size + 2 ≤ gl := by rw [hgl]; exact Nat.le_trans (by have := HZ2.out; omega) (Nat.le_trans hb (Nat.le_of_lt hbl))
 rw [← hgl] at hbl
 have HGL := Lib.hid hgl
 clear hgl HMK HW4 Z3
 go_wp2
 go_loopw [25] (fun i wr => ∃ k : Nat, k ≤ r.length ∧ i = .int .i64 k ∧ LArr wr gl (List.replicate k 9000 ++ List.replicate (r.length - k) 0) ∧ wr.heap[gl + 1]? = some (.cells #[.slice (some ⟨gl, 0, none⟩) r.length r.length] 30) ∧ Below gl w1 wr ∧ gl + 2 ≤ wr.heap.size) (fun i _ => r.length - (intOf i).toNat)
 case atStart => exact ⟨0, Nat.zero_le _, rfl, by simpa using HA4.out, HR4.out, by rw [HGL.out]; exact HB4.out, by have := HZ4.out; omega⟩
 case round =>
  obtain ⟨k, hk, rfl, ha, hx, hbr, hz⟩ := hrel
  have x0 := cellOf hx 0 (v := .slice (some ⟨gl, 0, none⟩) r.length r.length) rfl
  have HA := Lib.hid ha
  have HX := Lib.hid hx
  have Hbr := Lib.hid hbr
  by_cases hlt : k < r.length
  ·have hl : k < (List.replicate k (9000 : Int) ++ List.replicate (r.length - k) 0).length := by simp; omega
   have e0 := ha.cell hl
   have f0 := IArr.frozen ha k
   have HE := Lib.hid (show (List.replicate k (9000 : Int) ++ List.replicate (r.length - k) 0).set k 9000 = List.replicate (k + 1) (9000 : Int) ++ List.replicate (r.length - (k + 1)) 0 by
    rw [List.set_append_right _ _ (by simp), List.length_replicate, Nat.sub_self]
    obtain ⟨m, hm⟩ : ∃ m, r.length - k = m + 1 := ⟨r.length - k - 1, by omega⟩
    rw [hm, show r.length - (k + 1) = m by omega, List.replicate_succ, List.set_cons_zero, List.replicate_succ', List.append_assoc]
    rfl)
   have HLn := Lib.hid hl
   clear ha hx hbr hl
   generalize (List.replicate k (9000 : Int) ++ List.replicate (r.length - k) 0).getD k 0 = ov at *
   go_wp2
   go_roundw
   case rel =>
    refine ⟨k + 1, by omega, by go_num, by rw [← HE.out]; exact HA.out.set_ HLn.out 9000, (Below.heap_setCell _ _ _ _ (by show gl + 1 ≠ gl; omega)).trans HX.out, Hbr.out.setCell (Nat.le_refl _) _, by simp [World.setCell]; omega⟩
   case measure => simp [intOf]; omega
  ·have hkn : k = r.length := by omega
   have HK := Lib.hid (show LArr wr gl (carveK r 0) by rw [hkn, Nat.sub_self] at ha; simpa [carveK] using ha)
   clear ha hx hbr hkn x0
   go_wp2
   refine wp_loop (fun a2 w2 => ∃ (u8 u9 u10 u11 u34 u35 u36 u37 u38 u39 u40 u41 u42 u43 u44 u47 u48 u49 u50 u51 u52 u53 u54 u55 u56 u57 u58 u59 u60 u61 u62 u63 u64 : Value) (ds : List Deferred), (fun i w2 ds => ∃ m : Nat, m ≤ r.length ∧ i = .int .i64 m ∧ LArr w2 gl (carveK r m) ∧ w2.heap[gl + 1]? = some (.cells #[.slice (some ⟨gl, 0, none⟩) r.length r.length] 30) ∧ Below gl w1 w2 ∧ gl + 2 ≤ w2.heap.size ∧ Marks (gl + 2) w2.heap.size w2 ds) u34 w2 ds ∧ a2 = { tmps := #[Value.slice A r.length cap, undef, Value.pointer (some { block := w.heap.size, off := 0 }), Value.pointer (some { block := w.heap.size + 1, off := 0 }), Value.pointer (some { block := b, off := 0 }), Value.int IntKind.i64 0, Value.pointer (some { block := gl + 1, off := 0 }), u7, u8, u9, u10, u11, Value.tuple #[Value.pointer (some { block := b, off := 0 }), Value.int IntKind.i64 0], Value.slice A r.length cap, Value.tuple #[Value.pointer (some { block := b, off := 0 }), Value.int IntKind.i64 0], Value.pointer (some { block := b, off := 0 }), Value.int IntKind.i64 0, Value.int IntKind.i64 0, Value.bool false, undef, Value.slice A r.length cap, Value.int IntKind.i64 ↑r.length, Value.slice (some { block := gl, off := 0 }) r.length r.length, Value.slice A r.length cap, Value.int IntKind.i64 ↑r.length, Value.int IntKind.i64 ↑k, Value.bool false, u27, u28, u29, u30, u31, Value.slice A r.length cap, Value.int IntKind.i64 ↑r.length, u34, u35, u36, u37, u38, u39, u40, u41, u42, u43, u44, undef, undef, u47, u48, u49, u50, u51, u52, u53, u54, u55, u56, u57, u58, u59, u60, u61, u62, u63, u64, undef], defers := ds }) (fun a2 _ => (fun i => r.length - (intOf i).toNat) (a2.tmps.getD 34 undef)) ?start ?round
   case start =>
    repeat apply Exists.intro
    refine ⟨?_, rfl⟩
    exact ⟨0, Nat.zero_le _, rfl, HK.out, HX.out, Hbr.out, hz, trivial⟩
   case round =>
    intro a2 wr hinv
    obtain ⟨u8, u9, u10, u11, u34, u35, u36, u37, u38, u39, u40, u41, u42, u43, u44, u47, u48, u49, u50, u51, u52, u53, u54, u55, u56, u57, u58, u59, u60, u61, u62, u63, u64, ds, hrel, ha⟩ := hinv
    subst ha
    try dsimp only
    clear HK HX Hbr HA hz
    obtain ⟨m, hm, rfl, ha, hx, hbr, hz, hM⟩ := hrel
    by_cases hlt2 : m < r.length
    ·obtain ⟨ad, rfl, _, n0, n1, n2, n3⟩ := (HS0.out.below ((HB1.out.trans (hbr.mono (by omega))).mono hB)).rv hlt2
     have HRH := Lib.hid (show rvH r m = (r.getD m default).hgt from rfl)
     generalize r.getD m default = x at *
     obtain ⟨nm, dn, ls, hg⟩ := x
     simp only at n0 n1 n2 n3 HRH
     obtain ⟨W5, hW5, r5, z5, d5⟩ := box_any wr #[.string nm, .int .i64 dn, .int .i64 ls, .int .i64 hg] 51
     have HA := Lib.hid ((show LArr W5 gl (carveK r m) from (d5.block _ (by omega)).trans ha))
     have HX := Lib.hid ((d5.block _ (by omega)).trans hx)
     have HB5 := Lib.hid (hbr.trans (d5.mono (by omega)))
     have HM := Lib.hid (hM.below d5)
     have HR5 := Lib.hid r5
     have HZ5 := Lib.hid z5
     have hL5 : RivAt W5 b (.slice (some ad) r.length cap) (dropP r r.length) := (HB5.out.block b hbl).trans HL.out.riv
     have p0 := hL5.pts
     clear ha hx hbr hM r5 z5 d5 hL5
     go_upto_region 13 with (fail)
     rw [← hW5]
     clear hW5
     obtain ⟨g9, hg9⟩ : ∃ g, g = wr.heap.size := ⟨_, rfl⟩
     rw [← hg9] at HR5 HZ5 HM hz ⊢
     have HG9 := Lib.hid hg9
     clear hg9 n0 n1 n2 n3
     go_wp2_with (go_at_call 49; refine (rbelow_any _ _ _ _ _).mono ?_; rintro e w' ⟨rfl, rfl⟩)
     clear p0
     refine below_law (w := W5) HG.out hlt2 (B := gl) (A := some ad) (c := cap) ?hs ?hB rfl rfl
      (fun q W => LArr W gl (carveQ r m q) ∧ W.heap[gl + 1]? = some (.cells #[.slice (some ⟨gl, 0, none⟩) r.length r.length] 30) ∧ W.heap[g9]? = some (.cells #[.string nm, .int .i64 dn, .int .i64 ls, .int .i64 hg] 51) ∧ Marks (gl + 2) g9 W ds) (fun _ _ => False) ?hE ?hX rfl ?h0 ?hround ?hdone ?hstop
     case hs => exact (HS0.out.below ((HB1.out.trans (HB5.out.mono (by omega))).mono hB)).mono (by omega)
     case hB => have := HZ5.out; omega
     case hE =>
      rintro q A B ⟨h1, h2, h3, h4⟩ hst
      have := HZ5.out
      exact ⟨(hst.low _ (by omega)).trans h1, (hst.low _ (by omega)).trans h2, (hst.low _ (by omega)).trans h3, h4.keep fun b o hb ho _ => (hst.low _ (by omega)).trans ho⟩
     case hX => exact fun _ _ _ h => h.elim
     case h0 =>
      have hb0 : Below W5.heap.size W5 ((W5.alloc (.cells #[.slice (some ad) r.length cap] 95)).alloc (.cells #[.int .i64 m] 3)) := ((Below.refl _ _).alloc (Nat.le_refl _) _).alloc (by simp) _
      have := HZ5.out
      exact ⟨by rw [carveQ_zero]; exact (hb0.block _ (by omega)).trans HA.out, (hb0.block _ (by omega)).trans HX.out, (hb0.block _ (by omega)).trans HR5.out, HM.out.keep fun b o hb ho _ => (hb0.block _ (by omega)).trans ho⟩
     case hstop => exact fun _ _ _ _ _ h => h.elim
     case hdone =>
      rintro d W hd hbW ⟨h1, h2, h3, h4⟩ hk
      rw [carveQ_all] at h1
      have H1 := Lib.hid h1
      have H2 := Lib.hid h2
      have H4 := Lib.hid h4
      have HD := Lib.hid hk
      have HBW := Lib.hid (HB5.out.trans hbW)
      have hgd : g9 ≤ d := by have := HZ5.out; omega
      have hdz : d < W.heap.size := lt_of_block hk
      clear h1 h2 h3 h4 hk hbW
      simp only [Exit.inBlock, Exit.then]
      go_wp2
      refine ⟨⟨_, _, _, _, _, _, _, _, _, _, _, _, _, _, _, _, _, _, _, _, _, _, _, _, _, _, _, _, _, _, _, _, _, _, ?rel, rfl⟩, ?measure⟩
      case rel => exact ⟨m + 1, by omega, by go_num, H1.out, H2.out, HBW.out, by omega, Marks.cons (by omega) hdz HD.out (H4.out.up hgd)⟩
      case measure => simp [intOf]; omega
     case hround =>
      rintro l q p W hp hbW ⟨h1, h2, h3, h4⟩ hl1 hl2
      generalize hT : Array.foldl _ _ _ = T
      simp at hT
      subst hT
      gi_wp2
      refine ⟨NC.refl _, fun W₂ hbk hsz => ?_⟩
      obtain ⟨p1, p2⟩ := p
      obtain ⟨q1, b1, b2, _⟩ := belL_at HG.out hlt2 hp
      have HCS := Lib.hid (carveQ_succ hp)
      simp only at q1 b1 b2 HCS
      have hz5 := HZ5.out
      have hcl := carveQ_le HCo.out hlt2 q p1 q1
      have hmn := HCo.out m hlt2 _ (List.mem_of_getElem? hp)
      simp only at hmn
      have hln := carveQ_len r m q
      rw [HRH.out] at hmn HCS
      have hh := HG.out.hgt m hlt2
      rw [HRH.out] at hh
      have hbk2 := hbk.below
      have a2 : LArr W₂ gl (carveQ r m q) := (hbk2.block _ (by omega)).trans h1
      have x2 := (hbk2.block _ (by omega)).trans h2
      have y2 := (hbk2.block _ (by omega)).trans h3
      have hpl : p1 < (carveQ r m q).length := by rw [hln]; exact q1
      have x0 := cellOf x2 0 (v := .slice (some ⟨gl, 0, none⟩) r.length r.length) rfl
      have y3 := cellOf y2 3 (v := .int .i64 hg) rfl
      have e0 := a2.cell hpl
      have f0 := IArr.frozen a2 p1
      have A2 := Lib.hid a2
      have X2 := Lib.hid x2
      have Y2 := Lib.hid y2
      have H4 := Lib.hid (h4.keep fun b o hb ho _ => (hbk2.block b (by omega)).trans ho)
      have HBW := Lib.hid hbW
      have HBK := Lib.hid hbk2
      have HPL := Lib.hid hpl
      have hz5 := Lib.hid hz5
      clear hbk hbk2 a2 x2 y2 h1 h2 h3 h4 hbW hp hsz hln hpl
      obtain ⟨cq, hcq⟩ : ∃ cq, cq = carveQ r m q := ⟨_, rfl⟩
      rw [← hcq] at A2 HPL HCS hcl e0
      clear hcq
      generalize cq.getD p1 0 = ov at *
      gi_wp2
      refine round_quiet_tail (C := fun w' => ∃ n, w' = W₂.drewN n) 12 (by kernel_rfl) (by kernel_rfl) ⟨1, rfl⟩ ?_
      simp only [List.take_succ_cons, List.take_zero, List.drop_succ_cons, List.drop_zero]
      repeat (first | go_big_quiet_step (fail) | quiet_step (fail))
      refine wpQuiet_nil ?_
      rintro _ ⟨n2, rfl⟩
      have a3 := (show LArr (W₂.drewN n2) gl cq from A2.out).set_ HPL.out (min ov (hg - p2))
      have x3 : ((W₂.drewN n2).setCell ⟨gl, p1, none⟩ (.int .i64 (min ov (hg - p2)))).heap[gl + 1]? = some (.cells #[.slice (some ⟨gl, 0, none⟩) r.length r.length] 30) := (Below.heap_setCell _ _ _ _ (by show gl + 1 ≠ gl; omega)).trans X2.out
      have x4 := cellOf x3 0 (v := .slice (some ⟨gl, 0, none⟩) r.length r.length) rfl
      have e3 := a3.cell (show p1 < (cq.set p1 (min ov (hg - p2))).length by rw [List.length_set]; exact HPL.out)
      rw [getD_set HPL.out, if_pos rfl] at e3
      have hge : 0 ≤ min ov (hg - p2) := by omega
      have A3 := Lib.hid a3
      have X3 := Lib.hid x3
      clear a3 x3
      gi_wp2
      have hz := hz5.out
      refine ⟨(NC.refl W₂).setCell _ _, ⟨?_, ?_, ?_⟩, by rw [HCS.out]; exact A3.out, X3.out, ?_, ?_⟩
      ·exact (below_drewN (HBW.out.trans (HBK.out.mono (by omega))) n2).setCell (Nat.le_refl gl) _
      ·exact (Below.heap_setCell _ _ _ _ (by show W5.heap.size ≠ gl; omega)).trans (HBK.out.block _ (by omega))
      ·exact (Below.heap_setCell _ _ _ _ (by show W5.heap.size + 1 ≠ gl; omega)).trans (HBK.out.block _ (by omega))
      ·exact (Below.heap_setCell _ _ _ _ (by show g9 ≠ gl; omega)).trans Y2.out
      ·exact H4.out.nc ((NC.refl W₂).setCell _ _)
    ·have hmn : m = r.length := by omega
     have x0 := cellOf hx 0 (v := .slice (some ⟨gl, 0, none⟩) r.length r.length) rfl
     have k1 := (hbr.block _ (by omega)).trans HK1.out
     have k2 := (hbr.block _ (by omega)).trans HK2.out
     have c1 := cellOf k1 0 (v := .slice none 0 0) rfl
     have c2 := cellOf k2 0 (v := .int .i64 0) rfl
     have f1 : wr.frozen? ⟨w.heap.size, 0, none⟩ = false := by simp [World.frozen?, k1]
     have f2 : wr.frozen? ⟨w.heap.size + 1, 0, none⟩ = false := by simp [World.frozen?, k2]
     have HA := Lib.hid (show LArr wr gl (carveL r) by rw [hmn] at ha; exact ha)
     have Hbr := Lib.hid hbr
     have HM := Lib.hid hM
     have K1 := Lib.hid k1
     have K2 := Lib.hid k2
     clear ha hx hbr hM hmn k1 k2
     go_wp2
     have hx1 := heap_setCell_row K1.out (n := 0) (.slice (some ⟨gl, 0, none⟩) r.length r.length)
     have hx2 := heap_setCell_row ((Below.heap_setCell wr ⟨w.heap.size, 0, none⟩ (.slice (some ⟨gl, 0, none⟩) r.length r.length) _ (by show w.heap.size + 1 ≠ w.heap.size; omega)).trans K2.out) (n := 0) (.int .i64 0)
     have hl := carveK_len r r.length
     refine leaves_marks ds _ _ (HM.out.nc (((NC.refl wr).setCell _ _).setCell _ _)) fun w' hb => ?_
     have e1 := hb.cell (cellOf ((Below.heap_setCell _ _ _ _ (by show w.heap.size ≠ w.heap.size + 1; omega)).trans hx1) 0 (v := .slice (some ⟨gl, 0, none⟩) r.length r.length) rfl)
     have e2 := hb.cell (cellOf hx2 0 (v := .int .i64 0) rfl)
     have ha : LArr w' gl (carveL r) := hb.data _ _ ((Below.heap_setCell _ _ _ _ (by show gl ≠ w.heap.size + 1; omega)).trans ((Below.heap_setCell _ _ _ _ (by show gl ≠ w.heap.size; omega)).trans HA.out)) rfl
     refine ⟨_, results14 e1 e2 rfl rfl, some ⟨gl, 0, none⟩, r.length, ?_, ?_, ?_⟩
     ·rw [show (carveL r).length = r.length from hl]
     ·have := ha.own (base := w.heap.size) (by omega) (by rw [show (carveL r).length = r.length from hl]; omega)
      rwa [show (carveL r).length = r.length from hl] at this ⊢
     ·exact HB1.out.trans (((Hbr.out.mono (show w.heap.size ≤ gl by omega)).setCell (Nat.le_refl _) _).setCell (by show w.heap.size ≤ w.heap.size + 1; omega) _ |>.trans (hb.below.mono (show w.heap.size ≤ gl + 2 by omega)))
end Go.Proofs.YthnimhnlnddnoaaGreatDoor
