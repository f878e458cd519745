/- Parts of the proof of TpP: Sam2, Hlp, GhO. -/
import Derived.Test.YthnimhnlnddnoaaGreatDoorH28
import Derived.WalkKit
import Derived.Deep.Quiet
import Derived.Test.YthnimhnlnddnoaaGreatDoorH21
import Derived.Test.YthnimhnlnddnoaaGreatDoorH5
import Derived.Test.YthnimhnlnddnoaaGreatDoorH25
set_option linter.unusedSimpArgs false
set_option linter.unusedVariables false
set_option maxRecDepth 100000
set_option maxHeartbeats 8000000
namespace Go.Proofs.YthnimhnlnddnoaaGreatDoor
open Go.RowKit
def EqS (a b : ShR) : Prop := a.iv = b.iv ∧ a.pts = b.pts ∧ a.notes = b.notes
instance (a b : ShR) : Decidable (EqS a b) := by unfold EqS; exact inferInstance
theorem eqS_iff {a b : ShR} : EqS a b ↔ a = b := by
 obtain ⟨x1, x2, x3⟩ := a
 obtain ⟨y1, y2, y3⟩ := b
 simp [EqS]
theorem same_any {B B' : Nat} {w : World} {v v' : Value} {a b : ShR} (ha : RdSh B w v a) (hb : RdSh B' w v' b) (hB : B ≤ w.heap.size) (hB' : B' ≤ w.heap.size) (hn : a.pts.length ≤ 1000000) (hn2 : a.notes.length ≤ 1000000) :
  Calls Tryz.prog 34 #[v, v'] w fun e w' => e = .returned (.bool (decide (EqS a b))) ∧ Below w.heap.size w w' := by
 obtain ⟨vp, vn, rfl, hp, hno⟩ := id ha
 obtain ⟨vp', vn', rfl, hp', hno'⟩ := id hb
 obtain ⟨A, c, rfl, _⟩ := id hno
 obtain ⟨A', c', rfl, _⟩ := id hno'
 obtain ⟨W1, hW1, r1, z1, b1⟩ := box_any w #[.int .i64 a.iv, vp, .slice A a.notes.length c] 38
 obtain ⟨W2, hW2, r2, z2, b2⟩ := box_any W1 #[.int .i64 b.iv, vp', .slice A' b.notes.length c'] 38
 have b12 : Below w.heap.size w W2 := b1.trans (b2.mono b1.size)
 have r1' := (b2.block _ (by omega)).trans r1
 rw [z1] at r2
 have m0 := cellOf r1' 0 rfl
 have m1 := cellOf r1' 1 rfl
 have m2 := cellOf r1' 2 rfl
 have n0 := cellOf r2 0 rfl
 have n1 := cellOf r2 1 rfl
 have n2 := cellOf r2 2 rfl
 have R1 := Lib.hid r1'
 have R2 := Lib.hid r2
 have B12 := Lib.hid b12
 have hxn := Lib.hid (hno.below (b12.mono hB))
 have hyn := Lib.hid (hno'.below (b12.mono hB'))
 have HW := Lib.hid (words_any (hp.below (b12.mono hB)) (hp'.below (b12.mono hB')) hn)
 by_cases hiv : a.iv = b.iv
 rotate_left
 ·have hf : (a.iv != b.iv) = true := by simpa using hiv
  have HR := Lib.hid (show decide (EqS a b) = false from decide_eq_false fun h => hiv h.1)
  clear hiv hp hno hp' hno' ha hb b1 b2 b12 r1 r1' r2 z1 z2
  go_enter Tryz.func34, Tryz.ntmps34
  go_upto_region 1 with (fail)
  rw [← hW1, ← hW2]
  clear hW1 hW2
  go_wp2
  go_ret
  exact ⟨retB HR.out.symm, B12.out⟩
 have hf : (a.iv != b.iv) = false := by simp [hiv]
 have HIv := Lib.hid hiv
 by_cases hpt : a.pts = b.pts
 rotate_left
 ·have HR := Lib.hid (show decide (EqS a b) = false from decide_eq_false fun h => hpt h.2.1)
  rw [decide_eq_false hpt] at HW
  clear hpt hiv hp hno hp' hno' ha hb b1 b2 b12 r1 r1' r2 z1 z2
  go_enter Tryz.func34, Tryz.ntmps34
  go_upto_region 1 with (fail)
  rw [← hW1, ← hW2]
  clear hW1 hW2
  go_wp2_with (go_at_call 71; refine HW.out.mono ?_; rintro e wq ⟨rfl, hq⟩)
  go_ret
  exact ⟨retB HR.out.symm, B12.out.trans ((hq.below _).mono B12.out.size)⟩
 rw [decide_eq_true hpt] at HW
 have HPt := Lib.hid hpt
 have HR := Lib.hid (show decide (EqS a b) = decide (a.notes = b.notes) by unfold EqS; simp [hiv, hpt])
 clear hpt hiv hp hno hp' hno' ha hb b1 b2 b12 r1 r1' r2 z1 z2
 rw [HR.out]
 generalize a.notes = xs at *
 generalize b.notes = ys at *
 by_cases hlen : xs.length = ys.length
 rotate_left
 ·have hne : ((xs.length : Int) != (ys.length : Int)) = true := by simpa using fun h => hlen (by exact_mod_cast h)
  have HF := Lib.hid (show decide (xs = ys) = false from decide_eq_false fun h => hlen (by rw [h]))
  clear hlen
  go_enter Tryz.func34, Tryz.ntmps34
  go_upto_region 1 with (fail)
  rw [← hW1, ← hW2]
  clear hW1 hW2
  go_wp2_with (go_at_call 71; refine HW.out.mono ?_; rintro e wq ⟨rfl, hq⟩; have m2 := (hq.cell m2 : wq.cell? _ = _); have n2 := (hq.cell n2 : wq.cell? _ = _))
  go_ret
  exact ⟨retB HF.out.symm, B12.out.trans ((hq.below _).mono B12.out.size)⟩
 have hne : ((xs.length : Int) != (ys.length : Int)) = false := by simp [hlen]
 have Hl := Lib.hid hlen
 clear hlen
 go_enter Tryz.func34, Tryz.ntmps34
 go_upto_region 1 with (fail)
 rw [← hW1, ← hW2]
 clear hW1 hW2
 go_wp2_with (go_at_call 71; refine HW.out.mono ?_; rintro e wq ⟨rfl, hq⟩; have m2 := (hq.cell m2 : wq.cell? _ = _); have n2 := (hq.cell n2 : wq.cell? _ = _))
 have Hq := Lib.hid hq
 clear hq m0 m1 m2 n0 n1 n2
 go_loopw [5] (fun i wr => ∃ k : Nat, k ≤ xs.length ∧ i = .int .i64 k ∧ (∀ j, j < k → xs[j]? = ys[j]?) ∧ Qt W2 wr) (fun i _ => xs.length - (intOf i).toNat)
 case atStart => exact ⟨0, Nat.zero_le _, rfl, fun j hj => by omega, Hq.out⟩
 case round =>
   obtain ⟨k, hk, rfl, hall, hq⟩ := hrel
   have m2 := hq.cell (cellOf R1.out 2 rfl)
   have n2 := hq.cell (cellOf R2.out 2 rfl)
   by_cases h1 : k < xs.length
   ·obtain ⟨ad, rfl, _, d0, d1, d2, d3, d4⟩ := (hxn.out.qt hq).note h1
    have hl := Hl.out
    obtain ⟨ad', rfl, _, e0, e1, e2, e3, e4⟩ := (hyn.out.qt hq).note (i := k) (by omega)
    have hk2 : k < ys.length := by omega
    clear hl
    have HA := Lib.hid hall
    have HQ := Lib.hid hq
    have Hx := Lib.hid (show xs[k]? = some (xs[k]?.getD default) by simp [h1])
    have Hy := Lib.hid (show ys[k]? = some (ys[k]?.getD default) by simp [hk2])
    clear hall hq
    generalize xs[k]?.getD default = x at *
    generalize ys[k]?.getD default = y at *
    obtain ⟨x1, x2, x3, x4, x5⟩ := x
    obtain ⟨y1, y2, y3, y4, y5⟩ := y
    simp only at d0 d1 d2 d3 d4 e0 e1 e2 e3 e4
    by_cases hxy : x1 = y1 ∧ x2 = y2 ∧ x3 = y3 ∧ x4 = y4 ∧ x5 = y5
    ·have Hxy := Lib.hid hxy
     obtain ⟨g1, g2, g3, g4, g5⟩ := id hxy
     have hb1 : (x1 == y1) = true := by simp [g1]
     have hb2 : (x2 == y2) = true := by simp [g2]
     have hb3 : (x3 == y3) = true := by simp [g3]
     have hb4 : (x4 == y4) = true := by simp [g4]
     have hb5 : (x5 == y5) = true := by simp [g5]
     clear g1 g2 g3 g4 g5
     clear hxy
     go_wp2
     go_quiet (fail)
     go_wp2
     go_roundw
     case rel => exact ⟨k + 1, by omega, by go_num, fun j hj => by
      by_cases hjk : j < k
      ·exact HA.out j hjk
      ·obtain rfl : j = k := by omega
       obtain ⟨g1, g2, g3, g4, g5⟩ := Hxy.out
       rw [Hx.out, Hy.out, g1, g2, g3, g4, g5], HQ.out.drewN _⟩
     case measure => simp [intOf]; omega
    ·have Hxy := Lib.hid hxy
     by_cases g1 : x1 = y1
     rotate_left
     ·have hb1 : (x1 == y1) = false := by simp [g1]
      clear hxy g1
      go_wp2
      go_quiet (fail)
      go_wp2
      go_ret
      refine ⟨retB ?_, B12.out.trans (((HQ.out.drewN _).below _).mono B12.out.size)⟩
      symm
      refine decide_eq_false fun e => Hxy.out ?_
      rw [e] at Hx
      exact (fun e => by simpa using e) (Option.some.inj (Hx.out.symm.trans Hy.out))
     have hb1 : (x1 == y1) = true := by simp [g1]
     by_cases g2 : x2 = y2
     rotate_left
     ·have hb2 : (x2 == y2) = false := by simp [g2]
      clear hxy g2
      go_wp2
      go_quiet (fail)
      go_wp2
      go_ret
      refine ⟨retB ?_, B12.out.trans (((HQ.out.drewN _).below _).mono B12.out.size)⟩
      symm
      refine decide_eq_false fun e => Hxy.out ?_
      rw [e] at Hx
      exact (fun e => by simpa using e) (Option.some.inj (Hx.out.symm.trans Hy.out))
     have hb2 : (x2 == y2) = true := by simp [g2]
     by_cases g3 : x3 = y3
     rotate_left
     ·have hb3 : (x3 == y3) = false := by simp [g3]
      clear hxy g3
      go_wp2
      go_quiet (fail)
      go_wp2
      go_ret
      refine ⟨retB ?_, B12.out.trans (((HQ.out.drewN _).below _).mono B12.out.size)⟩
      symm
      refine decide_eq_false fun e => Hxy.out ?_
      rw [e] at Hx
      exact (fun e => by simpa using e) (Option.some.inj (Hx.out.symm.trans Hy.out))
     have hb3 : (x3 == y3) = true := by simp [g3]
     by_cases g4 : x4 = y4
     rotate_left
     ·have hb4 : (x4 == y4) = false := by simp [g4]
      clear hxy g4
      go_wp2
      go_quiet (fail)
      go_wp2
      go_ret
      refine ⟨retB ?_, B12.out.trans (((HQ.out.drewN _).below _).mono B12.out.size)⟩
      symm
      refine decide_eq_false fun e => Hxy.out ?_
      rw [e] at Hx
      exact (fun e => by simpa using e) (Option.some.inj (Hx.out.symm.trans Hy.out))
     have hb4 : (x4 == y4) = true := by simp [g4]
     have hb5 : (x5 == y5) = false := by simpa using fun h => hxy ⟨g1, g2, g3, g4, h⟩
     clear hxy g1 g2 g3 g4
     go_wp2
     go_quiet (fail)
     go_wp2
     go_ret
     refine ⟨retB ?_, B12.out.trans (((HQ.out.drewN _).below _).mono B12.out.size)⟩
     symm
     refine decide_eq_false fun e => Hxy.out ?_
     rw [e] at Hx
     exact (fun e => by simpa using e) (Option.some.inj (Hx.out.symm.trans Hy.out))
   ·have hkk : k = xs.length := by omega
    subst hkk
    have HA := Lib.hid hall
    have HQ := Lib.hid hq
    clear hall hq
    go_wp2
    go_ret
    refine ⟨retB ?_, B12.out.trans ((HQ.out.below _).mono B12.out.size)⟩
    symm
    rw [decide_eq_true_eq]
    apply List.ext_getElem?
    intro j
    by_cases hj : j < xs.length
    ·exact HA.out j hj
    ·have := Hl.out
     rw [List.getElem?_eq_none (by omega), List.getElem?_eq_none (by omega)]
end Go.Proofs.YthnimhnlnddnoaaGreatDoor
namespace Go.Proofs.YthnimhnlnddnoaaGreatDoor
open Go.RowKit
theorem own_lit {α : Type} {At : World → Addr → α → Prop} {sz : Nat} [E : Enc α At sz] {w : World} {b : Nat} {e : TypeId} (xs : List α) (hn : xs.length ≤ 1000) (h : w.heap[b]? = some (.cells (xs.flatMap E.enc).toArray e)) :
  Own b e w (.slice (some ⟨b, 0, none⟩) xs.length xs.length) xs := by
 refine ⟨flat_len xs, .inr ⟨b, xs.length, (xs.flatMap E.enc).toArray, rfl, Nat.le_refl _, h, Nat.le_refl _, by unfold maxLen; omega, by simp only [List.size_toArray]; rw [flat_len], List.take_of_length_le (by show (xs.flatMap E.enc).length ≤ _; rw [flat_len]; exact Nat.le_refl _)⟩⟩
theorem flat_notes {w : World} {B : Nat} {A : Option Addr} {n c : Nat} {xs : List NoteR} (h : Rd NoteAt 5 B w (.slice A n c) xs) (ad : Addr) (hA : A = some ad) :
  ∀ j u, (xs.flatMap (Enc.enc (α := NoteR)))[j]? = some u → w.cell? (ad.add j) = some u := by
 intro j u hj
 have hlt := (List.getElem?_eq_some_iff.1 hj).1
 rw [flat_len] at hlt
 have hi : j / 5 < xs.length := by omega
 obtain ⟨A', cap', e, h1, h2, h3⟩ := h
 obtain ⟨ad', e2, hb, ha⟩ := h3 (j / 5) xs[j / 5] (List.getElem?_eq_getElem hi)
 injection e with e e' e''
 subst e
 rw [hA] at e2
 injection e2 with e2
 subst e2
 have hlt4 : j % 5 < 5 := Nat.mod_lt _ (by omega)
 have hfl : ∃ v, (Enc.enc (α := NoteR) xs[j / 5])[j % 5]? = some v := ⟨_, List.getElem?_eq_getElem (by rw [Enc.len (α := NoteR)]; exact hlt4)⟩
 obtain ⟨v, hv⟩ := hfl
 have := flat_at (xs := xs) (i := j / 5) (List.getElem?_eq_getElem hi) hv
 rw [show j / 5 * 5 + j % 5 = j by omega, hj] at this
 cases this
 have hadd : ∀ k, 0 < k → (⟨(ad.add (j / 5 * 5)).block, (ad.add (j / 5 * 5)).off + k, none⟩ : Addr) = ad.add (j / 5 * 5 + k) := by
  intro k hk
  unfold Addr.add
  rw [if_neg (show ¬ j / 5 * 5 + k = 0 by omega)]
  split
  ·rename_i h0; simp
  ·simp [Nat.add_assoc]
 obtain ⟨a0, a1, a2, a3, a4⟩ := ha
 rw [hadd 1 (by omega)] at a1
 rw [hadd 2 (by omega)] at a2
 rw [hadd 3 (by omega)] at a3
 rw [hadd 4 (by omega)] at a4
 have hj4 : j = j / 5 * 5 + j % 5 := by omega
 generalize xs[j / 5] = o at *
 generalize hq : j / 5 * 5 = q at *
 generalize hr : j % 5 = r at *
 subst hj4
 match r, hlt4, hv with
 | 0, _, hv => simp [Enc.enc] at hv; subst hv; exact a0
 | 1, _, hv => simp [Enc.enc] at hv; subst hv; exact a1
 | 2, _, hv => simp [Enc.enc] at hv; subst hv; exact a2
 | 3, _, hv => simp [Enc.enc] at hv; subst hv; exact a3
 | 4, _, hv => simp [Enc.enc] at hv; subst hv; exact a4
theorem append_notes {base B : Nat} {w : World} {v : Value} {xs ys : List NoteR} {A : Option Addr} {c : Nat} (h : Own base 86 w v xs) (hr : Rd NoteAt 5 B w (.slice A ys.length c) ys) (hn : xs.length + ys.length ≤ 100000) (hbase : base ≤ w.heap.size) :
  ∃ A' c' w', (Builtin.append_ #[36, 36] 36 #[v, .slice A ys.length c]).run Tryz.prog w = .ok (.slice A' (xs.length + ys.length) c') w' ∧ Own base 86 w' (.slice A' (xs.length + ys.length) c') (xs ++ ys) ∧ Below base w w' ∧ w.grownBy w' v.ownBlock := by
 obtain ⟨i, hi, hi2⟩ := Option.map_eq_some_iff.1 (show (Tryz.prog.info? 86).map (fun i => (i.size, i.bytes, i.zero.map (·.cells.size))) = some (5, 40, some 5) by kernel_rfl)
 simp only [Prod.mk.injEq] at hi2
 obtain ⟨hsize, hby, hz0⟩ := hi2
 obtain ⟨z, hz, hzs⟩ := Option.map_eq_some_iff.1 hz0
 have ht : Tryz.prog.underlying 36 = some (.slice 86) := by kernel_rfl
 have hr0 := hr
 obtain ⟨A0, c0, e0, _, _, hcell⟩ := hr
 injection e0 with e1 e2 e3
 subst e1 e3
 cases A with
 | none =>
  have hy : ys = [] := by
   cases ys with
   | nil => rfl
   | cons y ys => obtain ⟨ad, e, _⟩ := hcell 0 y rfl; cases e
  subst hy
  have hrun := run_append_nil (ty := 36) ht hi h c
  obtain ⟨A, c1, rfl, _⟩ := h.form
  exact ⟨A, c1, w, hrun, by simpa using h, Below.refl _ _, ⟨rfl, rfl, rfl, Nat.le_refl _, fun _ _ _ => rfl⟩⟩
 | some ad =>
  obtain ⟨v', w', hrun, h2, h3, _, _⟩ := run_append_own_at (P := Tryz.prog) w base 36 36 86 i z 5 40 ht hi hz hsize hby hzs (by omega) v xs.length (xs.flatMap Enc.enc) h
   ad ys.length c (ys.flatMap Enc.enc) (by rw [flat_len]) (flat_notes hr0 ad rfl)
   (fun u hu => by
    obtain ⟨o, _, ho⟩ := List.mem_flatMap.1 hu
    simp only [Enc.enc, List.mem_cons, List.not_mem_nil, or_false] at ho
    rcases ho with rfl | rfl | rfl | rfl | rfl <;> rfl) (by unfold maxLen; omega) (by omega) hbase
  have h4 : Own base 86 w' v' (xs ++ ys) := Own.of_append rfl h2
  obtain ⟨A, c1, rfl, hc1, hc2⟩ := h4.form
  rw [List.length_append] at hrun h4
  have hb2 := (h.grown h3).resolve_right (by omega)
  exact ⟨A, c1, w', hrun, h4, hb2, h3⟩
theorem span_any (a b : Int) (w : World) : Calls Tryz.prog 33 #[.int .i64 a, .int .i64 b] w fun e w' => e = .returned (.agg #[.int .i64 a, .int .i64 b]) ∧ Below w.heap.size w w' := by
 go_enter Tryz.func33, Tryz.ntmps33
 go_wp2
 exact bodyPost_ret (v := .agg #[.int .i64 a, .int .i64 b]) (by simp [results, Tryz.results33, go_sem]) rfl ⟨rfl, (Below.refl _ _).alloc (Nat.le_refl _) _⟩
theorem lnote_any (k a b lo hi : Int) (w : World) : Calls Tryz.prog 57 #[.int .i64 k, .int .i64 a, .int .i64 b, .int .i64 lo, .int .i64 hi] w fun e w' => e = .returned (.agg #[.int .i64 k, .int .i64 a, .int .i64 b, .int .i64 lo, .int .i64 hi]) ∧ Below w.heap.size w w' := by
 obtain ⟨W1, hW1, r1, z1, b1⟩ := box_any w #[.int .i64 0, .int .i64 0, .int .i64 0, .int .i64 0, .int .i64 0] 86
 have HB := Lib.hid b1
 have HR := Lib.hid r1
 clear r1 z1 b1
 go_enter Tryz.func57, Tryz.ntmps57
 go_upto_region 1 with (fail)
 rw [← hW1]
 clear hW1
 go_wp2_with (first | (go_at_call 33; refine (span_any _ _ _).mono ?_; rintro e w2 ⟨rfl, hb2⟩) | (refine wpList_store_row rfl 86 (.tmp 10) (.tmp 17) rfl w.heap.size #[.int .i64 k, .int .i64 a, .int .i64 b, .int .i64 lo, .int .i64 hi] rfl rfl 86 _ ((hb2.block _ (lt_of_block HR.out)).trans HR.out) (by kernel_rfl) rfl (by simp [Value.oneCell']) ?_))
 have k2 := (hb2.block _ (lt_of_block HR.out)).trans HR.out
 have k3 := setRow_heap w2 w.heap.size _ #[.int .i64 k, .int .i64 a, .int .i64 b, .int .i64 lo, .int .i64 hi] 86 (0, 0) k2
 have hbw : Below w.heap.size w (w2.setRow w.heap.size #[.int .i64 k, .int .i64 a, .int .i64 b, .int .i64 lo, .int .i64 hi]) := HB.out.trans ((hb2.mono HB.out.size).trans (setRow_below _ (Nat.le_refl _)))
 refine bodyPost_ret (v := .agg #[.int .i64 k, .int .i64 a, .int .i64 b, .int .i64 lo, .int .i64 hi]) (results_cell_row rfl _ _ w.heap.size 86 #[.int .i64 k, .int .i64 a, .int .i64 b, .int .i64 lo, .int .i64 hi] (0, 0) _ rfl k3 Tryz.underlying86 rfl (by kernel_rfl)) rfl ⟨rfl, hbw⟩
theorem steep_any (w : World) : Calls Tryz.prog 22 #[] w fun e w' => ∃ g, e = .returned (.slice (some ⟨g, 0, none⟩) 1 1) ∧ w.heap.size ≤ g ∧ Rd NoteAt 5 w'.heap.size w' (.slice (some ⟨g, 0, none⟩) 1 1) [⟨4, 1, 0, 0, 10⟩] ∧ Below w.heap.size w w' := by
 go_enter Tryz.func22, Tryz.ntmps22
 go_wp2_with (go_at_call 57; refine (lnote_any _ _ _ _ _ _).mono ?_; rintro e w2 ⟨rfl, hb2⟩)
 go_ret
 refine ⟨w2.heap.size, rfl, hb2.size, ?_, hb2.trans ((Below.refl _ _).alloc hb2.size _)⟩
 exact (own_lit (α := NoteR) (e := 86) [⟨4, 1, 0, 0, 10⟩] (by simp) (heap_alloc_new w2 _)).rd
theorem gentle_any (w : World) : Calls Tryz.prog 21 #[] w fun e w' => ∃ g, e = .returned (.slice (some ⟨g, 0, none⟩) 1 1) ∧ w.heap.size ≤ g ∧ Rd NoteAt 5 w'.heap.size w' (.slice (some ⟨g, 0, none⟩) 1 1) [⟨4, 1, 2, -40, -10⟩] ∧ Below w.heap.size w w' := by
 go_enter Tryz.func21, Tryz.ntmps21
 go_wp2_with (go_at_call 57; refine (lnote_any _ _ _ _ _ _).mono ?_; rintro e w2 ⟨rfl, hb2⟩)
 go_ret
 refine ⟨w2.heap.size, rfl, hb2.size, ?_, hb2.trans ((Below.refl _ _).alloc hb2.size _)⟩
 exact (own_lit (α := NoteR) (e := 86) [⟨4, 1, 2, -40, -10⟩] (by simp) (heap_alloc_new w2 _)).rd
def textX : ByteArray := ⟨#[115, 104, 101, 101, 116, 32, 49, 48, 48, 10, 112, 111, 105, 110, 116, 32, 116, 111, 114, 10, 112, 111, 105, 110, 116, 32, 109, 101, 114, 101, 10, 112, 111, 105, 110, 116, 32, 102, 111, 114, 100, 10, 112, 111, 105, 110, 116, 32, 100, 97, 109, 10, 115, 112, 111, 116, 32, 116, 111, 114, 32, 49, 49, 56, 48, 32, 49, 50, 48, 48, 10, 99, 111, 110, 116, 111, 117, 114, 32, 109, 101, 114, 101, 32, 57, 32, 49, 48, 10, 108, 97, 107, 101, 32, 100, 97, 109, 32, 109, 101, 114, 101, 10, 115, 108, 111, 112, 101, 32, 116, 111, 114, 32, 102, 111, 114, 100, 32, 50, 53, 48, 32, 51, 48, 48, 10]⟩
theorem text_lit (w : World) : Calls Tryz.prog 31 #[] w fun e w' => e = .returned (.string textX) ∧ w = w' := by
 go_enter Tryz.func31, Tryz.ntmps31
 go_wp2
 go_ret
 exact ⟨rfl, rfl⟩
def sheetX (l : List NoteR) : ShR := ⟨100, [⟨#[116, 111, 114]⟩, ⟨#[109, 101, 114, 101]⟩, ⟨#[102, 111, 114, 100]⟩, ⟨#[100, 97, 109]⟩], [⟨1, 0, 0, 1180, 1200⟩, ⟨2, 1, 0, 9, 10⟩, ⟨3, 3, 1, 0, 0⟩, ⟨4, 0, 2, 250, 300⟩] ++ l⟩
theorem sheet_any {B : Nat} {w : World} {A : Option Addr} {c : Nat} {l : List NoteR} (hl : Rd NoteAt 5 B w (.slice A l.length c) l) (hB : B ≤ w.heap.size) (hn : l.length ≤ 100) :
  Calls Tryz.prog 20 #[.slice A l.length c] w fun e w' => ∃ v, e = .returned v ∧ RdSh w'.heap.size w' v (sheetX l) ∧ Below w.heap.size w w' := by
 obtain ⟨W1, hW1, r1, z1, b1⟩ := box_any w #[.int .i64 0, .slice none 0 0, .slice none 0 0] 38
 obtain ⟨W2, hW2, r2, z2, b2⟩ := box_any W1 #[.string ⟨#[116, 111, 114]⟩, .string ⟨#[109, 101, 114, 101]⟩, .string ⟨#[102, 111, 114, 100]⟩, .string ⟨#[100, 97, 109]⟩] 9
 have HB := Lib.hid (b1.trans (b2.mono b1.size))
 have HR1 := Lib.hid ((b2.block _ (by omega)).trans r1)
 have HR2 := Lib.hid r2
 have HL := Lib.hid (fun (X : World) (h : Below W2.heap.size W2 X) => hl.below ((HB.out.trans (h.mono HB.out.size)).mono hB))
 have HW2 := Lib.hid hW2
 have HZ1 := Lib.hid z1
 have hc : Below W2.heap.size W2 W2 := Below.refl _ _
 clear r1 r2 z1 z2 b1 b2 hl hW2
 go_enter Tryz.func20, Tryz.ntmps20
 go_upto_region 1 with (fail)
 rw [← hW1]
 clear hW1
 go_wp2_with (first | (refine wpList_bs rfl 4 _ rfl (vs := #[(0, .string ⟨#[116, 111, 114]⟩), (1, .string ⟨#[109, 101, 114, 101]⟩), (2, .string ⟨#[102, 111, 114, 100]⟩), (3, .string ⟨#[100, 97, 109]⟩)]) rfl (run_bs4 _ _ _ _ _) ?_; rw [← HW2.out]; simp only [Act.put, List.setIfInBounds_toArray, List.set_cons_succ, List.set_cons_zero]) | (go_at_call 57; refine (lnote_any _ _ _ _ _ _).mono ?_; rintro e w3 ⟨rfl, hb3⟩; replace hc := hc.trans (hb3.mono hc.size); clear hb3) | (obtain ⟨A', c', w', hrun, hown, hbl, hgr⟩ := append_notes (base := w3.heap.size) (own_lit (α := NoteR) (e := 86) [⟨1, 0, 0, 1180, 1200⟩, ⟨2, 1, 0, 9, 10⟩, ⟨3, 3, 1, 0, 0⟩, ⟨4, 0, 2, 250, 300⟩] (by simp) (heap_alloc_new w3 _)) ((HL.out _ hc).alloc (Nat.le_trans hB (Nat.le_trans HB.out.size hc.size)) _) (by simp; omega) (by simp); have hrow : w'.heap[w.heap.size]? = some (.cells #[.int .i64 0, .slice none 0 0, .slice none 0 0] 38) := (hbl.block _ (Nat.lt_of_lt_of_le (lt_of_block HR1.out) hc.size)).trans ((Below.heap_alloc _ _ _ (Nat.lt_of_lt_of_le (lt_of_block HR1.out) hc.size)).trans ((hc.block _ (lt_of_block HR1.out)).trans HR1.out)); have HRw := Lib.hid hrow; clear hrow; refine wpList_append_run rfl (.tmp 8) (.tmp 9) 36 rfl rfl rfl hrun ?_; clear hrun) | (refine wpList_store_row rfl 38 (.tmp 2) (.tmp 11) rfl w.heap.size #[.int .i64 100, .slice (some ⟨W1.heap.size, 0, none⟩) 4 4, .slice A' (4 + l.length) c'] rfl rfl 38 _ HRw.out (by kernel_rfl) rfl (by simp [Value.oneCell']) ?_))
 have hne : W1.heap.size ≠ w.heap.size := by rw [HZ1.out]; omega
 have k3 := setRow_heap w' w.heap.size _ #[.int .i64 100, .slice (some ⟨W1.heap.size, 0, none⟩) 4 4, .slice A' (4 + l.length) c'] 38 (0, 0) HRw.out
 have kp : (w'.setRow w.heap.size #[.int .i64 100, .slice (some ⟨W1.heap.size, 0, none⟩) 4 4, .slice A' (4 + l.length) c']).heap[W1.heap.size]? = _ := (setRow_other _ _ _ _ hne).trans ((hbl.block _ (Nat.lt_of_lt_of_le (lt_of_block HR2.out) hc.size)).trans ((Below.heap_alloc _ _ _ (Nat.lt_of_lt_of_le (lt_of_block HR2.out) hc.size)).trans ((hc.block _ (lt_of_block HR2.out)).trans HR2.out)))
 have hw1 : w.heap.size < w3.heap.size := Nat.lt_of_lt_of_le (lt_of_block HR1.out) hc.size
 have hfin : Below w.heap.size w (w'.setRow w.heap.size #[.int .i64 100, .slice (some ⟨W1.heap.size, 0, none⟩) 4 4, .slice A' (4 + l.length) c']) := by
  refine HB.out.trans ((hc.mono HB.out.size).trans (Below.trans (((Below.refl w.heap.size w3).alloc (by omega) _).trans (hbl.mono (by omega))) (setRow_below _ (Nat.le_refl _))))
 refine bodyPost_ret (v := .agg #[.int .i64 100, .slice (some ⟨W1.heap.size, 0, none⟩) 4 4, .slice A' (4 + l.length) c']) (results_cell_row rfl _ _ w.heap.size 38 #[.int .i64 100, .slice (some ⟨W1.heap.size, 0, none⟩) 4 4, .slice A' (4 + l.length) c'] (0, 0) _ rfl k3 Tryz.underlying38 rfl (by kernel_rfl)) rfl ⟨_, rfl, ⟨_, _, rfl, ?_, ?_⟩, hfin⟩
 ·exact (own_lit (α := ByteArray) (e := 9) [⟨#[116, 111, 114]⟩, ⟨#[109, 101, 114, 101]⟩, ⟨#[102, 111, 114, 100]⟩, ⟨#[100, 97, 109]⟩] (by simp) kp).rd
 ·refine Own.rd (base := w3.heap.size) (e := 86) (Own.keepD hown fun b cs f hb hh => (setRow_other _ _ _ _ (by omega)).trans hh)
end Go.Proofs.YthnimhnlnddnoaaGreatDoor
namespace Go.Proofs.YthnimhnlnddnoaaGreatDoor
open Go.RowKit
section
variable {α : Type} {At : World → Addr → α → Prop} {sz : Nat} [E : Enc α At sz]
def lv (own : Nat → Bool) (con : Nat → Nat) (L : Nat → Bool) (k : Nat) : Prop := own k = true ∧ L k = true ∧ L (con k) = false
structure GO (base : Nat) (T : TypeId) (W : World) (live : Nat → Prop) (xs : Nat → List α) (vs : Nat → Value) (X : World) : Prop where
 bel : Below base W X
 le : base ≤ X.heap.size
 own : ∀ k, live k → Own base T X (vs k) (xs k)
 sep : ∀ j k, live j → live k → j ≠ k → ∀ g, (vs j).ownBlock = some g → (vs k).ownBlock ≠ some g
theorem own_block_lt {base : Nat} {T : TypeId} {X : World} {v : Value} {xs : List α} (h : Own base T X v xs) {g : Nat} (hg : v.ownBlock = some g) : g < X.heap.size := by
 rcases h with ⟨_, ⟨rfl, _⟩ | ⟨g', cap, cu, rfl, hle, hh, _⟩⟩
 ·cases hg
 ·simp only [Value.ownBlock, Option.some.injEq] at hg
  subst hg
  exact lt_of_block hh
end
theorem append_gen {α : Type} {At : World → Addr → α → Prop} {sz : Nat} [E : Enc α At sz] {P : Program} {base : Nat} {t ty e : TypeId} {bytes : Nat} (ht : P.underlying t = some (.slice e)) (hinfo : (P.info? e).map (fun i => (i.size, i.bytes, i.zero.map (·.cells.size))) = some (sz, bytes, some sz)) (hsz : 0 < sz)
  (h1 : ∀ x, ∀ u ∈ E.enc x, u.oneCell' = true) {w : World} {v : Value} {xs ys : List α} {A : Option Addr} {m c : Nat} (hm : m = ys.length) (h : Own base e w v xs) (hA : A = none → ys = []) (hr : ∀ ad, A = some ad → ∀ j u, (ys.flatMap E.enc)[j]? = some u → w.cell? (ad.add j) = some u)
  (hn : xs.length + ys.length ≤ maxLen) (hb : (xs.length + ys.length) * bytes ≤ 140737488355328) (hbase : base ≤ w.heap.size) :
  ∃ v' w', (Builtin.append_ #[t, t] ty #[v, .slice A m c]).run P w = .ok v' w' ∧ Own base e w' v' (xs ++ ys) ∧ w.grownBy w' v.ownBlock ∧ (v'.ownBlock = v.ownBlock ∨ v'.ownBlock = some w.heap.size) := by
 subst hm
 obtain ⟨i, hi, hi2⟩ := Option.map_eq_some_iff.1 hinfo
 simp only [Prod.mk.injEq] at hi2
 obtain ⟨hsize, hby, hz0⟩ := hi2
 obtain ⟨z, hz, hzs⟩ := Option.map_eq_some_iff.1 hz0
 cases A with
 | none =>
  have hy := hA rfl
  subst hy
  have hrun := run_append_nil (ty := ty) ht hi h c
  exact ⟨v, w, hrun, by simpa using h, ⟨rfl, rfl, rfl, Nat.le_refl _, fun _ _ _ => rfl⟩, .inl rfl⟩
 | some ad =>
  obtain ⟨v', w', hrun, h2, h3, _, h5⟩ := run_append_own_at (P := P) w base t ty e i z sz bytes ht hi hz hsize hby hzs hsz v xs.length (xs.flatMap E.enc) h
   ad ys.length c (ys.flatMap E.enc) (by rw [flat_len]) (hr ad rfl)
   (fun u hu => by
    obtain ⟨o, _, ho⟩ := List.mem_flatMap.1 hu
    exact h1 o u ho) hn hb hbase
  exact ⟨v', w', hrun, Own.of_append rfl h2, h3, h5⟩
theorem rd_none {α : Type} {At : World → Addr → α → Prop} {sz B n c : Nat} {w : World} {ys : List α} (h : Rd At sz B w (.slice none n c) ys) : ys = [] := by
 obtain ⟨A, cap, e, _, _, hc⟩ := h
 cases e
 cases ys with
 | nil => rfl
 | cons y ys => obtain ⟨ad, e, _⟩ := hc 0 y rfl; cases e
theorem append_notes2 {base B : Nat} {w : World} {v : Value} {xs ys : List NoteR} {A : Option Addr} {c m : Nat} (hm : m = ys.length) (h : Own base 86 w v xs) (hr : Rd NoteAt 5 B w (.slice A ys.length c) ys) (hn : (xs.length + ys.length) * 40 ≤ 140737488355328) (hbase : base ≤ w.heap.size) :
  ∃ v' w', (Builtin.append_ #[36, 36] 36 #[v, .slice A m c]).run Tryz.prog w = .ok v' w' ∧ Own base 86 w' v' (xs ++ ys) ∧ w.grownBy w' v.ownBlock ∧ (v'.ownBlock = v.ownBlock ∨ v'.ownBlock = some w.heap.size) :=
 append_gen (E := inferInstance) (bytes := 40) (by kernel_rfl) (by kernel_rfl) (by omega) (by simp [Enc.enc]; intros; refine ⟨?_, ?_, ?_, ?_, ?_⟩ <;> rfl) hm h (fun e => by subst e; exact rd_none hr) (fun ad e => flat_notes hr ad e) (by unfold maxLen; omega) hn hbase
theorem enc_cells_int {B : Nat} {w : World} {A : Option Addr} {n c : Nat} {ys : List Int} (h : Rd IntAt 1 B w (.slice A n c) ys) (ad : Addr) (hA : A = some ad) : ∀ j u, (ys.flatMap (Enc.enc (α := Int)))[j]? = some u → w.cell? (ad.add j) = some u := by
 intro j u hu
 rw [enc_ints, List.getElem?_map] at hu
 obtain ⟨y, hy, rfl⟩ := Option.map_eq_some_iff.1 hu
 obtain ⟨A0, c0, e0, _, _, hcell⟩ := h
 injection e0 with e1 e2 e3
 subst e1
 obtain ⟨ad', e, _, ha⟩ := hcell j y hy
 rw [hA] at e
 injection e with e
 subst e
 simpa [IntAt] using ha
theorem append_ints2 {base B : Nat} {w : World} {v : Value} {xs ys : List Int} {A : Option Addr} {c m : Nat} (hm : m = ys.length) (h : Own base 3 w v xs) (hr : Rd IntAt 1 B w (.slice A ys.length c) ys) (hn : (xs.length + ys.length) * 8 ≤ 140737488355328) (hbase : base ≤ w.heap.size) :
  ∃ v' w', (Builtin.append_ #[30, 30] 30 #[v, .slice A m c]).run Tryz.prog w = .ok v' w' ∧ Own base 3 w' v' (xs ++ ys) ∧ w.grownBy w' v.ownBlock ∧ (v'.ownBlock = v.ownBlock ∨ v'.ownBlock = some w.heap.size) :=
 append_gen (E := inferInstance) (bytes := 8) (by kernel_rfl) (by kernel_rfl) (by omega) (by simp [Enc.enc]; intros; rfl) hm h (fun e => by subst e; exact rd_none hr) (fun ad e => enc_cells_int hr ad e) (by unfold maxLen; omega) hn hbase
theorem run_exec_append {P : Program} {o : Oper} {a : Act} {w w' : World} (s x : Operand) (t : TypeId) (ho : o.op = .call { callee := .builtin .append, args := #[s, x], argTypes := #[t, t] }) {u1 u2 v : Value} (h1 : a.eval s = u1) (h2 : a.eval x = u2)
  (hrun : (Builtin.append_ #[t, t] o.type #[u1, u2]).run P w = .ok v w') : (execOp a.eval o).run P w = .ok (.value v) w' := by
 unfold execOp
 simp only [ho, resolve, invoke, builtin, Sem.run_bind, Sem.run_pure, Result.andThen_ok, List.map_toArray, List.map_cons, List.map_nil, h1, h2, hrun]
section
variable {α : Type} {At : World → Addr → α → Prop} {sz : Nat} [E : Enc α At sz]
structure ApI (B0 : Nat) (T : TypeId) (W : World) (v0 : Value) (l : List α) (x : α) (ib ia it : Nat) (cell : Addr) (rdP : Nat → Bool) (val : Nat → Value) (L : Nat → Bool) (vs : Nat → Value) (X : World) : Prop where
 pre : L ia = false → L it = false → Below W.heap.size W X
 lit : L ib = true → L ia = false → L it = false → Own W.heap.size T X (vs ib) [x]
 post : L ia = true → L it = false → Below B0 W X ∧ Own B0 T X (vs ia) (l ++ [x])
 rd : ∀ k, rdP k = true → L k = true → vs k = val k
 st : L it = true → ∃ X0, Below B0 W X0 ∧ Own B0 T X0 (vs ia) (l ++ [x]) ∧ X = X0.setCell cell (vs ia)
variable {B0 : Nat} {T : TypeId} {W : World} {v0 : Value} {l : List α} {x : α} {ib ia it : Nat} {cell : Addr} {rdP : Nat → Bool} {val : Nat → Value} {L : Nat → Bool} {vs : Nat → Value} {X : World}
end
end Go.Proofs.YthnimhnlnddnoaaGreatDoor
