/- Walks of the layer sheet: the law's Told. Walks of the layer sheet: the law's looser. Notes that a call owns: told by Told; a span stored in place. -/
import Derived.Test.YtajdgdelhlfniaaGreatDoorGPl
import Derived.Test.YtajdgdelhlfniaaGreatDoorGWi
import Derived.Test.YtajdgdelhlfniaaGreatDoorGMat
import Derived.Test.YtajdgdelhlfniaaGreatDoorGB
import Derived.Test.YtajdgdelhlfniaaGreatDoorGSl
import Derived.Lib.SmallJoins
import Derived.WalkKit
import Derived.Deep.Quiet
set_option linter.unusedSimpArgs false
set_option linter.unusedVariables false
namespace Go.Proofs.YtajdgdelhlfniaaGreatDoor
open Go.RowKit

theorem toldL_yes {s : ShR} {h off : List Int} {k : Nat} {z : NoteR} (ht : toldN s.iv h (turnF off (2 * k) % 50) (turnF off (2 * k + 1) % 50) (s.notes.getD k default) = some z) (ho : okN s z = true) : toldL s h off (k + 1) = toldL s h off k ++ [z] := by
  conv => lhs; unfold toldL
  rw [ht]
  simp only
  rw [if_pos ho]
theorem toldL_no {s : ShR} {h off : List Int} {k : Nat} {z : NoteR} (ht : toldN s.iv h (turnF off (2 * k) % 50) (turnF off (2 * k + 1) % 50) (s.notes.getD k default) = some z) (ho : okN s z = false) : toldL s h off (k + 1) = toldL s h off k := by
  conv => lhs; unfold toldL
  rw [ht]
  simp only
  rw [if_neg (by simp [ho])]
theorem toldL_none {s : ShR} {h off : List Int} {k : Nat} (ht : toldN s.iv h (turnF off (2 * k) % 50) (turnF off (2 * k + 1) % 50) (s.notes.getD k default) = none) : toldL s h off (k + 1) = toldL s h off k := by
  conv => lhs; unfold toldL
  rw [ht]
theorem valid_at {B : Nat} {w : World} {v : Value} {s : ShR} {f : Bool} (hf : decide (errOf s = 0) = f) (hs : RdSh B w v s) (hn : Named s) (hB : B ≤ w.heap.size) :
    Calls Tryz.prog 44 #[v] w fun e w' => e = .returned (.bool f) ∧ Below w.heap.size w w' := by
  subst hf
  exact valid_any hs hn hB
theorem wpList_bsT {ops : Array Oper} {rest : List Oper} {o : Oper} {a : Act} {w w' : World} {Q : Exit → Act → World → Prop} (hgd : o.guard = none) (T : TypeId) (n : Nat) (parts : Array (Nat × Operand)) (ho : o.op = .buildSlice T n parts)
    {vs : Array (Nat × Value)} (hv : parts.toList.map (fun (i, x) => (i, a.eval x)) = vs.toList) {v : Value} (hr : (Instr.buildSlice T n vs).run Tryz.prog w = .ok v w') (h : wpList Tryz.prog ops Q rest (a.put o.dst v) w') : wpList Tryz.prog ops Q (o :: rest) a w := by
  refine wpList_plain hgd fun K hK => ?_
  unfold Oper.wp
  rw [run_exec_bs T n parts ho hv hr]
  exact hK _ _ h

set_option maxRecDepth 100000 in
set_option maxHeartbeats 4000000 in
theorem told_own {B Bh Bo : Nat} {w : World} {vp vn vh vo : Value} {s : ShR} {h off : List Int} (hs : RdSh B w (.agg #[.int .i64 s.iv, vp, vn]) s) (hg : Good s) (hnm : Named s) (hB : B ≤ w.heap.size) (hh : Rd IntAt 1 Bh w vh h) (hBh : Bh ≤ w.heap.size) (hhl : h.length = s.pts.length) (hhb : ∀ x ∈ h, 0 ≤ x ∧ x ≤ 9000)
    (ho : Rd U16At 1 Bo w vo off) (hBo : Bo ≤ w.heap.size) (hob : ∀ x ∈ off, 0 ≤ x ∧ x ≤ 65535) :
    Calls Tryz.prog 46 #[.agg #[.int .i64 s.iv, vp, vn], vh, vo] w fun e w' => ∃ A2 c2, e = .returned (.agg #[.int .i64 s.iv, vp, .slice A2 (toldL s h off s.notes.length).length c2]) ∧ Own w.heap.size 69 w' (.slice A2 (toldL s h off s.notes.length).length c2) (toldL s h off s.notes.length) ∧ Below w.heap.size w w' := by
  obtain ⟨vp', vn', ehs, hp, hno⟩ := hs
  obtain ⟨rfl, rfl⟩ : vp = vp' ∧ vn = vn' := by simpa using ehs
  obtain ⟨An, cn, rfl, _⟩ := id hno
  obtain ⟨Ap, cp, rfl, _⟩ := id hp
  obtain ⟨Ah, ch, rfl, _⟩ := id hh
  obtain ⟨W1, hW1, r1, z1, b1⟩ := box_any w #[.int .i64 s.iv, .slice Ap s.pts.length cp, .slice An s.notes.length cn] 25
  obtain ⟨W2, hW2, r2, z2, b2⟩ := box_any W1 #[.int .i64 0, .slice none 0 0, .slice none 0 0] 25
  have b12 := b1.trans (b2.mono b1.size)
  have q1 := (b2.block _ (by omega)).trans r1
  rw [z1] at r2
  have R2 := Lib.hid r2
  have R1 := Lib.hid q1
  have HB2 := Lib.hid b12
  have HZ := Lib.hid (show W2.heap.size = w.heap.size + 2 by omega)
  have C0 := cellOf q1 0 (v := .int .i64 s.iv) rfl
  have C1 := cellOf q1 1 (v := .slice Ap s.pts.length cp) rfl
  have C2 := cellOf q1 2 (v := .slice An s.notes.length cn) rfl
  have HP := Lib.hid (fun (X : World) (h : Below w.heap.size w X) => hp.below (h.mono hB))
  have HN := Lib.hid (fun (X : World) (h : Below w.heap.size w X) => hno.below (h.mono hB))
  have HH := Lib.hid (fun (X : World) (h : Below w.heap.size w X) => hh.below (h.mono hBh))
  have HO := Lib.hid (fun (X : World) (h : Below w.heap.size w X) => ho.below (h.mono hBo))
  have HGd := Lib.hid hg
  have HNm := Lib.hid hnm
  have HOb := Lib.hid hob
  have HBd := Lib.hid (turnF_bounds hob)
  have HHb := Lib.hid hhb
  have HHl := Lib.hid hhl
  clear r1 r2 z1 z2 b1 b2 b12 q1 hp hno hh ho hg hnm hob hhb hhl
  go_enter Tryz.func46, Tryz.ntmps46
  go_upto_region 1 with (fail)
  rw [← hW1, ← hW2]
  clear hW1 hW2
  go_upto_region 2 with (refine wpList_store_row rfl 25 (.tmp 7) (.tmp 14) rfl W2.heap.size #[.int .i64 s.iv, .slice Ap s.pts.length cp, .slice An s.notes.length cn] rfl rfl 25 _ (heap_alloc_new _ _) (by kernel_rfl) rfl (by simp [Value.oneCell']) ?_)
  obtain ⟨X1, hX1⟩ : ∃ X1, X1 = (W2.alloc (.cells #[.int .i64 0, .slice none 0 0, .slice none 0 0] 25)).setRow W2.heap.size #[.int .i64 s.iv, .slice Ap s.pts.length cp, .slice An s.notes.length cn] := ⟨_, rfl⟩
  rw [← hX1]
  have y1 : Below W2.heap.size W2 X1 := by rw [hX1]; exact ((Below.refl _ _).alloc (Nat.le_refl _) _).trans (setRow_below _ (Nat.le_refl _))
  have r1 : X1.heap[W2.heap.size]? = some (.cells #[.int .i64 s.iv, .slice Ap s.pts.length cp, .slice An s.notes.length cn] 25) := by rw [hX1]; exact setRow_heap _ _ _ _ _ _ (heap_alloc_new _ _)
  clear hX1 C0 C1 C2
  have o2 := cellOf r1 2 (v := .slice An s.notes.length cn) rfl
  have f2 : X1.frozen? ⟨W2.heap.size, 2, none⟩ = false := by simp [World.frozen?, r1]
  have Y1 := Lib.hid y1
  have S1 := Lib.hid r1
  clear y1 r1
  go_upto_region 3 with (fail)
  obtain ⟨X2, hX2⟩ : ∃ X2, X2 = X1.setCell ⟨W2.heap.size, 2, none⟩ (.slice none 0 0) := ⟨_, rfl⟩
  rw [← hX2]
  have y2 : Below W2.heap.size X1 X2 := by rw [hX2]; exact Below.setCell (p := ⟨W2.heap.size, 2, none⟩) (Below.refl _ X1) (Nat.le_refl _) _
  have r2 : X2.heap[W2.heap.size]? = some (.cells #[.int .i64 s.iv, .slice Ap s.pts.length cp, .slice none 0 0] 25) := by rw [hX2]; exact (Joins.block_setCell S1.out _).trans rfl
  have Y2 := Lib.hid (Y1.out.trans y2)
  have S2 := Lib.hid r2
  clear hX2 o2 f2 y2 r2
  generalize hg7 : W2.heap.size = g7 at *
  go_wp2
  go_loopw [8] (fun i wr => ∃ (k len : Nat) (A : Option Addr) (c : Nat), k ≤ s.notes.length ∧ i = .int .i64 k ∧ len = (toldL s h off k).length ∧ wr.heap[g7]? = some (.cells #[.int .i64 s.iv, .slice Ap s.pts.length cp, .slice A len c] 25) ∧ Own X2.heap.size 69 wr (.slice A len c) (toldL s h off k) ∧ Below g7 X2 wr ∧ X2.heap.size ≤ wr.heap.size) (fun i _ => s.notes.length - (intOf i).toNat)
  case atStart => exact ⟨0, 0, none, 0, Nat.zero_le _, rfl, rfl, S2.out, Own.nil _ _ _, Below.refl _ _, Nat.le_refl _⟩
  case round =>
    obtain ⟨k, len, A, c, hk, rfl, hlen, hrow, hown, hbr, hsz⟩ := hrel
    have HLen := Lib.hid hlen
    have HRow := Lib.hid hrow
    have HOwn := Lib.hid hown
    have HBr := Lib.hid hbr
    have HBw := Lib.hid hsz
    have HG7 := Lib.hid (show g7 = w.heap.size + 2 from HZ.out)
    have HWr := Lib.hid (HB2.out.trans ((Y2.out.trans hbr).mono (by rw [HG7.out]; omega)))
    have k1 := ((Y2.out.trans hbr).block _ (by have := lt_of_block R1.out; rw [HG7.out]; omega)).trans R1.out
    have HLt := Lib.hid (lt_of_block S2.out)
    have C0 := cellOf k1 0 (v := .int .i64 s.iv) rfl
    have C2 := cellOf k1 2 (v := .slice An s.notes.length cn) rfl
    have RS := Lib.hid k1
    clear hlen hrow hown hbr hsz k1
    by_cases hlt : k < s.notes.length
    · obtain ⟨ad, had, _, hat⟩ := (HN.out wr HWr.out).note hlt
      subst had
      have hgd : s.notes[k]?.getD default = s.notes.getD k default := by rw [List.getD_eq_getElem?_getD]
      rw [hgd] at hat
      clear hgd
      have hok := HGd.out.notes _ (getD_mem hlt default)
      have hk12 : k ≤ 12 := by have := HGd.out.nlen; omega
      have HY := Lib.hid (fun (z : NoteR) => toldL_yes (s := s) (h := h) (off := off) (k := k) (z := z))
      have HNo := Lib.hid (fun (z : NoteR) => toldL_no (s := s) (h := h) (off := off) (k := k) (z := z))
      have HNn := Lib.hid (toldL_none (s := s) (h := h) (off := off) (k := k))
      generalize s.notes.getD k default = x at *
      obtain ⟨l1, hl1⟩ : ∃ l1 : Nat, turnF off (2 * k) = l1 := ⟨(turnF off (2 * k)).toNat, by have := (HBd.out (2 * k)).1; omega⟩
      obtain ⟨l2, hl2⟩ : ∃ l2 : Nat, turnF off (2 * k + 1) = l2 := ⟨(turnF off (2 * k + 1)).toNat, by have := (HBd.out (2 * k + 1)).1; omega⟩
      have HT1 := Lib.hid (show ∀ X, Below w.heap.size w X → Calls Tryz.prog 54 #[vo, .int .i64 (2 * (k : Int))] X fun e w' => e = .returned (.int .i64 l1) ∧ w' = X from fun X hb => by
        have := turn_any (2 * k) (HO.out X hb) (by omega) HOb.out
        rw [hl1] at this
        exact_mod_cast this)
      have HT2 := Lib.hid (show ∀ X, Below w.heap.size w X → Calls Tryz.prog 54 #[vo, .int .i64 (2 * (k : Int) + 1)] X fun e w' => e = .returned (.int .i64 l2) ∧ w' = X from fun X hb => by
        have := turn_any (2 * k + 1) (HO.out X hb) (by omega) HOb.out
        rw [hl2] at this
        exact_mod_cast this)
      rw [hl1, hl2] at HY HNo HNn
      clear hl1 hl2
      obtain ⟨x0, x1, x2, x3, x4⟩ := x
      obtain ⟨na, hna⟩ := Int.eq_ofNat_of_zero_le (show 0 ≤ x1 from hok.a.1)
      obtain ⟨nb, hnb⟩ := Int.eq_ofNat_of_zero_le (show 0 ≤ x2 from hok.b.1)
      subst hna hnb
      have hna : na < h.length := by have := hok.a.2; have := HHl.out; simp only at *; omega
      have hnb : nb < h.length := by have := hok.b.2; have := HHl.out; simp only at *; omega
      obtain ⟨a0, a1, a2, a3, a4⟩ := hat
      simp only at a0 a1 a2 a3 a4
      have hkind := hok.kind
      simp only at hkind
      have HOk := Lib.hid hok
      clear hok
      go_upto_region 7 with (fail)
      obtain ⟨V, hV, rV, zV, bV⟩ := box_any wr #[.int .i64 x0, .int .i64 na, .int .i64 nb, .int .i64 x3, .int .i64 x4] 69
      rw [← hV]
      clear hV a0 a1 a2 a3 a4 C0 C2
      have HVb := Lib.hid bV
      have HWv := Lib.hid (HWr.out.trans (bV.mono HWr.out.size))
      have RSv := Lib.hid ((bV.block _ (lt_of_block RS.out)).trans RS.out)
      have R7v := Lib.hid ((bV.block _ (lt_of_block HRow.out)).trans HRow.out)
      have HOv := Lib.hid (HOwn.out.below bV)
      have HBv := Lib.hid (HBr.out.trans (bV.mono (by have := HLt.out; have := HBw.out; omega)))
      have HSv := Lib.hid (Nat.le_trans HBw.out bV.size)
      have hg9 : X2.heap.size ≤ wr.heap.size := HBw.out
      have HOk9 := Lib.hid (show ∀ g, (Value.slice A len c).ownBlock = some g → g < wr.heap.size from fun g hg => own_block_lt HOwn.out hg)
      generalize hgg : wr.heap.size = g9 at *
      clear hgg zV bV
      obtain ⟨adh, had, _, cu⟩ := (HH.out V HWv.out).int (i := na) hna
      subst had
      obtain ⟨adh', had, _, cv⟩ := (HH.out V HWv.out).int (i := nb) hnb
      cases had
      have hu := HHb.out _ (getD_mem hna 0)
      have hv := HHb.out _ (getD_mem hnb 0)
      have eu : h[na]?.getD 0 = h.getD na 0 := by rw [List.getD_eq_getElem?_getD]
      have ev : h[nb]?.getD 0 = h.getD nb 0 := by rw [List.getD_eq_getElem?_getD]
      rw [eu] at cu
      rw [ev] at cv
      clear eu ev
      generalize hgu : h.getD na 0 = u at *
      generalize hgv : h.getD nb 0 = t at *
      have HU := Lib.hid hgu
      have HVv := Lib.hid hgv
      have HUd := Lib.hid (show h[na]?.getD 0 = u from by rw [← hgu, List.getD_eq_getElem?_getD])
      have HVd0 := Lib.hid (show h[nb]?.getD 0 = t from by rw [← hgv, List.getD_eq_getElem?_getD])
      clear hgu hgv
      have d0 := cellOf rV 0 (v := .int .i64 x0) rfl
      have d1 := cellOf rV 1 (v := .int .i64 na) rfl
      have d2 := cellOf rV 2 (v := .int .i64 nb) rfl
      have d3 := cellOf rV 3 (v := .int .i64 x3) rfl
      have d4 := cellOf rV 4 (v := .int .i64 x4) rfl
      have c0 := cellOf RSv.out 0 (v := .int .i64 s.iv) rfl
      have f3 : V.frozen? ⟨g9, 3, none⟩ = false := by simp [World.frozen?, rV]
      have f4 : V.frozen? ⟨g9, 4, none⟩ = false := by simp [World.frozen?, rV]
      have RV := Lib.hid rV
      clear rV
      have t1 : ¬ ((na : Int) < 0) := by omega
      have t2 : ¬ ((nb : Int) < 0) := by omega
      have t3 : ¬ ((h.length : Int) ≤ (na : Int)) := by omega
      have t4 : ¬ ((h.length : Int) ≤ (nb : Int)) := by omega
      have t5 : ¬ (h.length ≤ na) := by omega
      have t6 : ¬ (h.length ≤ nb) := by omega
      go_upto_region 8 with (fail)
      go_upto_region 9 with (first | (go_at_call 54; (with_reducible refine Calls.mono (HT1.out _ HWv.out) ?_); rintro e wx ⟨rfl, hwx⟩; subst wx) | (go_at_call 54; (with_reducible refine Calls.mono (HT2.out _ HWv.out) ?_); rintro e wx ⟨rfl, hwx⟩; subst wx))
      have hl0 : 0 ≤ (l1 : Int) % 50 ∧ (l1 : Int) % 50 < 50 := by omega
      have hm0 : 0 ≤ (l2 : Int) % 50 ∧ (l2 : Int) % 50 < 50 := by omega
      generalize (l1 : Int) % 50 = less at *
      generalize (l2 : Int) % 50 = more at *
      clear t1 t2 t3 t4 t5 t6
      rcases (show x0 = 1 ∨ x0 = 2 ∨ x0 = 3 ∨ x0 = 4 by omega) with h0 | h0 | h0 | h0
      · subst h0
        go_upto_region 11 with (fail)
        have e1 := Aft.cell cu
        have e2 := Aft.cell d1
        have w1 : IntKind.i64.wrap (u - less) = u - less := IntWalk.i64_in _ (by omega)
        have w2 : IntKind.i64.wrap (u + more) = u + more := IntWalk.i64_in _ (by omega)
        refine region_quiet_tail (C := fun w' => ∃ x : Aft V, w' = x.1) 17 (by kernel_rfl) (by kernel_rfl) ⟨⟨V.drew, (Below.refl _ _).drew⟩, rfl⟩ ?_
        simp only [List.take_succ_cons, List.take_zero, List.drop_succ_cons, List.drop_zero]
        repeat (first | go_big_quiet_step ((go_at_call 43; exact Aft.call (span_any _ _ _))) | quiet_step ((go_at_call 43; exact Aft.call (span_any _ _ _))))
        refine wpQuiet_nil ?_
        rintro wx ⟨⟨_, hbx⟩, rfl⟩
        have rx := (hbx.block _ (lt_of_block RV.out)).trans RV.out
        have d3 := cellOf rx 3 (v := .int .i64 x3) rfl
        have d4 := cellOf rx 4 (v := .int .i64 x4) rfl
        have f3 : wx.frozen? ⟨g9, 3, none⟩ = false := by simp [World.frozen?, rx]
        have f4 : wx.frozen? ⟨g9, 4, none⟩ = false := by simp [World.frozen?, rx]
        go_upto_region 19 with (fail)
        obtain ⟨z, hz⟩ : ∃ z : NoteR, z = ⟨1, na, nb, max 0 (u - less), min 9000 (u + more)⟩ := ⟨_, rfl⟩
        obtain ⟨Yz, hYz⟩ : ∃ Yz, Yz = (wx.setCell ⟨g9, 3, none⟩ (.int .i64 (max 0 (u - less)))).setCell ⟨g9, 4, none⟩ (.int .i64 (min 9000 (u + more))) := ⟨_, rfl⟩
        rw [← hYz]
        have HTd := Lib.hid (show toldN s.iv h less more ⟨1, na, nb, x3, x4⟩ = some z by
          unfold toldN
          simp only
          rw [if_neg (by omega)]
          simp [HUd.out, HVd0.out, hz])
        have RVy := Lib.hid (show Yz.heap[g9]? = some (.cells #[.int .i64 z.kind, .int .i64 z.a, .int .i64 z.b, .int .i64 z.lo, .int .i64 z.hi] 69) by rw [hYz, hz]; exact (Joins.block_setCell ((Joins.block_setCell rx _).trans rfl) _).trans rfl)
        have keep9 : ∀ b, b ≠ g9 → Yz.heap[b]? = wx.heap[b]? := fun b hb => by rw [hYz]; exact (Below.heap_setCell _ _ _ _ (by show b ≠ g9; exact hb)).trans (Below.heap_setCell _ _ _ _ (by show b ≠ g9; exact hb))
        have R7y := Lib.hid (show Yz.heap[g7]? = some (.cells #[.int .i64 s.iv, .slice Ap s.pts.length cp, .slice A len c] 25) from (keep9 g7 (by have := HLt.out; omega)).trans ((hbx.block _ (lt_of_block R7v.out)).trans R7v.out))
        have HOy := Lib.hid ((HOv.out.below hbx).keep (w' := Yz) fun g hg => keep9 g (by have := HOk9.out g hg; omega))
        have HBy := Lib.hid (show Below g7 X2 Yz by rw [hYz]; exact ((HBv.out.trans (hbx.mono (by have := HLt.out; have := HSv.out; omega))).setCell (by show g7 ≤ g9; have := HLt.out; omega) _).setCell (by show g7 ≤ g9; have := HLt.out; omega) _)
        have HSy := Lib.hid (show X2.heap.size ≤ Yz.heap.size by rw [hYz]; simpa [World.setCell] using Nat.le_trans HSv.out hbx.size)
        have HWy := Lib.hid (show Below w.heap.size w Yz by rw [hYz]; exact ((HWv.out.trans (hbx.mono HWv.out.size)).setCell (by show w.heap.size ≤ g9; have := HLt.out; rw [HG7.out] at this; omega) _).setCell (by show w.heap.size ≤ g9; have := HLt.out; rw [HG7.out] at this; omega) _)
        clear hz hYz hbx rx d3 d4 f3 f4 keep9
        clear e1 e2 w1 w2 cu cv d0 d1 d2 c0
        have hob := HOk9.out
        have R9 := Lib.hid RVy.out
        have q0 := cellOf R7y.out 0 (v := .int .i64 s.iv) rfl
        have q1 := cellOf R7y.out 1 (v := .slice Ap s.pts.length cp) rfl
        have q2 := cellOf R7y.out 2 (v := .slice A len c) rfl
        go_upto_region 20 with (refine wpList_store_row rfl 25 (.tmp 13) (.tmp 140) rfl Yz.heap.size #[.int .i64 s.iv, .slice Ap s.pts.length cp, .slice A len c] rfl rfl 25 _ (heap_alloc_new _ _) (by kernel_rfl) rfl (by simp [Value.oneCell']) ?_)
        obtain ⟨Z1, hZ1⟩ : ∃ Z1, Z1 = (Yz.alloc (.cells #[.int .i64 0, .slice none 0 0, .slice none 0 0] 25)).setRow Yz.heap.size #[.int .i64 s.iv, .slice Ap s.pts.length cp, .slice A len c] := ⟨_, rfl⟩
        rw [← hZ1]
        have y1 : Below Yz.heap.size Yz Z1 := by rw [hZ1]; exact ((Below.refl _ _).alloc (Nat.le_refl _) _).trans (setRow_below _ (Nat.le_refl _))
        have r1 : Z1.heap[Yz.heap.size]? = some (.cells #[.int .i64 s.iv, .slice Ap s.pts.length cp, .slice A len c] 25) := by rw [hZ1]; exact setRow_heap _ _ _ _ _ _ (heap_alloc_new _ _)
        clear hZ1 q0 q1 q2
        obtain ⟨Z2, hZ2, r2, z2, b2⟩ := box_any Z1 #[.int .i64 z.kind, .int .i64 z.a, .int .i64 z.b, .int .i64 z.lo, .int .i64 z.hi] 69
        have HZ2 := Lib.hid hZ2
        have y1b := (b2.block _ (lt_of_block r1)).trans r1
        have r9 := (b2.block _ (lt_of_block ((y1.block _ (lt_of_block RVy.out)).trans RVy.out))).trans ((y1.block _ (lt_of_block RVy.out)).trans RVy.out)
        have r9' := (y1.block _ (lt_of_block RVy.out)).trans RVy.out
        have hY12 : Below Yz.heap.size Yz Z2 := y1.trans (b2.mono y1.size)
        have hgs : Yz.heap.size ≠ Z1.heap.size := by have := lt_of_block r1; omega
        generalize hg13 : Yz.heap.size = g13 at y1b hgs ⊢
        have o2 := cellOf y1b 2 (v := .slice A len c) rfl
        have f2 : Z2.frozen? ⟨g13, 2, none⟩ = false := by simp [World.frozen?, y1b]
        have n0 := cellOf r9' 0 (v := .int .i64 z.kind) rfl
        have n1 := cellOf r9' 1 (v := .int .i64 z.a) rfl
        have n2 := cellOf r9' 2 (v := .int .i64 z.b) rfl
        have n3 := cellOf r9' 3 (v := .int .i64 z.lo) rfl
        have n4 := cellOf r9' 4 (v := .int .i64 z.hi) rfl
        have H13 := Lib.hid hg13
        have Y1b := Lib.hid y1b
        have R2n := Lib.hid r2
        have HY12 := Lib.hid hY12
        clear hZ2 z2 r1 y1b r9 r9' r2 hg13 hY12 y1 b2
        rw [HZ2.out] at o2 f2
        go_upto_region 21 with (fail)
        rw [← HZ2.out]
        generalize hgsn : Z1.heap.size = gs at *
        obtain ⟨Z3, hZ3⟩ : ∃ Z3, Z3 = Z2.setCell ⟨g13, 2, none⟩ (.slice (some ⟨gs, 0, none⟩) 1 1) := ⟨_, rfl⟩
        rw [← hZ3]
        have r13 : Z3.heap[g13]? = some (.cells #[.int .i64 s.iv, .slice Ap s.pts.length cp, .slice (some ⟨gs, 0, none⟩) 1 1] 25) := by rw [hZ3]; exact (Joins.block_setCell Y1b.out _).trans rfl
        have rn : Z3.heap[gs]? = some (.cells #[.int .i64 z.kind, .int .i64 z.a, .int .i64 z.b, .int .i64 z.lo, .int .i64 z.hi] 69) := by rw [hZ3]; exact (Below.heap_setCell _ _ _ _ (by show gs ≠ g13; exact Ne.symm hgs)).trans R2n.out
        have y3 : Below Yz.heap.size Yz Z3 := by rw [hZ3]; exact HY12.out.setCell (by show Yz.heap.size ≤ g13; rw [H13.out]; exact Nat.le_refl _) _
        have hone : RdSh Z3.heap.size Z3 (.agg #[.int .i64 s.iv, .slice Ap s.pts.length cp, .slice (some ⟨gs, 0, none⟩) 1 1]) (withN s [z]) := by
          refine ⟨_, _, rfl, (HP.out Z3 (HWy.out.trans (y3.mono HWy.out.size))).mono ?_, (own_lit (α := NoteR) (e := 69) [z] (by simp) rn).rd⟩
          exact Nat.le_trans hB (HWy.out.trans (y3.mono HWy.out.size)).size
        have p0 := cellOf r13 0 (v := .int .i64 s.iv) rfl
        have p1 := cellOf r13 1 (v := .slice Ap s.pts.length cp) rfl
        have p2 := cellOf r13 2 (v := .slice (some ⟨gs, 0, none⟩) 1 1) rfl
        obtain ⟨bo, hbo⟩ : ∃ bo, okN s z = bo := ⟨_, rfl⟩
        have HVd := Lib.hid (valid_at (w := Z3) (f := bo) (by unfold okN at hbo; exact hbo) hone (show Named (withN s [z]) from HNm.out) (Nat.le_refl _))
        have HTk1 := Lib.hid (HY.out z HTd.out)
        have HTk2 := Lib.hid (HNo.out z HTd.out)
        have Y3 := Lib.hid y3
        clear hZ3 rn r13 hone o2 f2 n0 n1 n2 n3 n4 y3 hgsn
        cases bo with
        | true =>
          have HS := Lib.hid (HTk1.out hbo)
          clear HTk1 HTk2 hbo
          go_upto_region 22 with (go_at_call 44; refine HVd.out.mono ?_; rintro e U ⟨rfl, hbU⟩)
          have yU := Y3.out.trans (hbU.mono Y3.out.size)
          have u9 := (yU.block _ (lt_of_block RVy.out)).trans RVy.out
          have u7 := (yU.block _ (lt_of_block R7y.out)).trans R7y.out
          have HUs := Lib.hid (Nat.le_trans HSy.out yU.size)
          have ho := HOy.out.below yU
          rw [HLen.out] at ho
          have hlen1 : (toldL s h off k).length ≤ 100000 := Nat.le_trans (toldL_len _ _ _ _) (by omega)
          obtain ⟨A2, c2, w2, hrun, hown2, hb2, hsz2, _, _⟩ := append_note ho z hlen1 HUs.out
          rw [← HLen.out] at hrun hown2
          have n0 := cellOf u9 0 (v := .int .i64 z.kind) rfl
          have n1 := cellOf u9 1 (v := .int .i64 z.a) rfl
          have n2 := cellOf u9 2 (v := .int .i64 z.b) rfl
          have n3 := cellOf u9 3 (v := .int .i64 z.lo) rfl
          have n4 := cellOf u9 4 (v := .int .i64 z.hi) rfl
          have s2 := cellOf u7 2 (v := .slice A len c) rfl
          have w7 := (hb2.block _ HLt.out).trans u7
          have o2 := cellOf w7 2 (v := .slice A len c) rfl
          have f2 : w2.frozen? ⟨g7, 2, none⟩ = false := by simp [World.frozen?, w7]
          have W7 := Lib.hid w7
          have HOw := Lib.hid hown2
          have HB2w := Lib.hid hb2
          have HBu := Lib.hid (HBy.out.trans (yU.mono (by have := HLt.out; have := HSy.out; omega)))
          have HUw := Lib.hid hsz2
          clear u9 u7 ho hlen1 w7 hown2 hb2 hsz2 hbU yU p0 p1 p2
          go_wp2_with (at_builtin; refine wpList_append_run rfl _ _ _ rfl rfl rfl hrun ?_)
          go_roundw
          case rel => exact ⟨k + 1, len + 1, A2, c2, by omega, by go_num, by rw [HS.out, List.length_append, ← HLen.out]; rfl, (Joins.block_setCell W7.out _).trans rfl, by rw [HS.out]; exact HOw.out.other (p := ⟨g7, 2, none⟩) HLt.out _, (HBu.out.trans (HB2w.out.mono (Nat.le_of_lt HLt.out))).setCell (Nat.le_refl _) _, by simpa [World.setCell] using HUw.out⟩
          case measure => simp [intOf]; omega
        | false =>
          have HS := Lib.hid (HTk2.out hbo)
          clear HTk1 HTk2 hbo
          go_wp2_with (go_at_call 44; refine HVd.out.mono ?_; rintro e U ⟨rfl, hbU⟩; have yU := Lib.hid (Y3.out.trans (hbU.mono Y3.out.size)); clear hbU)
          go_roundw
          case rel => exact ⟨k + 1, len, A, c, by omega, by go_num, by rw [HS.out]; exact HLen.out, (yU.out.block _ (lt_of_block R7y.out)).trans R7y.out, by rw [HS.out]; exact HOy.out.below yU.out, HBy.out.trans (yU.out.mono (by have := HLt.out; have := HSy.out; omega)), Nat.le_trans HSy.out yU.out.size⟩
          case measure => simp [intOf]; omega
      · subst h0
        go_upto_region 13 with (fail)
        have e1 := Aft.cell cu
        have e2 := Aft.cell d1
        have e3 := Aft.cell c0
        have hiv := HGd.out.iv
        have w0 : (s.iv == 0) = false := by simp; omega
        have w00 : ¬ s.iv = 0 := by omega
        have w1 : u.tdiv s.iv = u / s.iv := Int.tdiv_eq_ediv_of_nonneg hu.1
        have hq0 : 0 ≤ u / s.iv := Int.ediv_nonneg hu.1 (by omega)
        have hq1 : u / s.iv ≤ u := Int.ediv_le_self _ hu.1
        have w2 : IntKind.i64.wrap (u / s.iv + 1) = u / s.iv + 1 := IntWalk.i64_in _ (by omega)
        have w3 : IntKind.i64.wrap (u / s.iv) = u / s.iv := IntWalk.i64_in _ (by omega)
        refine region_quiet_tail (C := fun w' => ∃ x : Aft V, w' = x.1) 18 (by kernel_rfl) (by kernel_rfl) ⟨⟨V.drew, (Below.refl _ _).drew⟩, rfl⟩ ?_
        simp only [List.take_succ_cons, List.take_zero, List.drop_succ_cons, List.drop_zero]
        repeat (first | go_big_quiet_step ((go_at_call 43; exact Aft.call (span_any _ _ _))) | quiet_step ((go_at_call 43; exact Aft.call (span_any _ _ _))))
        refine wpQuiet_nil ?_
        rintro wx ⟨⟨_, hbx⟩, rfl⟩
        have rx := (hbx.block _ (lt_of_block RV.out)).trans RV.out
        have d3 := cellOf rx 3 (v := .int .i64 x3) rfl
        have d4 := cellOf rx 4 (v := .int .i64 x4) rfl
        have f3 : wx.frozen? ⟨g9, 3, none⟩ = false := by simp [World.frozen?, rx]
        have f4 : wx.frozen? ⟨g9, 4, none⟩ = false := by simp [World.frozen?, rx]
        go_upto_region 19 with (fail)
        obtain ⟨z, hz⟩ : ∃ z : NoteR, z = ⟨2, na, nb, u / s.iv, u / s.iv + 1⟩ := ⟨_, rfl⟩
        obtain ⟨Yz, hYz⟩ : ∃ Yz, Yz = (wx.setCell ⟨g9, 3, none⟩ (.int .i64 (u / s.iv))).setCell ⟨g9, 4, none⟩ (.int .i64 (u / s.iv + 1)) := ⟨_, rfl⟩
        rw [← hYz]
        have HTd := Lib.hid (show toldN s.iv h less more ⟨2, na, nb, x3, x4⟩ = some z by
          unfold toldN
          simp only
          rw [if_neg (by omega)]
          simp [HUd.out, HVd0.out, hz])
        have RVy := Lib.hid (show Yz.heap[g9]? = some (.cells #[.int .i64 z.kind, .int .i64 z.a, .int .i64 z.b, .int .i64 z.lo, .int .i64 z.hi] 69) by rw [hYz, hz]; exact (Joins.block_setCell ((Joins.block_setCell rx _).trans rfl) _).trans rfl)
        have keep9 : ∀ b, b ≠ g9 → Yz.heap[b]? = wx.heap[b]? := fun b hb => by rw [hYz]; exact (Below.heap_setCell _ _ _ _ (by show b ≠ g9; exact hb)).trans (Below.heap_setCell _ _ _ _ (by show b ≠ g9; exact hb))
        have R7y := Lib.hid (show Yz.heap[g7]? = some (.cells #[.int .i64 s.iv, .slice Ap s.pts.length cp, .slice A len c] 25) from (keep9 g7 (by have := HLt.out; omega)).trans ((hbx.block _ (lt_of_block R7v.out)).trans R7v.out))
        have HOy := Lib.hid ((HOv.out.below hbx).keep (w' := Yz) fun g hg => keep9 g (by have := HOk9.out g hg; omega))
        have HBy := Lib.hid (show Below g7 X2 Yz by rw [hYz]; exact ((HBv.out.trans (hbx.mono (by have := HLt.out; have := HSv.out; omega))).setCell (by show g7 ≤ g9; have := HLt.out; omega) _).setCell (by show g7 ≤ g9; have := HLt.out; omega) _)
        have HSy := Lib.hid (show X2.heap.size ≤ Yz.heap.size by rw [hYz]; simpa [World.setCell] using Nat.le_trans HSv.out hbx.size)
        have HWy := Lib.hid (show Below w.heap.size w Yz by rw [hYz]; exact ((HWv.out.trans (hbx.mono HWv.out.size)).setCell (by show w.heap.size ≤ g9; have := HLt.out; rw [HG7.out] at this; omega) _).setCell (by show w.heap.size ≤ g9; have := HLt.out; rw [HG7.out] at this; omega) _)
        clear hz hYz hbx rx d3 d4 f3 f4 keep9
        clear e1 e2 e3 w0 w00 w1 w2 w3 cu cv d0 d1 d2 c0
        have hob := HOk9.out
        have R9 := Lib.hid RVy.out
        have q0 := cellOf R7y.out 0 (v := .int .i64 s.iv) rfl
        have q1 := cellOf R7y.out 1 (v := .slice Ap s.pts.length cp) rfl
        have q2 := cellOf R7y.out 2 (v := .slice A len c) rfl
        go_upto_region 20 with (refine wpList_store_row rfl 25 (.tmp 13) (.tmp 140) rfl Yz.heap.size #[.int .i64 s.iv, .slice Ap s.pts.length cp, .slice A len c] rfl rfl 25 _ (heap_alloc_new _ _) (by kernel_rfl) rfl (by simp [Value.oneCell']) ?_)
        obtain ⟨Z1, hZ1⟩ : ∃ Z1, Z1 = (Yz.alloc (.cells #[.int .i64 0, .slice none 0 0, .slice none 0 0] 25)).setRow Yz.heap.size #[.int .i64 s.iv, .slice Ap s.pts.length cp, .slice A len c] := ⟨_, rfl⟩
        rw [← hZ1]
        have y1 : Below Yz.heap.size Yz Z1 := by rw [hZ1]; exact ((Below.refl _ _).alloc (Nat.le_refl _) _).trans (setRow_below _ (Nat.le_refl _))
        have r1 : Z1.heap[Yz.heap.size]? = some (.cells #[.int .i64 s.iv, .slice Ap s.pts.length cp, .slice A len c] 25) := by rw [hZ1]; exact setRow_heap _ _ _ _ _ _ (heap_alloc_new _ _)
        clear hZ1 q0 q1 q2
        obtain ⟨Z2, hZ2, r2, z2, b2⟩ := box_any Z1 #[.int .i64 z.kind, .int .i64 z.a, .int .i64 z.b, .int .i64 z.lo, .int .i64 z.hi] 69
        have HZ2 := Lib.hid hZ2
        have y1b := (b2.block _ (lt_of_block r1)).trans r1
        have r9 := (b2.block _ (lt_of_block ((y1.block _ (lt_of_block RVy.out)).trans RVy.out))).trans ((y1.block _ (lt_of_block RVy.out)).trans RVy.out)
        have r9' := (y1.block _ (lt_of_block RVy.out)).trans RVy.out
        have hY12 : Below Yz.heap.size Yz Z2 := y1.trans (b2.mono y1.size)
        have hgs : Yz.heap.size ≠ Z1.heap.size := by have := lt_of_block r1; omega
        generalize hg13 : Yz.heap.size = g13 at y1b hgs ⊢
        have o2 := cellOf y1b 2 (v := .slice A len c) rfl
        have f2 : Z2.frozen? ⟨g13, 2, none⟩ = false := by simp [World.frozen?, y1b]
        have n0 := cellOf r9' 0 (v := .int .i64 z.kind) rfl
        have n1 := cellOf r9' 1 (v := .int .i64 z.a) rfl
        have n2 := cellOf r9' 2 (v := .int .i64 z.b) rfl
        have n3 := cellOf r9' 3 (v := .int .i64 z.lo) rfl
        have n4 := cellOf r9' 4 (v := .int .i64 z.hi) rfl
        have H13 := Lib.hid hg13
        have Y1b := Lib.hid y1b
        have R2n := Lib.hid r2
        have HY12 := Lib.hid hY12
        clear hZ2 z2 r1 y1b r9 r9' r2 hg13 hY12 y1 b2
        rw [HZ2.out] at o2 f2
        go_upto_region 21 with (fail)
        rw [← HZ2.out]
        generalize hgsn : Z1.heap.size = gs at *
        obtain ⟨Z3, hZ3⟩ : ∃ Z3, Z3 = Z2.setCell ⟨g13, 2, none⟩ (.slice (some ⟨gs, 0, none⟩) 1 1) := ⟨_, rfl⟩
        rw [← hZ3]
        have r13 : Z3.heap[g13]? = some (.cells #[.int .i64 s.iv, .slice Ap s.pts.length cp, .slice (some ⟨gs, 0, none⟩) 1 1] 25) := by rw [hZ3]; exact (Joins.block_setCell Y1b.out _).trans rfl
        have rn : Z3.heap[gs]? = some (.cells #[.int .i64 z.kind, .int .i64 z.a, .int .i64 z.b, .int .i64 z.lo, .int .i64 z.hi] 69) := by rw [hZ3]; exact (Below.heap_setCell _ _ _ _ (by show gs ≠ g13; exact Ne.symm hgs)).trans R2n.out
        have y3 : Below Yz.heap.size Yz Z3 := by rw [hZ3]; exact HY12.out.setCell (by show Yz.heap.size ≤ g13; rw [H13.out]; exact Nat.le_refl _) _
        have hone : RdSh Z3.heap.size Z3 (.agg #[.int .i64 s.iv, .slice Ap s.pts.length cp, .slice (some ⟨gs, 0, none⟩) 1 1]) (withN s [z]) := by
          refine ⟨_, _, rfl, (HP.out Z3 (HWy.out.trans (y3.mono HWy.out.size))).mono ?_, (own_lit (α := NoteR) (e := 69) [z] (by simp) rn).rd⟩
          exact Nat.le_trans hB (HWy.out.trans (y3.mono HWy.out.size)).size
        have p0 := cellOf r13 0 (v := .int .i64 s.iv) rfl
        have p1 := cellOf r13 1 (v := .slice Ap s.pts.length cp) rfl
        have p2 := cellOf r13 2 (v := .slice (some ⟨gs, 0, none⟩) 1 1) rfl
        obtain ⟨bo, hbo⟩ : ∃ bo, okN s z = bo := ⟨_, rfl⟩
        have HVd := Lib.hid (valid_at (w := Z3) (f := bo) (by unfold okN at hbo; exact hbo) hone (show Named (withN s [z]) from HNm.out) (Nat.le_refl _))
        have HTk1 := Lib.hid (HY.out z HTd.out)
        have HTk2 := Lib.hid (HNo.out z HTd.out)
        have Y3 := Lib.hid y3
        clear hZ3 rn r13 hone o2 f2 n0 n1 n2 n3 n4 y3 hgsn
        cases bo with
        | true =>
          have HS := Lib.hid (HTk1.out hbo)
          clear HTk1 HTk2 hbo
          go_upto_region 22 with (go_at_call 44; refine HVd.out.mono ?_; rintro e U ⟨rfl, hbU⟩)
          have yU := Y3.out.trans (hbU.mono Y3.out.size)
          have u9 := (yU.block _ (lt_of_block RVy.out)).trans RVy.out
          have u7 := (yU.block _ (lt_of_block R7y.out)).trans R7y.out
          have HUs := Lib.hid (Nat.le_trans HSy.out yU.size)
          have ho := HOy.out.below yU
          rw [HLen.out] at ho
          have hlen1 : (toldL s h off k).length ≤ 100000 := Nat.le_trans (toldL_len _ _ _ _) (by omega)
          obtain ⟨A2, c2, w2, hrun, hown2, hb2, hsz2, _, _⟩ := append_note ho z hlen1 HUs.out
          rw [← HLen.out] at hrun hown2
          have n0 := cellOf u9 0 (v := .int .i64 z.kind) rfl
          have n1 := cellOf u9 1 (v := .int .i64 z.a) rfl
          have n2 := cellOf u9 2 (v := .int .i64 z.b) rfl
          have n3 := cellOf u9 3 (v := .int .i64 z.lo) rfl
          have n4 := cellOf u9 4 (v := .int .i64 z.hi) rfl
          have s2 := cellOf u7 2 (v := .slice A len c) rfl
          have w7 := (hb2.block _ HLt.out).trans u7
          have o2 := cellOf w7 2 (v := .slice A len c) rfl
          have f2 : w2.frozen? ⟨g7, 2, none⟩ = false := by simp [World.frozen?, w7]
          have W7 := Lib.hid w7
          have HOw := Lib.hid hown2
          have HB2w := Lib.hid hb2
          have HBu := Lib.hid (HBy.out.trans (yU.mono (by have := HLt.out; have := HSy.out; omega)))
          have HUw := Lib.hid hsz2
          clear u9 u7 ho hlen1 w7 hown2 hb2 hsz2 hbU yU p0 p1 p2
          go_wp2_with (at_builtin; refine wpList_append_run rfl _ _ _ rfl rfl rfl hrun ?_)
          go_roundw
          case rel => exact ⟨k + 1, len + 1, A2, c2, by omega, by go_num, by rw [HS.out, List.length_append, ← HLen.out]; rfl, (Joins.block_setCell W7.out _).trans rfl, by rw [HS.out]; exact HOw.out.other (p := ⟨g7, 2, none⟩) HLt.out _, (HBu.out.trans (HB2w.out.mono (Nat.le_of_lt HLt.out))).setCell (Nat.le_refl _) _, by simpa [World.setCell] using HUw.out⟩
          case measure => simp [intOf]; omega
        | false =>
          have HS := Lib.hid (HTk2.out hbo)
          clear HTk1 HTk2 hbo
          go_wp2_with (go_at_call 44; refine HVd.out.mono ?_; rintro e U ⟨rfl, hbU⟩; have yU := Lib.hid (Y3.out.trans (hbU.mono Y3.out.size)); clear hbU)
          go_roundw
          case rel => exact ⟨k + 1, len, A, c, by omega, by go_num, by rw [HS.out]; exact HLen.out, (yU.out.block _ (lt_of_block R7y.out)).trans R7y.out, by rw [HS.out]; exact HOy.out.below yU.out, HBy.out.trans (yU.out.mono (by have := HLt.out; have := HSy.out; omega)), Nat.le_trans HSy.out yU.out.size⟩
          case measure => simp [intOf]; omega
      · subst h0
        go_upto_region 15 with (fail)
        by_cases hut : u = t
        · have w1 : (u != t) = false := by simp [hut]
          have HUT := Lib.hid hut
          clear hut
          go_quiet (fail)
          go_upto_region 19 with (fail)
          obtain ⟨z, hz⟩ : ∃ z : NoteR, z = ⟨3, na, nb, x3, x4⟩ := ⟨_, rfl⟩
          obtain ⟨Yz, hYz⟩ : ∃ Yz, Yz = V.drewN nq := ⟨_, rfl⟩
          rw [← hYz]
          have HTd := Lib.hid (show toldN s.iv h less more ⟨3, na, nb, x3, x4⟩ = some z by
            unfold toldN
            simp only
            rw [if_neg (by omega)]
            simp [HUd.out, HVd0.out, HUT.out, hz])
          have RVy := Lib.hid (show Yz.heap[g9]? = some (.cells #[.int .i64 z.kind, .int .i64 z.a, .int .i64 z.b, .int .i64 z.lo, .int .i64 z.hi] 69) by rw [hYz, hz, World.heap_drewN]; exact RV.out)
          have R7y := Lib.hid (show Yz.heap[g7]? = some (.cells #[.int .i64 s.iv, .slice Ap s.pts.length cp, .slice A len c] 25) by rw [hYz, World.heap_drewN]; exact R7v.out)
          have HOy := Lib.hid (show Own X2.heap.size 69 Yz (.slice A len c) (toldL s h off k) by rw [hYz]; exact HOv.out.qt ⟨_, rfl⟩)
          have HBy := Lib.hid (show Below g7 X2 Yz by rw [hYz]; exact below_drewN HBv.out _)
          have HSy := Lib.hid (show X2.heap.size ≤ Yz.heap.size by rw [hYz, World.heap_drewN]; exact HSv.out)
          have HWy := Lib.hid (show Below w.heap.size w Yz by rw [hYz]; exact below_drewN HWv.out _)
          clear hz hYz cu cv d0 d1 d2 d3 d4 f3 f4 c0 w1
          have hob := HOk9.out
          have R9 := Lib.hid RVy.out
          have q0 := cellOf R7y.out 0 (v := .int .i64 s.iv) rfl
          have q1 := cellOf R7y.out 1 (v := .slice Ap s.pts.length cp) rfl
          have q2 := cellOf R7y.out 2 (v := .slice A len c) rfl
          go_upto_region 20 with (refine wpList_store_row rfl 25 (.tmp 13) (.tmp 140) rfl Yz.heap.size #[.int .i64 s.iv, .slice Ap s.pts.length cp, .slice A len c] rfl rfl 25 _ (heap_alloc_new _ _) (by kernel_rfl) rfl (by simp [Value.oneCell']) ?_)
          obtain ⟨Z1, hZ1⟩ : ∃ Z1, Z1 = (Yz.alloc (.cells #[.int .i64 0, .slice none 0 0, .slice none 0 0] 25)).setRow Yz.heap.size #[.int .i64 s.iv, .slice Ap s.pts.length cp, .slice A len c] := ⟨_, rfl⟩
          rw [← hZ1]
          have y1 : Below Yz.heap.size Yz Z1 := by rw [hZ1]; exact ((Below.refl _ _).alloc (Nat.le_refl _) _).trans (setRow_below _ (Nat.le_refl _))
          have r1 : Z1.heap[Yz.heap.size]? = some (.cells #[.int .i64 s.iv, .slice Ap s.pts.length cp, .slice A len c] 25) := by rw [hZ1]; exact setRow_heap _ _ _ _ _ _ (heap_alloc_new _ _)
          clear hZ1 q0 q1 q2
          obtain ⟨Z2, hZ2, r2, z2, b2⟩ := box_any Z1 #[.int .i64 z.kind, .int .i64 z.a, .int .i64 z.b, .int .i64 z.lo, .int .i64 z.hi] 69
          have HZ2 := Lib.hid hZ2
          have y1b := (b2.block _ (lt_of_block r1)).trans r1
          have r9 := (b2.block _ (lt_of_block ((y1.block _ (lt_of_block RVy.out)).trans RVy.out))).trans ((y1.block _ (lt_of_block RVy.out)).trans RVy.out)
          have r9' := (y1.block _ (lt_of_block RVy.out)).trans RVy.out
          have hY12 : Below Yz.heap.size Yz Z2 := y1.trans (b2.mono y1.size)
          have hgs : Yz.heap.size ≠ Z1.heap.size := by have := lt_of_block r1; omega
          generalize hg13 : Yz.heap.size = g13 at y1b hgs ⊢
          have o2 := cellOf y1b 2 (v := .slice A len c) rfl
          have f2 : Z2.frozen? ⟨g13, 2, none⟩ = false := by simp [World.frozen?, y1b]
          have n0 := cellOf r9' 0 (v := .int .i64 z.kind) rfl
          have n1 := cellOf r9' 1 (v := .int .i64 z.a) rfl
          have n2 := cellOf r9' 2 (v := .int .i64 z.b) rfl
          have n3 := cellOf r9' 3 (v := .int .i64 z.lo) rfl
          have n4 := cellOf r9' 4 (v := .int .i64 z.hi) rfl
          have H13 := Lib.hid hg13
          have Y1b := Lib.hid y1b
          have R2n := Lib.hid r2
          have HY12 := Lib.hid hY12
          clear hZ2 z2 r1 y1b r9 r9' r2 hg13 hY12 y1 b2
          rw [HZ2.out] at o2 f2
          go_upto_region 21 with (fail)
          rw [← HZ2.out]
          generalize hgsn : Z1.heap.size = gs at *
          obtain ⟨Z3, hZ3⟩ : ∃ Z3, Z3 = Z2.setCell ⟨g13, 2, none⟩ (.slice (some ⟨gs, 0, none⟩) 1 1) := ⟨_, rfl⟩
          rw [← hZ3]
          have r13 : Z3.heap[g13]? = some (.cells #[.int .i64 s.iv, .slice Ap s.pts.length cp, .slice (some ⟨gs, 0, none⟩) 1 1] 25) := by rw [hZ3]; exact (Joins.block_setCell Y1b.out _).trans rfl
          have rn : Z3.heap[gs]? = some (.cells #[.int .i64 z.kind, .int .i64 z.a, .int .i64 z.b, .int .i64 z.lo, .int .i64 z.hi] 69) := by rw [hZ3]; exact (Below.heap_setCell _ _ _ _ (by show gs ≠ g13; exact Ne.symm hgs)).trans R2n.out
          have y3 : Below Yz.heap.size Yz Z3 := by rw [hZ3]; exact HY12.out.setCell (by show Yz.heap.size ≤ g13; rw [H13.out]; exact Nat.le_refl _) _
          have hone : RdSh Z3.heap.size Z3 (.agg #[.int .i64 s.iv, .slice Ap s.pts.length cp, .slice (some ⟨gs, 0, none⟩) 1 1]) (withN s [z]) := by
            refine ⟨_, _, rfl, (HP.out Z3 (HWy.out.trans (y3.mono HWy.out.size))).mono ?_, (own_lit (α := NoteR) (e := 69) [z] (by simp) rn).rd⟩
            exact Nat.le_trans hB (HWy.out.trans (y3.mono HWy.out.size)).size
          have p0 := cellOf r13 0 (v := .int .i64 s.iv) rfl
          have p1 := cellOf r13 1 (v := .slice Ap s.pts.length cp) rfl
          have p2 := cellOf r13 2 (v := .slice (some ⟨gs, 0, none⟩) 1 1) rfl
          obtain ⟨bo, hbo⟩ : ∃ bo, okN s z = bo := ⟨_, rfl⟩
          have HVd := Lib.hid (valid_at (w := Z3) (f := bo) (by unfold okN at hbo; exact hbo) hone (show Named (withN s [z]) from HNm.out) (Nat.le_refl _))
          have HTk1 := Lib.hid (HY.out z HTd.out)
          have HTk2 := Lib.hid (HNo.out z HTd.out)
          have Y3 := Lib.hid y3
          clear hZ3 rn r13 hone o2 f2 n0 n1 n2 n3 n4 y3 hgsn
          cases bo with
          | true =>
            have HS := Lib.hid (HTk1.out hbo)
            clear HTk1 HTk2 hbo
            go_upto_region 22 with (go_at_call 44; refine HVd.out.mono ?_; rintro e U ⟨rfl, hbU⟩)
            have yU := Y3.out.trans (hbU.mono Y3.out.size)
            have u9 := (yU.block _ (lt_of_block RVy.out)).trans RVy.out
            have u7 := (yU.block _ (lt_of_block R7y.out)).trans R7y.out
            have HUs := Lib.hid (Nat.le_trans HSy.out yU.size)
            have ho := HOy.out.below yU
            rw [HLen.out] at ho
            have hlen1 : (toldL s h off k).length ≤ 100000 := Nat.le_trans (toldL_len _ _ _ _) (by omega)
            obtain ⟨A2, c2, w2, hrun, hown2, hb2, hsz2, _, _⟩ := append_note ho z hlen1 HUs.out
            rw [← HLen.out] at hrun hown2
            have n0 := cellOf u9 0 (v := .int .i64 z.kind) rfl
            have n1 := cellOf u9 1 (v := .int .i64 z.a) rfl
            have n2 := cellOf u9 2 (v := .int .i64 z.b) rfl
            have n3 := cellOf u9 3 (v := .int .i64 z.lo) rfl
            have n4 := cellOf u9 4 (v := .int .i64 z.hi) rfl
            have s2 := cellOf u7 2 (v := .slice A len c) rfl
            have w7 := (hb2.block _ HLt.out).trans u7
            have o2 := cellOf w7 2 (v := .slice A len c) rfl
            have f2 : w2.frozen? ⟨g7, 2, none⟩ = false := by simp [World.frozen?, w7]
            have W7 := Lib.hid w7
            have HOw := Lib.hid hown2
            have HB2w := Lib.hid hb2
            have HBu := Lib.hid (HBy.out.trans (yU.mono (by have := HLt.out; have := HSy.out; omega)))
            have HUw := Lib.hid hsz2
            clear u9 u7 ho hlen1 w7 hown2 hb2 hsz2 hbU yU p0 p1 p2
            go_wp2_with (at_builtin; refine wpList_append_run rfl _ _ _ rfl rfl rfl hrun ?_)
            go_roundw
            case rel => exact ⟨k + 1, len + 1, A2, c2, by omega, by go_num, by rw [HS.out, List.length_append, ← HLen.out]; rfl, (Joins.block_setCell W7.out _).trans rfl, by rw [HS.out]; exact HOw.out.other (p := ⟨g7, 2, none⟩) HLt.out _, (HBu.out.trans (HB2w.out.mono (Nat.le_of_lt HLt.out))).setCell (Nat.le_refl _) _, by simpa [World.setCell] using HUw.out⟩
            case measure => simp [intOf]; omega
          | false =>
            have HS := Lib.hid (HTk2.out hbo)
            clear HTk1 HTk2 hbo
            go_wp2_with (go_at_call 44; refine HVd.out.mono ?_; rintro e U ⟨rfl, hbU⟩; have yU := Lib.hid (Y3.out.trans (hbU.mono Y3.out.size)); clear hbU)
            go_roundw
            case rel => exact ⟨k + 1, len, A, c, by omega, by go_num, by rw [HS.out]; exact HLen.out, (yU.out.block _ (lt_of_block R7y.out)).trans R7y.out, by rw [HS.out]; exact HOy.out.below yU.out, HBy.out.trans (yU.out.mono (by have := HLt.out; have := HSy.out; omega)), Nat.le_trans HSy.out yU.out.size⟩
            case measure => simp [intOf]; omega
        · have w1 : (u != t) = true := by simpa using hut
          have HTk := Lib.hid (HNn.out (by unfold toldN; simp only; rw [if_neg (by omega)]; simp [HUd.out, HVd0.out, hut]))
          clear hut
          go_quiet (fail)
          go_wp2
          go_roundw
          case rel => exact ⟨k + 1, len, A, c, by omega, by go_num, by rw [HTk.out]; exact HLen.out, by rw [World.heap_drewN]; exact R7v.out, by rw [HTk.out]; exact HOv.out.qt ⟨_, rfl⟩, below_drewN HBv.out _, by rw [World.heap_drewN]; exact HSv.out⟩
          case measure => simp [intOf]; omega
      · subst h0
        go_upto_region 17 with (fail)
        have w1 : IntKind.i64.wrap (u - t) = u - t := IntWalk.i64_in _ (by omega)
        have w2 : IntKind.i64.wrap (u - t - less) = u - t - less := IntWalk.i64_in _ (by omega)
        have w3 : IntKind.i64.wrap (u - t + more) = u - t + more := IntWalk.i64_in _ (by omega)
        go_quiet (fail)
        go_upto_region 19 with (go_at_call 43; (refine (span_any _ _ _).mono ?_; rintro e wx ⟨rfl, hbx⟩; replace hbx : Below V.heap.size V wx := (below_drewN (Below.refl _ _) nq).trans hbx; have rx := (hbx.block _ (lt_of_block RV.out)).trans RV.out; have d3 := cellOf rx 3 (v := .int .i64 x3) rfl; have d4 := cellOf rx 4 (v := .int .i64 x4) rfl; have f3 : wx.frozen? ⟨g9, 3, none⟩ = false := (by simp [World.frozen?, rx]); have f4 : wx.frozen? ⟨g9, 4, none⟩ = false := (by simp [World.frozen?, rx])))
        obtain ⟨z, hz⟩ : ∃ z : NoteR, z = ⟨4, na, nb, max (-9000) (u - t - less), min 9000 (u - t + more)⟩ := ⟨_, rfl⟩
        obtain ⟨Yz, hYz⟩ : ∃ Yz, Yz = (wx.setCell ⟨g9, 3, none⟩ (.int .i64 (max (-9000) (u - t - less)))).setCell ⟨g9, 4, none⟩ (.int .i64 (min 9000 (u - t + more))) := ⟨_, rfl⟩
        rw [← hYz]
        have HTd := Lib.hid (show toldN s.iv h less more ⟨4, na, nb, x3, x4⟩ = some z by
          unfold toldN
          simp only
          rw [if_neg (by omega)]
          simp [HUd.out, HVd0.out, hz])
        have RVy := Lib.hid (show Yz.heap[g9]? = some (.cells #[.int .i64 z.kind, .int .i64 z.a, .int .i64 z.b, .int .i64 z.lo, .int .i64 z.hi] 69) by rw [hYz, hz]; exact (Joins.block_setCell ((Joins.block_setCell rx _).trans rfl) _).trans rfl)
        have keep9 : ∀ b, b ≠ g9 → Yz.heap[b]? = wx.heap[b]? := fun b hb => by rw [hYz]; exact (Below.heap_setCell _ _ _ _ (by show b ≠ g9; exact hb)).trans (Below.heap_setCell _ _ _ _ (by show b ≠ g9; exact hb))
        have R7y := Lib.hid (show Yz.heap[g7]? = some (.cells #[.int .i64 s.iv, .slice Ap s.pts.length cp, .slice A len c] 25) from (keep9 g7 (by have := HLt.out; omega)).trans ((hbx.block _ (lt_of_block R7v.out)).trans R7v.out))
        have HOy := Lib.hid ((HOv.out.below hbx).keep (w' := Yz) fun g hg => keep9 g (by have := HOk9.out g hg; omega))
        have HBy := Lib.hid (show Below g7 X2 Yz by rw [hYz]; exact ((HBv.out.trans (hbx.mono (by have := HLt.out; have := HSv.out; omega))).setCell (by show g7 ≤ g9; have := HLt.out; omega) _).setCell (by show g7 ≤ g9; have := HLt.out; omega) _)
        have HSy := Lib.hid (show X2.heap.size ≤ Yz.heap.size by rw [hYz]; simpa [World.setCell] using Nat.le_trans HSv.out hbx.size)
        have HWy := Lib.hid (show Below w.heap.size w Yz by rw [hYz]; exact ((HWv.out.trans (hbx.mono HWv.out.size)).setCell (by show w.heap.size ≤ g9; have := HLt.out; rw [HG7.out] at this; omega) _).setCell (by show w.heap.size ≤ g9; have := HLt.out; rw [HG7.out] at this; omega) _)
        clear hz hYz hbx rx d3 d4 f3 f4 keep9
        clear w1 w2 w3 cu cv d0 d1 d2 c0
        have hob := HOk9.out
        have R9 := Lib.hid RVy.out
        have q0 := cellOf R7y.out 0 (v := .int .i64 s.iv) rfl
        have q1 := cellOf R7y.out 1 (v := .slice Ap s.pts.length cp) rfl
        have q2 := cellOf R7y.out 2 (v := .slice A len c) rfl
        go_upto_region 20 with (refine wpList_store_row rfl 25 (.tmp 13) (.tmp 140) rfl Yz.heap.size #[.int .i64 s.iv, .slice Ap s.pts.length cp, .slice A len c] rfl rfl 25 _ (heap_alloc_new _ _) (by kernel_rfl) rfl (by simp [Value.oneCell']) ?_)
        obtain ⟨Z1, hZ1⟩ : ∃ Z1, Z1 = (Yz.alloc (.cells #[.int .i64 0, .slice none 0 0, .slice none 0 0] 25)).setRow Yz.heap.size #[.int .i64 s.iv, .slice Ap s.pts.length cp, .slice A len c] := ⟨_, rfl⟩
        rw [← hZ1]
        have y1 : Below Yz.heap.size Yz Z1 := by rw [hZ1]; exact ((Below.refl _ _).alloc (Nat.le_refl _) _).trans (setRow_below _ (Nat.le_refl _))
        have r1 : Z1.heap[Yz.heap.size]? = some (.cells #[.int .i64 s.iv, .slice Ap s.pts.length cp, .slice A len c] 25) := by rw [hZ1]; exact setRow_heap _ _ _ _ _ _ (heap_alloc_new _ _)
        clear hZ1 q0 q1 q2
        obtain ⟨Z2, hZ2, r2, z2, b2⟩ := box_any Z1 #[.int .i64 z.kind, .int .i64 z.a, .int .i64 z.b, .int .i64 z.lo, .int .i64 z.hi] 69
        have HZ2 := Lib.hid hZ2
        have y1b := (b2.block _ (lt_of_block r1)).trans r1
        have r9 := (b2.block _ (lt_of_block ((y1.block _ (lt_of_block RVy.out)).trans RVy.out))).trans ((y1.block _ (lt_of_block RVy.out)).trans RVy.out)
        have r9' := (y1.block _ (lt_of_block RVy.out)).trans RVy.out
        have hY12 : Below Yz.heap.size Yz Z2 := y1.trans (b2.mono y1.size)
        have hgs : Yz.heap.size ≠ Z1.heap.size := by have := lt_of_block r1; omega
        generalize hg13 : Yz.heap.size = g13 at y1b hgs ⊢
        have o2 := cellOf y1b 2 (v := .slice A len c) rfl
        have f2 : Z2.frozen? ⟨g13, 2, none⟩ = false := by simp [World.frozen?, y1b]
        have n0 := cellOf r9' 0 (v := .int .i64 z.kind) rfl
        have n1 := cellOf r9' 1 (v := .int .i64 z.a) rfl
        have n2 := cellOf r9' 2 (v := .int .i64 z.b) rfl
        have n3 := cellOf r9' 3 (v := .int .i64 z.lo) rfl
        have n4 := cellOf r9' 4 (v := .int .i64 z.hi) rfl
        have H13 := Lib.hid hg13
        have Y1b := Lib.hid y1b
        have R2n := Lib.hid r2
        have HY12 := Lib.hid hY12
        clear hZ2 z2 r1 y1b r9 r9' r2 hg13 hY12 y1 b2
        rw [HZ2.out] at o2 f2
        go_upto_region 21 with (fail)
        rw [← HZ2.out]
        generalize hgsn : Z1.heap.size = gs at *
        obtain ⟨Z3, hZ3⟩ : ∃ Z3, Z3 = Z2.setCell ⟨g13, 2, none⟩ (.slice (some ⟨gs, 0, none⟩) 1 1) := ⟨_, rfl⟩
        rw [← hZ3]
        have r13 : Z3.heap[g13]? = some (.cells #[.int .i64 s.iv, .slice Ap s.pts.length cp, .slice (some ⟨gs, 0, none⟩) 1 1] 25) := by rw [hZ3]; exact (Joins.block_setCell Y1b.out _).trans rfl
        have rn : Z3.heap[gs]? = some (.cells #[.int .i64 z.kind, .int .i64 z.a, .int .i64 z.b, .int .i64 z.lo, .int .i64 z.hi] 69) := by rw [hZ3]; exact (Below.heap_setCell _ _ _ _ (by show gs ≠ g13; exact Ne.symm hgs)).trans R2n.out
        have y3 : Below Yz.heap.size Yz Z3 := by rw [hZ3]; exact HY12.out.setCell (by show Yz.heap.size ≤ g13; rw [H13.out]; exact Nat.le_refl _) _
        have hone : RdSh Z3.heap.size Z3 (.agg #[.int .i64 s.iv, .slice Ap s.pts.length cp, .slice (some ⟨gs, 0, none⟩) 1 1]) (withN s [z]) := by
          refine ⟨_, _, rfl, (HP.out Z3 (HWy.out.trans (y3.mono HWy.out.size))).mono ?_, (own_lit (α := NoteR) (e := 69) [z] (by simp) rn).rd⟩
          exact Nat.le_trans hB (HWy.out.trans (y3.mono HWy.out.size)).size
        have p0 := cellOf r13 0 (v := .int .i64 s.iv) rfl
        have p1 := cellOf r13 1 (v := .slice Ap s.pts.length cp) rfl
        have p2 := cellOf r13 2 (v := .slice (some ⟨gs, 0, none⟩) 1 1) rfl
        obtain ⟨bo, hbo⟩ : ∃ bo, okN s z = bo := ⟨_, rfl⟩
        have HVd := Lib.hid (valid_at (w := Z3) (f := bo) (by unfold okN at hbo; exact hbo) hone (show Named (withN s [z]) from HNm.out) (Nat.le_refl _))
        have HTk1 := Lib.hid (HY.out z HTd.out)
        have HTk2 := Lib.hid (HNo.out z HTd.out)
        have Y3 := Lib.hid y3
        clear hZ3 rn r13 hone o2 f2 n0 n1 n2 n3 n4 y3 hgsn
        cases bo with
        | true =>
          have HS := Lib.hid (HTk1.out hbo)
          clear HTk1 HTk2 hbo
          go_upto_region 22 with (go_at_call 44; refine HVd.out.mono ?_; rintro e U ⟨rfl, hbU⟩)
          have yU := Y3.out.trans (hbU.mono Y3.out.size)
          have u9 := (yU.block _ (lt_of_block RVy.out)).trans RVy.out
          have u7 := (yU.block _ (lt_of_block R7y.out)).trans R7y.out
          have HUs := Lib.hid (Nat.le_trans HSy.out yU.size)
          have ho := HOy.out.below yU
          rw [HLen.out] at ho
          have hlen1 : (toldL s h off k).length ≤ 100000 := Nat.le_trans (toldL_len _ _ _ _) (by omega)
          obtain ⟨A2, c2, w2, hrun, hown2, hb2, hsz2, _, _⟩ := append_note ho z hlen1 HUs.out
          rw [← HLen.out] at hrun hown2
          have n0 := cellOf u9 0 (v := .int .i64 z.kind) rfl
          have n1 := cellOf u9 1 (v := .int .i64 z.a) rfl
          have n2 := cellOf u9 2 (v := .int .i64 z.b) rfl
          have n3 := cellOf u9 3 (v := .int .i64 z.lo) rfl
          have n4 := cellOf u9 4 (v := .int .i64 z.hi) rfl
          have s2 := cellOf u7 2 (v := .slice A len c) rfl
          have w7 := (hb2.block _ HLt.out).trans u7
          have o2 := cellOf w7 2 (v := .slice A len c) rfl
          have f2 : w2.frozen? ⟨g7, 2, none⟩ = false := by simp [World.frozen?, w7]
          have W7 := Lib.hid w7
          have HOw := Lib.hid hown2
          have HB2w := Lib.hid hb2
          have HBu := Lib.hid (HBy.out.trans (yU.mono (by have := HLt.out; have := HSy.out; omega)))
          have HUw := Lib.hid hsz2
          clear u9 u7 ho hlen1 w7 hown2 hb2 hsz2 hbU yU p0 p1 p2
          go_wp2_with (at_builtin; refine wpList_append_run rfl _ _ _ rfl rfl rfl hrun ?_)
          go_roundw
          case rel => exact ⟨k + 1, len + 1, A2, c2, by omega, by go_num, by rw [HS.out, List.length_append, ← HLen.out]; rfl, (Joins.block_setCell W7.out _).trans rfl, by rw [HS.out]; exact HOw.out.other (p := ⟨g7, 2, none⟩) HLt.out _, (HBu.out.trans (HB2w.out.mono (Nat.le_of_lt HLt.out))).setCell (Nat.le_refl _) _, by simpa [World.setCell] using HUw.out⟩
          case measure => simp [intOf]; omega
        | false =>
          have HS := Lib.hid (HTk2.out hbo)
          clear HTk1 HTk2 hbo
          go_wp2_with (go_at_call 44; refine HVd.out.mono ?_; rintro e U ⟨rfl, hbU⟩; have yU := Lib.hid (Y3.out.trans (hbU.mono Y3.out.size)); clear hbU)
          go_roundw
          case rel => exact ⟨k + 1, len, A, c, by omega, by go_num, by rw [HS.out]; exact HLen.out, (yU.out.block _ (lt_of_block R7y.out)).trans R7y.out, by rw [HS.out]; exact HOy.out.below yU.out, HBy.out.trans (yU.out.mono (by have := HLt.out; have := HSy.out; omega)), Nat.le_trans HSy.out yU.out.size⟩
          case measure => simp [intOf]; omega
    · obtain rfl : k = s.notes.length := by omega
      have hrow := HRow.out
      have p0 := cellOf hrow 0 (v := .int .i64 s.iv) rfl
      have p1 := cellOf hrow 1 (v := .slice Ap s.pts.length cp) rfl
      have p2 := cellOf hrow 2 (v := .slice A len c) rfl
      clear hrow
      have K6 := Lib.hid (((Y2.out.trans HBr.out).block _ (by have := lt_of_block R2.out; rw [HG7.out]; omega)).trans R2.out)
      go_wp2_with (refine wpList_store_row rfl 25 (.tmp 6) (.tmp 152) rfl (w.heap.size + 1) #[.int .i64 s.iv, .slice Ap s.pts.length cp, .slice A len c] rfl rfl 25 _ K6.out (by kernel_rfl) rfl (by simp [Value.oneCell']) ?_)
      have k4 := setRow_heap wr (w.heap.size + 1) _ #[.int .i64 s.iv, .slice Ap s.pts.length cp, .slice A len c] 25 (0, 0) K6.out
      have hfin : Below w.heap.size w (wr.setRow (w.heap.size + 1) #[.int .i64 s.iv, .slice Ap s.pts.length cp, .slice A len c]) := HWr.out.trans (setRow_below _ (by omega))
      have hlt1 : w.heap.size + 1 < X2.heap.size := Nat.lt_trans (by rw [HG7.out]; omega) HLt.out
      refine bodyPost_ret (v := .agg #[.int .i64 s.iv, .slice Ap s.pts.length cp, .slice A len c]) (results_cell_row rfl _ _ (w.heap.size + 1) 25 #[.int .i64 s.iv, .slice Ap s.pts.length cp, .slice A len c] (0, 0) _ rfl k4 Tryz.underlying25 rfl (by kernel_rfl)) rfl ⟨A, c, by rw [← HLen.out], ?_, hfin⟩
      · rw [← HLen.out]
        exact (Own.keepD HOwn.out fun b cs f hb hh => (setRow_other _ _ _ _ (by omega)).trans hh).mono (by have := hlt1; omega)
theorem told_any {B Bh Bo : Nat} {w : World} {v vh vo : Value} {s : ShR} {h off : List Int} (hs : RdSh B w v s) (hg : Good s) (hnm : Named s) (hB : B ≤ w.heap.size) (hh : Rd IntAt 1 Bh w vh h) (hBh : Bh ≤ w.heap.size) (hhl : h.length = s.pts.length) (hhb : ∀ x ∈ h, 0 ≤ x ∧ x ≤ 9000)
    (ho : Rd U16At 1 Bo w vo off) (hBo : Bo ≤ w.heap.size) (hob : ∀ x ∈ off, 0 ≤ x ∧ x ≤ 65535) :
    Calls Tryz.prog 46 #[v, vh, vo] w fun e w' => ∃ v', e = .returned v' ∧ RdSh w'.heap.size w' v' (toldS s h off) ∧ Below w.heap.size w w' := by
  obtain ⟨vp, vn, rfl, hp, _⟩ := id hs
  refine (told_own hs hg hnm hB hh hBh hhl hhb ho hBo hob).mono ?_
  rintro e w' ⟨A2, c2, rfl, hown, hb⟩
  exact ⟨_, rfl, ⟨_, _, rfl, (hp.below (hb.mono hB)).mono (Nat.le_trans hB hb.size), hown.rd⟩, hb⟩
end Go.Proofs.YtajdgdelhlfniaaGreatDoor
namespace Go.Proofs.YtajdgdelhlfniaaGreatDoor
open Go.RowKit

def looP (s : ShR) (b : Int) (k : Nat) : List NoteR := (s.notes.take k).map (looN s.iv b)
theorem looP_succ {s : ShR} {b : Int} {k : Nat} (h : k < s.notes.length) : looP s b (k + 1) = looP s b k ++ [looN s.iv b (s.notes.getD k default)] := by
  unfold looP
  rw [List.take_add_one, List.map_append, List.getD_eq_getElem?_getD]
  rw [List.getElem?_eq_getElem h]
  rfl
theorem looP_len {s : ShR} {b : Int} {k : Nat} : (looP s b k).length ≤ s.notes.length := by
  unfold looP
  rw [List.length_map, List.length_take]
  exact Nat.min_le_right _ _
set_option maxRecDepth 100000 in
set_option maxHeartbeats 4000000 in
theorem looser_any {B : Nat} {w : World} {v : Value} {s : ShR} {b : Int} (hs : RdSh B w v s) (hg : Good s) (hB : B ≤ w.heap.size) (hb : 0 ≤ b ∧ b ≤ 100000) :
    Calls Tryz.prog 55 #[v, .int .i64 b] w fun e w' => ∃ v', e = .returned v' ∧ RdSh w'.heap.size w' v' (looS s b) ∧ Below w.heap.size w w' := by
  obtain ⟨vp, vn, rfl, hp, hno⟩ := hs
  obtain ⟨An, cn, rfl, _⟩ := id hno
  obtain ⟨Ap, cp, rfl, _⟩ := id hp
  obtain ⟨W1, hW1, r1, z1, b1⟩ := box_any w #[.int .i64 s.iv, .slice Ap s.pts.length cp, .slice An s.notes.length cn] 25
  obtain ⟨W2, hW2, r2, z2, b2⟩ := box_any W1 #[.int .i64 0, .slice none 0 0, .slice none 0 0] 25
  have b12 := b1.trans (b2.mono b1.size)
  have q1 := (b2.block _ (by omega)).trans r1
  rw [z1] at r2
  have R2 := Lib.hid r2
  have R1 := Lib.hid q1
  have HB2 := Lib.hid b12
  have HZ := Lib.hid (show W2.heap.size = w.heap.size + 2 by omega)
  have C0 := cellOf q1 0 (v := .int .i64 s.iv) rfl
  have C1 := cellOf q1 1 (v := .slice Ap s.pts.length cp) rfl
  have C2 := cellOf q1 2 (v := .slice An s.notes.length cn) rfl
  have HP := Lib.hid (fun (X : World) (h : Below w.heap.size w X) => hp.below (h.mono hB))
  have HN := Lib.hid (fun (X : World) (h : Below w.heap.size w X) => hno.below (h.mono hB))
  have HGd := Lib.hid hg
  have HBb := Lib.hid hb
  clear r1 r2 z1 z2 b1 b2 b12 q1 hp hno hg hb
  go_enter Tryz.func55, Tryz.ntmps55
  go_upto_region 1 with (fail)
  rw [← hW1, ← hW2]
  clear hW1 hW2
  go_upto_region 2 with (refine wpList_store_row rfl 25 (.tmp 5) (.tmp 9) rfl W2.heap.size #[.int .i64 s.iv, .slice Ap s.pts.length cp, .slice An s.notes.length cn] rfl rfl 25 _ (heap_alloc_new _ _) (by kernel_rfl) rfl (by simp [Value.oneCell']) ?_)
  obtain ⟨X1, hX1⟩ : ∃ X1, X1 = (W2.alloc (.cells #[.int .i64 0, .slice none 0 0, .slice none 0 0] 25)).setRow W2.heap.size #[.int .i64 s.iv, .slice Ap s.pts.length cp, .slice An s.notes.length cn] := ⟨_, rfl⟩
  rw [← hX1]
  have y1 : Below W2.heap.size W2 X1 := by rw [hX1]; exact ((Below.refl _ _).alloc (Nat.le_refl _) _).trans (setRow_below _ (Nat.le_refl _))
  have r1 : X1.heap[W2.heap.size]? = some (.cells #[.int .i64 s.iv, .slice Ap s.pts.length cp, .slice An s.notes.length cn] 25) := by rw [hX1]; exact setRow_heap _ _ _ _ _ _ (heap_alloc_new _ _)
  clear hX1 C0 C1 C2
  have o2 := cellOf r1 2 (v := .slice An s.notes.length cn) rfl
  have f2 : X1.frozen? ⟨W2.heap.size, 2, none⟩ = false := by simp [World.frozen?, r1]
  have Y1 := Lib.hid y1
  have S1 := Lib.hid r1
  clear y1 r1
  go_upto_region 3 with (fail)
  obtain ⟨X2, hX2⟩ : ∃ X2, X2 = X1.setCell ⟨W2.heap.size, 2, none⟩ (.slice none 0 0) := ⟨_, rfl⟩
  rw [← hX2]
  have y2 : Below W2.heap.size X1 X2 := by rw [hX2]; exact Below.setCell (p := ⟨W2.heap.size, 2, none⟩) (Below.refl _ X1) (Nat.le_refl _) _
  have r2 : X2.heap[W2.heap.size]? = some (.cells #[.int .i64 s.iv, .slice Ap s.pts.length cp, .slice none 0 0] 25) := by rw [hX2]; exact (Joins.block_setCell S1.out _).trans rfl
  have Y2 := Lib.hid (Y1.out.trans y2)
  have S2 := Lib.hid r2
  clear hX2 o2 f2 y2 r2
  generalize hg7 : W2.heap.size = g7 at *
  go_wp2
  go_loopw [6] (fun i wr => ∃ (k len : Nat) (A : Option Addr) (c : Nat), k ≤ s.notes.length ∧ i = .int .i64 k ∧ len = (looP s b k).length ∧ wr.heap[g7]? = some (.cells #[.int .i64 s.iv, .slice Ap s.pts.length cp, .slice A len c] 25) ∧ Own X2.heap.size 69 wr (.slice A len c) (looP s b k) ∧ Below g7 X2 wr ∧ X2.heap.size ≤ wr.heap.size) (fun i _ => s.notes.length - (intOf i).toNat)
  case atStart => exact ⟨0, 0, none, 0, Nat.zero_le _, rfl, rfl, S2.out, Own.nil _ _ _, Below.refl _ _, Nat.le_refl _⟩
  case round =>
    obtain ⟨k, len, A, c, hk, rfl, hlen, hrow, hown, hbr, hsz⟩ := hrel
    have HLen := Lib.hid hlen
    have HRow := Lib.hid hrow
    have HOwn := Lib.hid hown
    have HBr := Lib.hid hbr
    have HBw := Lib.hid hsz
    have HG7 := Lib.hid (show g7 = w.heap.size + 2 from HZ.out)
    have HWr := Lib.hid (HB2.out.trans ((Y2.out.trans hbr).mono (by rw [HG7.out]; omega)))
    have k1 := ((Y2.out.trans hbr).block _ (by have := lt_of_block R1.out; rw [HG7.out]; omega)).trans R1.out
    have HLt := Lib.hid (lt_of_block S2.out)
    have C0 := cellOf k1 0 (v := .int .i64 s.iv) rfl
    have C2 := cellOf k1 2 (v := .slice An s.notes.length cn) rfl
    have RS := Lib.hid k1
    clear hlen hrow hown hbr hsz k1
    by_cases hlt : k < s.notes.length
    · obtain ⟨ad, had, _, hat⟩ := (HN.out wr HWr.out).note hlt
      subst had
      have hgd : s.notes[k]?.getD default = s.notes.getD k default := by rw [List.getD_eq_getElem?_getD]
      rw [hgd] at hat
      clear hgd
      have hok := HGd.out.notes _ (getD_mem hlt default)
      have hk12 : k ≤ 12 := by have := HGd.out.nlen; omega
      have HY := Lib.hid (looP_succ (b := b) hlt)
      generalize s.notes.getD k default = x at *
      obtain ⟨x0, x1, x2, x3, x4⟩ := x
      obtain ⟨a0, a1, a2, a3, a4⟩ := hat
      simp only at a0 a1 a2 a3 a4
      have hkind := hok.kind
      have hiv := HGd.out.iv
      have hends := noteOK_ends hok hiv.1
      have hbb := HBb.out
      simp only at hkind
      have HOk := Lib.hid hok
      clear hok
      go_upto_region 7 with (fail)
      obtain ⟨V, hV, rV, zV, bV⟩ := box_any wr #[.int .i64 x0, .int .i64 x1, .int .i64 x2, .int .i64 x3, .int .i64 x4] 69
      rw [← hV]
      clear hV a0 a1 a2 a3 a4 C0 C2
      have HVb := Lib.hid bV
      have HWv := Lib.hid (HWr.out.trans (bV.mono HWr.out.size))
      have RSv := Lib.hid ((bV.block _ (lt_of_block RS.out)).trans RS.out)
      have R7v := Lib.hid ((bV.block _ (lt_of_block HRow.out)).trans HRow.out)
      have HOv := Lib.hid (HOwn.out.below bV)
      have HBv := Lib.hid (HBr.out.trans (bV.mono (by have := HLt.out; have := HBw.out; omega)))
      have HSv := Lib.hid (Nat.le_trans HBw.out bV.size)
      have hg9 : X2.heap.size ≤ wr.heap.size := HBw.out
      have HOk9 := Lib.hid (show ∀ g, (Value.slice A len c).ownBlock = some g → g < wr.heap.size from fun g hg => own_block_lt HOwn.out hg)
      generalize hgg : wr.heap.size = g9 at *
      clear hgg zV bV
      have RV := Lib.hid rV
      have d0 := cellOf rV 0 (v := .int .i64 x0) rfl
      have d3 := cellOf rV 3 (v := .int .i64 x3) rfl
      have d4 := cellOf rV 4 (v := .int .i64 x4) rfl
      have c0 := cellOf RSv.out 0 (v := .int .i64 s.iv) rfl
      have f0 : V.frozen? ⟨g9, 0, none⟩ = false := by simp [World.frozen?, rV]
      clear rV
      have HLt9 := Lib.hid (show g7 < g9 by have := HLt.out; omega)
      rcases (show x0 = 1 ∨ x0 = 2 ∨ x0 = 3 ∨ x0 = 4 by omega) with h0 | h0 | h0 | h0
      · subst h0
        go_upto_region 12 with (fail)
        obtain ⟨l, hl⟩ : ∃ l : Int, l = x3 := ⟨_, rfl⟩
        obtain ⟨hh, hhh⟩ : ∃ hh : Int, hh = x4 := ⟨_, rfl⟩
        obtain ⟨U, hU⟩ : ∃ U, U = V := ⟨_, rfl⟩
        rw [← hU]
        have RVu := Lib.hid (show U.heap[g9]? = some (.cells #[.int .i64 1, .int .i64 x1, .int .i64 x2, .int .i64 l, .int .i64 hh] 69) by rw [hU, hl, hhh]; exact RV.out)
        have R7u := Lib.hid (show U.heap[g7]? = some (.cells #[.int .i64 s.iv, .slice Ap s.pts.length cp, .slice A len c] 25) by rw [hU]; exact R7v.out)
        have HOu := Lib.hid (show Own X2.heap.size 69 U (.slice A len c) (looP s b k) by rw [hU]; exact HOv.out)
        have HBu := Lib.hid (show Below g7 X2 U by rw [hU]; exact HBv.out)
        have HSu := Lib.hid (show X2.heap.size ≤ U.heap.size by rw [hU]; exact HSv.out)
        have HWu := Lib.hid (show Below w.heap.size w U by rw [hU]; exact HWv.out)
        clear hU d0 d3 d4 c0 f0
        have hlb : -9000 ≤ l ∧ l ≤ 9000 ∧ -9000 ≤ hh ∧ hh ≤ 9000 := by simp [nlo, nhi] at hends; omega
        have HZe := Lib.hid (show looN s.iv b ⟨1, x1, x2, x3, x4⟩ = ⟨1, x1, x2, max 0 (l - b), min 9000 (hh + b)⟩ by simp [looN, nlo, nhi, hl, hhh])
        clear hl hhh hends
        have w1 : IntKind.i64.wrap (l - b) = l - b := IntWalk.i64_in _ (by omega)
        have w2 : IntKind.i64.wrap (hh + b) = hh + b := IntWalk.i64_in _ (by omega)
        have d0 := cellOf RVu.out 0 (v := .int .i64 1) rfl
        have d3 := cellOf RVu.out 3 (v := .int .i64 l) rfl
        have d4 := cellOf RVu.out 4 (v := .int .i64 hh) rfl
        go_upto_region 16 with (go_at_call 43; (with_reducible refine Calls.mono (span_any _ _ _) ?_); rintro e wy ⟨rfl, hby⟩; have ry := (hby.block _ (lt_of_block RVu.out)).trans RVu.out; have d3 := cellOf ry 3 (v := .int .i64 l) rfl; have d4 := cellOf ry 4 (v := .int .i64 hh) rfl; have f3 : wy.frozen? ⟨g9, 3, none⟩ = false := (by simp [World.frozen?, ry]); have f4 : wy.frozen? ⟨g9, 4, none⟩ = false := (by simp [World.frozen?, ry]))
        generalize hzz : looN s.iv b ⟨1, x1, x2, x3, x4⟩ = z at *
        have hz := HZe.out
        obtain ⟨Yz, hYz⟩ : ∃ Yz, Yz = (wy.setCell ⟨g9, 3, none⟩ (.int .i64 (max 0 (l - b)))).setCell ⟨g9, 4, none⟩ (.int .i64 (min 9000 (hh + b))) := ⟨_, rfl⟩
        rw [← hYz]
        have RVy := Lib.hid (show Yz.heap[g9]? = some (.cells #[.int .i64 z.kind, .int .i64 z.a, .int .i64 z.b, .int .i64 z.lo, .int .i64 z.hi] 69) by rw [hYz, hz]; exact (Joins.block_setCell ((Joins.block_setCell ry _).trans rfl) _).trans rfl)
        have keep9 : ∀ b, b ≠ g9 → Yz.heap[b]? = wy.heap[b]? := fun b hb => by rw [hYz]; exact (Below.heap_setCell _ _ _ _ (by show b ≠ g9; exact hb)).trans (Below.heap_setCell _ _ _ _ (by show b ≠ g9; exact hb))
        have u7 := (keep9 g7 (by have := HLt9.out; omega)).trans ((hby.block _ (lt_of_block R7u.out)).trans R7u.out)
        have ho := (HOu.out.below hby).keep (w' := Yz) fun g hg => keep9 g (by have := HOk9.out g hg; omega)
        have HBy := Lib.hid (show Below g7 X2 Yz by rw [hYz]; exact ((HBu.out.trans (hby.mono (by have := HLt.out; have := HSu.out; omega))).setCell (by show g7 ≤ g9; have := HLt9.out; omega) _).setCell (by show g7 ≤ g9; have := HLt9.out; omega) _)
        have HSy := Lib.hid (show X2.heap.size ≤ Yz.heap.size by rw [hYz]; simpa [World.setCell] using Nat.le_trans HSu.out hby.size)
        clear hYz hby ry d0 d3 d4 f3 f4 keep9 w1 w2 hz hzz HZe hlb
        rw [HLen.out] at ho
        have hlen1 : (looP s b k).length ≤ 100000 := Nat.le_trans looP_len (by have := HGd.out.nlen; omega)
        obtain ⟨A2, c2, w2, hrun, hown2, hb2, hsz2, _, _⟩ := append_note ho z hlen1 HSy.out
        rw [← HLen.out] at hrun hown2
        have n0 := cellOf RVy.out 0 (v := .int .i64 z.kind) rfl
        have n1 := cellOf RVy.out 1 (v := .int .i64 z.a) rfl
        have n2 := cellOf RVy.out 2 (v := .int .i64 z.b) rfl
        have n3 := cellOf RVy.out 3 (v := .int .i64 z.lo) rfl
        have n4 := cellOf RVy.out 4 (v := .int .i64 z.hi) rfl
        have s2 := cellOf u7 2 (v := .slice A len c) rfl
        have w7 := (hb2.block _ HLt.out).trans u7
        have o2 := cellOf w7 2 (v := .slice A len c) rfl
        have f2 : w2.frozen? ⟨g7, 2, none⟩ = false := by simp [World.frozen?, w7]
        have W7 := Lib.hid w7
        have HOw := Lib.hid hown2
        have HB2w := Lib.hid hb2
        have HUw := Lib.hid hsz2
        clear u7 ho hlen1 w7 hown2 hb2 hsz2
        go_wp2_with (at_builtin; refine wpList_append_run rfl _ _ _ rfl rfl rfl hrun ?_)
        go_roundw
        case rel => exact ⟨k + 1, len + 1, A2, c2, by omega, by go_num, by rw [HY.out, List.length_append, ← HLen.out]; rfl, (Joins.block_setCell W7.out _).trans rfl, by rw [HY.out]; exact HOw.out.other (p := ⟨g7, 2, none⟩) HLt.out _, (HBy.out.trans (HB2w.out.mono (Nat.le_of_lt HLt.out))).setCell (Nat.le_refl _) _, by simpa [World.setCell] using HUw.out⟩
        case measure => simp [intOf]; omega
      · subst h0
        have w1 : IntKind.i64.wrap (x3 * s.iv) = x3 * s.iv := IntWalk.i64_in _ (by simp [nlo, nhi] at hends; omega)
        have w2 : IntKind.i64.wrap (x4 * s.iv) = x4 * s.iv := IntWalk.i64_in _ (by simp [nlo, nhi] at hends; omega)
        go_upto_region 12 with (go_at_call 43; (with_reducible refine Calls.mono (span_any _ _ _) ?_); rintro e wx ⟨rfl, hbx⟩; have rx := (hbx.block _ (lt_of_block RV.out)).trans RV.out; have d0 := cellOf rx 0 (v := .int .i64 2) rfl; have d3 := cellOf rx 3 (v := .int .i64 x3) rfl; have d4 := cellOf rx 4 (v := .int .i64 x4) rfl; have f0 : wx.frozen? ⟨g9, 0, none⟩ = false := (by simp [World.frozen?, rx]); have f3 : wx.frozen? ⟨g9, 3, none⟩ = false := (by simp [World.frozen?, rx]); have f4 : wx.frozen? ⟨g9, 4, none⟩ = false := (by simp [World.frozen?, rx]))
        obtain ⟨l, hl⟩ : ∃ l : Int, l = x3 * s.iv := ⟨_, rfl⟩
        obtain ⟨hh, hhh⟩ : ∃ hh : Int, hh = x4 * s.iv := ⟨_, rfl⟩
        obtain ⟨U, hU⟩ : ∃ U, U = ((wx.setCell ⟨g9, 0, none⟩ (.int .i64 1)).setCell ⟨g9, 3, none⟩ (.int .i64 (x3 * s.iv))).setCell ⟨g9, 4, none⟩ (.int .i64 (x4 * s.iv)) := ⟨_, rfl⟩
        rw [← hU]
        have RVu := Lib.hid (show U.heap[g9]? = some (.cells #[.int .i64 1, .int .i64 x1, .int .i64 x2, .int .i64 l, .int .i64 hh] 69) by rw [hU, hl, hhh]; exact (Joins.block_setCell ((Joins.block_setCell ((Joins.block_setCell rx _).trans rfl) _).trans rfl) _).trans rfl)
        have keep9 : ∀ b, b ≠ g9 → U.heap[b]? = wx.heap[b]? := fun b hb => by rw [hU]; exact (Below.heap_setCell _ _ _ _ (by show b ≠ g9; exact hb)).trans ((Below.heap_setCell _ _ _ _ (by show b ≠ g9; exact hb)).trans (Below.heap_setCell _ _ _ _ (by show b ≠ g9; exact hb)))
        have R7u := Lib.hid (show U.heap[g7]? = some (.cells #[.int .i64 s.iv, .slice Ap s.pts.length cp, .slice A len c] 25) from (keep9 g7 (by have := HLt9.out; omega)).trans ((hbx.block _ (lt_of_block R7v.out)).trans R7v.out))
        have HOu := Lib.hid ((HOv.out.below hbx).keep (w' := U) fun g hg => keep9 g (by have := HOk9.out g hg; omega))
        have HBu := Lib.hid (show Below g7 X2 U by rw [hU]; exact (((HBv.out.trans (hbx.mono (by have := HLt.out; have := HSv.out; omega))).setCell (by show g7 ≤ g9; have := HLt9.out; omega) _).setCell (by show g7 ≤ g9; have := HLt9.out; omega) _).setCell (by show g7 ≤ g9; have := HLt9.out; omega) _)
        have HSu := Lib.hid (show X2.heap.size ≤ U.heap.size by rw [hU]; simpa [World.setCell] using Nat.le_trans HSv.out hbx.size)
        have HWu := Lib.hid (show Below w.heap.size w U by rw [hU]; exact (((HWv.out.trans (hbx.mono HWv.out.size)).setCell (by show w.heap.size ≤ g9; have := HLt9.out; rw [HG7.out] at this; omega) _).setCell (by show w.heap.size ≤ g9; have := HLt9.out; rw [HG7.out] at this; omega) _).setCell (by show w.heap.size ≤ g9; have := HLt9.out; rw [HG7.out] at this; omega) _)
        clear hU keep9 d0 d3 d4 c0 f0 f3 f4 hbx rx w1 w2
        have hlb : -9000 ≤ l ∧ l ≤ 9000 ∧ -9000 ≤ hh ∧ hh ≤ 9000 := by simp [nlo, nhi] at hends; omega
        have HZe := Lib.hid (show looN s.iv b ⟨2, x1, x2, x3, x4⟩ = ⟨1, x1, x2, max 0 (l - b), min 9000 (hh + b)⟩ by simp [looN, nlo, nhi, hl, hhh])
        clear hl hhh hends
        have w1 : IntKind.i64.wrap (l - b) = l - b := IntWalk.i64_in _ (by omega)
        have w2 : IntKind.i64.wrap (hh + b) = hh + b := IntWalk.i64_in _ (by omega)
        have d0 := cellOf RVu.out 0 (v := .int .i64 1) rfl
        have d3 := cellOf RVu.out 3 (v := .int .i64 l) rfl
        have d4 := cellOf RVu.out 4 (v := .int .i64 hh) rfl
        go_upto_region 16 with (go_at_call 43; (with_reducible refine Calls.mono (span_any _ _ _) ?_); rintro e wy ⟨rfl, hby⟩; have ry := (hby.block _ (lt_of_block RVu.out)).trans RVu.out; have d3 := cellOf ry 3 (v := .int .i64 l) rfl; have d4 := cellOf ry 4 (v := .int .i64 hh) rfl; have f3 : wy.frozen? ⟨g9, 3, none⟩ = false := (by simp [World.frozen?, ry]); have f4 : wy.frozen? ⟨g9, 4, none⟩ = false := (by simp [World.frozen?, ry]))
        generalize hzz : looN s.iv b ⟨2, x1, x2, x3, x4⟩ = z at *
        have hz := HZe.out
        obtain ⟨Yz, hYz⟩ : ∃ Yz, Yz = (wy.setCell ⟨g9, 3, none⟩ (.int .i64 (max 0 (l - b)))).setCell ⟨g9, 4, none⟩ (.int .i64 (min 9000 (hh + b))) := ⟨_, rfl⟩
        rw [← hYz]
        have RVy := Lib.hid (show Yz.heap[g9]? = some (.cells #[.int .i64 z.kind, .int .i64 z.a, .int .i64 z.b, .int .i64 z.lo, .int .i64 z.hi] 69) by rw [hYz, hz]; exact (Joins.block_setCell ((Joins.block_setCell ry _).trans rfl) _).trans rfl)
        have keep9 : ∀ b, b ≠ g9 → Yz.heap[b]? = wy.heap[b]? := fun b hb => by rw [hYz]; exact (Below.heap_setCell _ _ _ _ (by show b ≠ g9; exact hb)).trans (Below.heap_setCell _ _ _ _ (by show b ≠ g9; exact hb))
        have u7 := (keep9 g7 (by have := HLt9.out; omega)).trans ((hby.block _ (lt_of_block R7u.out)).trans R7u.out)
        have ho := (HOu.out.below hby).keep (w' := Yz) fun g hg => keep9 g (by have := HOk9.out g hg; omega)
        have HBy := Lib.hid (show Below g7 X2 Yz by rw [hYz]; exact ((HBu.out.trans (hby.mono (by have := HLt.out; have := HSu.out; omega))).setCell (by show g7 ≤ g9; have := HLt9.out; omega) _).setCell (by show g7 ≤ g9; have := HLt9.out; omega) _)
        have HSy := Lib.hid (show X2.heap.size ≤ Yz.heap.size by rw [hYz]; simpa [World.setCell] using Nat.le_trans HSu.out hby.size)
        clear hYz hby ry d0 d3 d4 f3 f4 keep9 w1 w2 hz hzz HZe hlb
        rw [HLen.out] at ho
        have hlen1 : (looP s b k).length ≤ 100000 := Nat.le_trans looP_len (by have := HGd.out.nlen; omega)
        obtain ⟨A2, c2, w2, hrun, hown2, hb2, hsz2, _, _⟩ := append_note ho z hlen1 HSy.out
        rw [← HLen.out] at hrun hown2
        have n0 := cellOf RVy.out 0 (v := .int .i64 z.kind) rfl
        have n1 := cellOf RVy.out 1 (v := .int .i64 z.a) rfl
        have n2 := cellOf RVy.out 2 (v := .int .i64 z.b) rfl
        have n3 := cellOf RVy.out 3 (v := .int .i64 z.lo) rfl
        have n4 := cellOf RVy.out 4 (v := .int .i64 z.hi) rfl
        have s2 := cellOf u7 2 (v := .slice A len c) rfl
        have w7 := (hb2.block _ HLt.out).trans u7
        have o2 := cellOf w7 2 (v := .slice A len c) rfl
        have f2 : w2.frozen? ⟨g7, 2, none⟩ = false := by simp [World.frozen?, w7]
        have W7 := Lib.hid w7
        have HOw := Lib.hid hown2
        have HB2w := Lib.hid hb2
        have HUw := Lib.hid hsz2
        clear u7 ho hlen1 w7 hown2 hb2 hsz2
        go_wp2_with (at_builtin; refine wpList_append_run rfl _ _ _ rfl rfl rfl hrun ?_)
        go_roundw
        case rel => exact ⟨k + 1, len + 1, A2, c2, by omega, by go_num, by rw [HY.out, List.length_append, ← HLen.out]; rfl, (Joins.block_setCell W7.out _).trans rfl, by rw [HY.out]; exact HOw.out.other (p := ⟨g7, 2, none⟩) HLt.out _, (HBy.out.trans (HB2w.out.mono (Nat.le_of_lt HLt.out))).setCell (Nat.le_refl _) _, by simpa [World.setCell] using HUw.out⟩
        case measure => simp [intOf]; omega
      · subst h0
        go_upto_region 12 with (fail)
        obtain ⟨l, hl⟩ : ∃ l : Int, l = x3 := ⟨_, rfl⟩
        obtain ⟨hh, hhh⟩ : ∃ hh : Int, hh = x4 := ⟨_, rfl⟩
        obtain ⟨U, hU⟩ : ∃ U, U = V.setCell ⟨g9, 0, none⟩ (.int .i64 4) := ⟨_, rfl⟩
        rw [← hU]
        have RVu := Lib.hid (show U.heap[g9]? = some (.cells #[.int .i64 4, .int .i64 x1, .int .i64 x2, .int .i64 l, .int .i64 hh] 69) by rw [hU, hl, hhh]; exact (Joins.block_setCell RV.out _).trans rfl)
        have keep9 : ∀ b, b ≠ g9 → U.heap[b]? = V.heap[b]? := fun b hb => by rw [hU]; exact Below.heap_setCell _ _ _ _ (by show b ≠ g9; exact hb)
        have R7u := Lib.hid (show U.heap[g7]? = some (.cells #[.int .i64 s.iv, .slice Ap s.pts.length cp, .slice A len c] 25) from (keep9 g7 (by have := HLt9.out; omega)).trans R7v.out)
        have HOu := Lib.hid (HOv.out.keep (w' := U) fun g hg => keep9 g (by have := HOk9.out g hg; omega))
        have HBu := Lib.hid (show Below g7 X2 U by rw [hU]; exact HBv.out.setCell (by show g7 ≤ g9; have := HLt9.out; omega) _)
        have HSu := Lib.hid (show X2.heap.size ≤ U.heap.size by rw [hU]; simpa [World.setCell] using HSv.out)
        have HWu := Lib.hid (show Below w.heap.size w U by rw [hU]; exact HWv.out.setCell (by show w.heap.size ≤ g9; have := HLt9.out; rw [HG7.out] at this; omega) _)
        clear hU keep9 d0 d3 d4 c0 f0
        have hlb : -9000 ≤ l ∧ l ≤ 9000 ∧ -9000 ≤ hh ∧ hh ≤ 9000 := by simp [nlo, nhi] at hends; omega
        have HZe := Lib.hid (show looN s.iv b ⟨3, x1, x2, x3, x4⟩ = ⟨4, x1, x2, max (-9000) (l - b), min 9000 (hh + b)⟩ by simp [looN, nlo, nhi, hl, hhh])
        clear hl hhh hends
        have w1 : IntKind.i64.wrap (l - b) = l - b := IntWalk.i64_in _ (by omega)
        have w2 : IntKind.i64.wrap (hh + b) = hh + b := IntWalk.i64_in _ (by omega)
        have d0 := cellOf RVu.out 0 (v := .int .i64 4) rfl
        have d3 := cellOf RVu.out 3 (v := .int .i64 l) rfl
        have d4 := cellOf RVu.out 4 (v := .int .i64 hh) rfl
        go_upto_region 16 with (go_at_call 43; (with_reducible refine Calls.mono (span_any _ _ _) ?_); rintro e wy ⟨rfl, hby⟩; have ry := (hby.block _ (lt_of_block RVu.out)).trans RVu.out; have d3 := cellOf ry 3 (v := .int .i64 l) rfl; have d4 := cellOf ry 4 (v := .int .i64 hh) rfl; have f3 : wy.frozen? ⟨g9, 3, none⟩ = false := (by simp [World.frozen?, ry]); have f4 : wy.frozen? ⟨g9, 4, none⟩ = false := (by simp [World.frozen?, ry]))
        generalize hzz : looN s.iv b ⟨3, x1, x2, x3, x4⟩ = z at *
        have hz := HZe.out
        obtain ⟨Yz, hYz⟩ : ∃ Yz, Yz = (wy.setCell ⟨g9, 3, none⟩ (.int .i64 (max (-9000) (l - b)))).setCell ⟨g9, 4, none⟩ (.int .i64 (min 9000 (hh + b))) := ⟨_, rfl⟩
        rw [← hYz]
        have RVy := Lib.hid (show Yz.heap[g9]? = some (.cells #[.int .i64 z.kind, .int .i64 z.a, .int .i64 z.b, .int .i64 z.lo, .int .i64 z.hi] 69) by rw [hYz, hz]; exact (Joins.block_setCell ((Joins.block_setCell ry _).trans rfl) _).trans rfl)
        have keep9 : ∀ b, b ≠ g9 → Yz.heap[b]? = wy.heap[b]? := fun b hb => by rw [hYz]; exact (Below.heap_setCell _ _ _ _ (by show b ≠ g9; exact hb)).trans (Below.heap_setCell _ _ _ _ (by show b ≠ g9; exact hb))
        have u7 := (keep9 g7 (by have := HLt9.out; omega)).trans ((hby.block _ (lt_of_block R7u.out)).trans R7u.out)
        have ho := (HOu.out.below hby).keep (w' := Yz) fun g hg => keep9 g (by have := HOk9.out g hg; omega)
        have HBy := Lib.hid (show Below g7 X2 Yz by rw [hYz]; exact ((HBu.out.trans (hby.mono (by have := HLt.out; have := HSu.out; omega))).setCell (by show g7 ≤ g9; have := HLt9.out; omega) _).setCell (by show g7 ≤ g9; have := HLt9.out; omega) _)
        have HSy := Lib.hid (show X2.heap.size ≤ Yz.heap.size by rw [hYz]; simpa [World.setCell] using Nat.le_trans HSu.out hby.size)
        clear hYz hby ry d0 d3 d4 f3 f4 keep9 w1 w2 hz hzz HZe hlb
        rw [HLen.out] at ho
        have hlen1 : (looP s b k).length ≤ 100000 := Nat.le_trans looP_len (by have := HGd.out.nlen; omega)
        obtain ⟨A2, c2, w2, hrun, hown2, hb2, hsz2, _, _⟩ := append_note ho z hlen1 HSy.out
        rw [← HLen.out] at hrun hown2
        have n0 := cellOf RVy.out 0 (v := .int .i64 z.kind) rfl
        have n1 := cellOf RVy.out 1 (v := .int .i64 z.a) rfl
        have n2 := cellOf RVy.out 2 (v := .int .i64 z.b) rfl
        have n3 := cellOf RVy.out 3 (v := .int .i64 z.lo) rfl
        have n4 := cellOf RVy.out 4 (v := .int .i64 z.hi) rfl
        have s2 := cellOf u7 2 (v := .slice A len c) rfl
        have w7 := (hb2.block _ HLt.out).trans u7
        have o2 := cellOf w7 2 (v := .slice A len c) rfl
        have f2 : w2.frozen? ⟨g7, 2, none⟩ = false := by simp [World.frozen?, w7]
        have W7 := Lib.hid w7
        have HOw := Lib.hid hown2
        have HB2w := Lib.hid hb2
        have HUw := Lib.hid hsz2
        clear u7 ho hlen1 w7 hown2 hb2 hsz2
        go_wp2_with (at_builtin; refine wpList_append_run rfl _ _ _ rfl rfl rfl hrun ?_)
        go_roundw
        case rel => exact ⟨k + 1, len + 1, A2, c2, by omega, by go_num, by rw [HY.out, List.length_append, ← HLen.out]; rfl, (Joins.block_setCell W7.out _).trans rfl, by rw [HY.out]; exact HOw.out.other (p := ⟨g7, 2, none⟩) HLt.out _, (HBy.out.trans (HB2w.out.mono (Nat.le_of_lt HLt.out))).setCell (Nat.le_refl _) _, by simpa [World.setCell] using HUw.out⟩
        case measure => simp [intOf]; omega
      · subst h0
        go_upto_region 12 with (fail)
        obtain ⟨l, hl⟩ : ∃ l : Int, l = x3 := ⟨_, rfl⟩
        obtain ⟨hh, hhh⟩ : ∃ hh : Int, hh = x4 := ⟨_, rfl⟩
        obtain ⟨U, hU⟩ : ∃ U, U = V := ⟨_, rfl⟩
        rw [← hU]
        have RVu := Lib.hid (show U.heap[g9]? = some (.cells #[.int .i64 4, .int .i64 x1, .int .i64 x2, .int .i64 l, .int .i64 hh] 69) by rw [hU, hl, hhh]; exact RV.out)
        have R7u := Lib.hid (show U.heap[g7]? = some (.cells #[.int .i64 s.iv, .slice Ap s.pts.length cp, .slice A len c] 25) by rw [hU]; exact R7v.out)
        have HOu := Lib.hid (show Own X2.heap.size 69 U (.slice A len c) (looP s b k) by rw [hU]; exact HOv.out)
        have HBu := Lib.hid (show Below g7 X2 U by rw [hU]; exact HBv.out)
        have HSu := Lib.hid (show X2.heap.size ≤ U.heap.size by rw [hU]; exact HSv.out)
        have HWu := Lib.hid (show Below w.heap.size w U by rw [hU]; exact HWv.out)
        clear hU d0 d3 d4 c0 f0
        have hlb : -9000 ≤ l ∧ l ≤ 9000 ∧ -9000 ≤ hh ∧ hh ≤ 9000 := by simp [nlo, nhi] at hends; omega
        have HZe := Lib.hid (show looN s.iv b ⟨4, x1, x2, x3, x4⟩ = ⟨4, x1, x2, max (-9000) (l - b), min 9000 (hh + b)⟩ by simp [looN, nlo, nhi, hl, hhh])
        clear hl hhh hends
        have w1 : IntKind.i64.wrap (l - b) = l - b := IntWalk.i64_in _ (by omega)
        have w2 : IntKind.i64.wrap (hh + b) = hh + b := IntWalk.i64_in _ (by omega)
        have d0 := cellOf RVu.out 0 (v := .int .i64 4) rfl
        have d3 := cellOf RVu.out 3 (v := .int .i64 l) rfl
        have d4 := cellOf RVu.out 4 (v := .int .i64 hh) rfl
        go_upto_region 16 with (go_at_call 43; (with_reducible refine Calls.mono (span_any _ _ _) ?_); rintro e wy ⟨rfl, hby⟩; have ry := (hby.block _ (lt_of_block RVu.out)).trans RVu.out; have d3 := cellOf ry 3 (v := .int .i64 l) rfl; have d4 := cellOf ry 4 (v := .int .i64 hh) rfl; have f3 : wy.frozen? ⟨g9, 3, none⟩ = false := (by simp [World.frozen?, ry]); have f4 : wy.frozen? ⟨g9, 4, none⟩ = false := (by simp [World.frozen?, ry]))
        generalize hzz : looN s.iv b ⟨4, x1, x2, x3, x4⟩ = z at *
        have hz := HZe.out
        obtain ⟨Yz, hYz⟩ : ∃ Yz, Yz = (wy.setCell ⟨g9, 3, none⟩ (.int .i64 (max (-9000) (l - b)))).setCell ⟨g9, 4, none⟩ (.int .i64 (min 9000 (hh + b))) := ⟨_, rfl⟩
        rw [← hYz]
        have RVy := Lib.hid (show Yz.heap[g9]? = some (.cells #[.int .i64 z.kind, .int .i64 z.a, .int .i64 z.b, .int .i64 z.lo, .int .i64 z.hi] 69) by rw [hYz, hz]; exact (Joins.block_setCell ((Joins.block_setCell ry _).trans rfl) _).trans rfl)
        have keep9 : ∀ b, b ≠ g9 → Yz.heap[b]? = wy.heap[b]? := fun b hb => by rw [hYz]; exact (Below.heap_setCell _ _ _ _ (by show b ≠ g9; exact hb)).trans (Below.heap_setCell _ _ _ _ (by show b ≠ g9; exact hb))
        have u7 := (keep9 g7 (by have := HLt9.out; omega)).trans ((hby.block _ (lt_of_block R7u.out)).trans R7u.out)
        have ho := (HOu.out.below hby).keep (w' := Yz) fun g hg => keep9 g (by have := HOk9.out g hg; omega)
        have HBy := Lib.hid (show Below g7 X2 Yz by rw [hYz]; exact ((HBu.out.trans (hby.mono (by have := HLt.out; have := HSu.out; omega))).setCell (by show g7 ≤ g9; have := HLt9.out; omega) _).setCell (by show g7 ≤ g9; have := HLt9.out; omega) _)
        have HSy := Lib.hid (show X2.heap.size ≤ Yz.heap.size by rw [hYz]; simpa [World.setCell] using Nat.le_trans HSu.out hby.size)
        clear hYz hby ry d0 d3 d4 f3 f4 keep9 w1 w2 hz hzz HZe hlb
        rw [HLen.out] at ho
        have hlen1 : (looP s b k).length ≤ 100000 := Nat.le_trans looP_len (by have := HGd.out.nlen; omega)
        obtain ⟨A2, c2, w2, hrun, hown2, hb2, hsz2, _, _⟩ := append_note ho z hlen1 HSy.out
        rw [← HLen.out] at hrun hown2
        have n0 := cellOf RVy.out 0 (v := .int .i64 z.kind) rfl
        have n1 := cellOf RVy.out 1 (v := .int .i64 z.a) rfl
        have n2 := cellOf RVy.out 2 (v := .int .i64 z.b) rfl
        have n3 := cellOf RVy.out 3 (v := .int .i64 z.lo) rfl
        have n4 := cellOf RVy.out 4 (v := .int .i64 z.hi) rfl
        have s2 := cellOf u7 2 (v := .slice A len c) rfl
        have w7 := (hb2.block _ HLt.out).trans u7
        have o2 := cellOf w7 2 (v := .slice A len c) rfl
        have f2 : w2.frozen? ⟨g7, 2, none⟩ = false := by simp [World.frozen?, w7]
        have W7 := Lib.hid w7
        have HOw := Lib.hid hown2
        have HB2w := Lib.hid hb2
        have HUw := Lib.hid hsz2
        clear u7 ho hlen1 w7 hown2 hb2 hsz2
        go_wp2_with (at_builtin; refine wpList_append_run rfl _ _ _ rfl rfl rfl hrun ?_)
        go_roundw
        case rel => exact ⟨k + 1, len + 1, A2, c2, by omega, by go_num, by rw [HY.out, List.length_append, ← HLen.out]; rfl, (Joins.block_setCell W7.out _).trans rfl, by rw [HY.out]; exact HOw.out.other (p := ⟨g7, 2, none⟩) HLt.out _, (HBy.out.trans (HB2w.out.mono (Nat.le_of_lt HLt.out))).setCell (Nat.le_refl _) _, by simpa [World.setCell] using HUw.out⟩
        case measure => simp [intOf]; omega
    · have hkn : k = s.notes.length := by omega
      subst hkn
      have hrow := HRow.out
      have p0 := cellOf hrow 0 (v := .int .i64 s.iv) rfl
      have p1 := cellOf hrow 1 (v := .slice Ap s.pts.length cp) rfl
      have p2 := cellOf hrow 2 (v := .slice A len c) rfl
      clear hrow
      have K6 := Lib.hid (((Y2.out.trans HBr.out).block _ (by have := lt_of_block R2.out; rw [HG7.out]; omega)).trans R2.out)
      go_wp2_with (refine wpList_store_row rfl 25 (.tmp 4) (.tmp 69) rfl (w.heap.size + 1) #[.int .i64 s.iv, .slice Ap s.pts.length cp, .slice A len c] rfl rfl 25 _ K6.out (by kernel_rfl) rfl (by simp [Value.oneCell']) ?_)
      have k4 := setRow_heap wr (w.heap.size + 1) _ #[.int .i64 s.iv, .slice Ap s.pts.length cp, .slice A len c] 25 (0, 0) K6.out
      have hfin : Below w.heap.size w (wr.setRow (w.heap.size + 1) #[.int .i64 s.iv, .slice Ap s.pts.length cp, .slice A len c]) := HWr.out.trans (setRow_below _ (by omega))
      have hlt1 : w.heap.size + 1 < X2.heap.size := Nat.lt_trans (by rw [HG7.out]; omega) HLt.out
      have hall : looP s b s.notes.length = (looS s b).notes := by unfold looP looS; rw [List.take_length]; rfl
      refine bodyPost_ret (v := .agg #[.int .i64 s.iv, .slice Ap s.pts.length cp, .slice A len c]) (results_cell_row rfl _ _ (w.heap.size + 1) 25 #[.int .i64 s.iv, .slice Ap s.pts.length cp, .slice A len c] (0, 0) _ rfl k4 Tryz.underlying25 rfl (by kernel_rfl)) rfl ⟨_, rfl, ⟨_, _, rfl, ?_, ?_⟩, hfin⟩
      · exact (HP.out _ hfin).mono (Nat.le_trans hB hfin.size)
      · rw [← hall]
        exact (Own.keepD HOwn.out fun b cs f hb hh => (setRow_other _ _ _ _ (by omega)).trans hh).rd
end Go.Proofs.YtajdgdelhlfniaaGreatDoor
namespace Go.Proofs.YtajdgdelhlfniaaGreatDoor

theorem flat_note_set (xs : List NoteR) (k : Nat) (lo hi : Int) (hk : k < xs.length) :
    ((xs.flatMap (Enc.enc (α := NoteR) (At := NoteAt) (sz := 5))).set (k * 5 + 3) (.int .i64 lo)).set (k * 5 + 4) (.int .i64 hi) = (xs.set k { xs.getD k default with lo := lo, hi := hi }).flatMap (Enc.enc (α := NoteR) (At := NoteAt) (sz := 5)) := by
  induction xs generalizing k with
  | nil => simp at hk
  | cons x xs ih =>
    cases k with
    | zero => rfl
    | succ k =>
      have := ih k (by simpa using hk)
      have e1 : (k + 1) * 5 + 3 = k * 5 + 3 + 5 := by omega
      have e2 : (k + 1) * 5 + 4 = k * 5 + 4 + 5 := by omega
      rw [List.flatMap_cons, e1, e2, List.set_cons_succ, List.flatMap_cons, List.getD_cons_succ, ← this]
      rfl
theorem Own.span {base : Nat} {w : World} {g n c : Nat} {xs : List NoteR} (h : Own base 69 w (.slice (some ⟨g, 0, none⟩) n c) xs) (hn : n = xs.length) {k : Nat} (hk : k < xs.length) (lo hi : Int) :
    Own base 69 ((w.setCell ⟨g, k * 5 + 3, none⟩ (.int .i64 lo)).setCell ⟨g, k * 5 + 4, none⟩ (.int .i64 hi)) (.slice (some ⟨g, 0, none⟩) n c) (xs.set k { xs.getD k default with lo := lo, hi := hi }) := by
  subst hn
  unfold Own at *
  rw [← flat_note_set xs k lo hi hk, List.length_set]
  exact (World.ownsRow.stored (World.ownsRow.stored h _ _).1 _ _).1
end Go.Proofs.YtajdgdelhlfniaaGreatDoor
