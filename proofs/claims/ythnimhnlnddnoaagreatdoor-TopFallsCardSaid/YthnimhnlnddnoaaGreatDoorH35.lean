/- Parts of the proof of TpP: RwS. -/
import Derived.Test.YthnimhnlnddnoaaGreatDoorH30
import Derived.Test.YthnimhnlnddnoaaGreatDoorH34
import Derived.WalkKit
import Derived.Deep.Quiet
set_option linter.unusedSimpArgs false
set_option linter.unusedVariables false
set_option maxRecDepth 100000
set_option maxHeartbeats 8000000
namespace Go.Proofs.YthnimhnlnddnoaaGreatDoor
open Go.RowKit
theorem Own.owner' {α : Type} {At : World → Addr → α → Prop} {sz : Nat} [Enc α At sz] {base : Nat} {e : TypeId} {w : World} {v : Value} {xs : List α} (h : Own base e w v xs) {g : Nat} (hg : v.ownBlock = some g) : base ≤ g := by
 rcases h with ⟨_, ⟨rfl, _⟩ | ⟨g', cap, cu, rfl, hle, hh, _⟩⟩
 ·cases hg
 ·simp only [Value.ownBlock, Option.some.injEq] at hg
  omega
def ntsR (r : List RvR) (h off : List Int) (k : Nat) : List NoteR := (List.range k).map (survN r h off)
theorem ntsR_succ (r : List RvR) (h off : List Int) (k : Nat) : ntsR r h off (k + 1) = ntsR r h off k ++ [survN r h off k] := by unfold ntsR; rw [List.range_succ, List.map_append]; rfl
theorem ntsR_len (r : List RvR) (h off : List Int) (k : Nat) : (ntsR r h off k).length = k := by unfold ntsR; simp
theorem append_strs {base B : Nat} {w : World} {v : Value} {xs ys : List ByteArray} {A : Option Addr} {c m : Nat} (hm : m = ys.length) (h : Own base 9 w v xs) (hr : Rd StrAt 1 B w (.slice A ys.length c) ys) (hn : (xs.length + ys.length) * 16 ≤ 140737488355328) (hbase : base ≤ w.heap.size) :
  ∃ v' w', (Builtin.append_ #[35, 35] 35 #[v, .slice A m c]).run Tryz.prog w = .ok v' w' ∧ Own base 9 w' v' (xs ++ ys) ∧ w.grownBy w' v.ownBlock ∧ (v'.ownBlock = v.ownBlock ∨ v'.ownBlock = some w.heap.size) :=
 append_gen (E := inferInstance) (bytes := 16) (by kernel_rfl) (by kernel_rfl) (by omega) (by simp [Enc.enc]; intros; rfl) hm h (fun e => by subst e; exact rd_none hr) (fun ad e j u hu => by
  have hj := (List.getElem?_eq_some_iff.1 hu).1
  rw [flat_len, Nat.mul_one] at hj
  obtain ⟨A', c', e0, _, _, h3⟩ := hr
  injection e0 with e1
  obtain ⟨ad', e2, _, ha⟩ := h3 j ys[j] (List.getElem?_eq_getElem hj)
  rw [← e1, e] at e2
  injection e2 with e2
  subst e2
  have hfl := flat_at (xs := ys) (i := j) (j := 0) (u := .string ys[j]) (List.getElem?_eq_getElem hj) rfl
  simp only [Nat.mul_one, Nat.add_zero] at hfl
  rw [hu] at hfl
  injection hfl with hfl
  subst hfl
  simpa [StrAt] using ha) (by unfold maxLen; omega) hn hbase
theorem wp_slot {P : Program} {c : Code} {Q : Exit → Act → World → Prop} {a : Act} {w : World} (k : Nat) (v : Value) (h : a.tmps[k]? = some v) (hw : c.wp P Q { a with tmps := a.tmps.setIfInBounds k v } w) : c.wp P Q a w := by
 have e : a.tmps.setIfInBounds k v = a.tmps := by
  apply Array.ext_getElem?
  intro i
  rw [Array.getElem?_setIfInBounds]
  split
  ·rename_i e
   subst e
   rw [h]
   split
   ·rfl
   ·rename_i hs
    rw [Array.getElem?_eq_none (by omega)] at h
    cases h
  ·rfl
 rw [e] at hw
 exact hw
theorem surveyed_any {B BH BO : Nat} {w : World} {v u o : Value} {r : List RvR} {h off : List Int} (hs : Rd RvAt 4 B w v r) (hg : RGood r) (hB : B ≤ w.heap.size) (hh : Rd IntAt 1 BH w u h) (hBH : BH ≤ w.heap.size) (hl : h.length = r.length) (hlim : ∀ i, i < r.length → 0 ≤ h.getD i 0 ∧ h.getD i 0 ≤ 9000)
  (ho : Rd U16At 1 BO w o off) (hBO : BO ≤ w.heap.size) (hos : ∀ x ∈ off, 0 ≤ x ∧ x ≤ 65535) :
  Calls Tryz.prog 9 #[v, u, o] w fun e w' => ∃ v', e = .returned v' ∧ RdSh w'.heap.size w' v' (survS r h off) ∧ Below w.heap.size w w' := by
 obtain ⟨A, cap, rfl, _⟩ := id hs
 obtain ⟨AH, cH, rfl, _⟩ := id hh
 obtain ⟨AO, cO, rfl, _⟩ := id ho
 have hlen := hg.len
 have HS := Lib.hid (fun (X : World) (hb : Below w.heap.size w X) => hs.below (hb.mono hB))
 have HH := Lib.hid (fun (X : World) (hb : Below w.heap.size w X) => hh.below (hb.mono hBH))
 have HOf := Lib.hid (fun (X : World) (hb : Below w.heap.size w X) => ho.below (hb.mono hBO))
 have HG := Lib.hid hg
 have HHl := Lib.hid hl
 have HLim := Lib.hid hlim
 have HOs := Lib.hid hos
 clear hs hh ho hg hlim hos hl
 go_enter Tryz.func9, Tryz.ntmps9
 go_upto_region 2 with (fail)
 obtain ⟨W1, hW1, r1, z1, d1⟩ := box_any w #[.int .i64 0, .slice none 0 0, .slice none 0 0] 38
 obtain ⟨W2, hW2, r2, z2, d2⟩ := box_any W1 #[.int .i64 100, .slice none 0 0, .slice none 0 0] 38
 rw [← hW1, ← hW2]
 rw [z1] at r2
 have HR1 := Lib.hid ((d2.block _ (by omega)).trans r1)
 have HR2 := Lib.hid r2
 have HB2 := Lib.hid (d1.trans (d2.mono (by omega)))
 have HZ2 := Lib.hid (show W2.heap.size = w.heap.size + 2 by omega)
 clear hW1 hW2 r1 r2 z1 z2 d1 d2
 go_wp2
 go_loopw [8] (fun iv wr => ∃ (k : Nat) (LP : Option Addr) (cP : Nat) (LN : Option Addr) (cN : Nat), k ≤ r.length ∧ iv = .int .i64 k ∧ wr.heap[w.heap.size + 1]? = some (.cells #[.int .i64 100, .slice LP k cP, .slice LN k cN] 38) ∧ Own (w.heap.size + 2) 9 wr (.slice LP k cP) (nmsR r k) ∧ Own (w.heap.size + 2) 86 wr (.slice LN k cN) (ntsR r h off k) ∧
  wr.heap[w.heap.size]? = some (.cells #[.int .i64 0, .slice none 0 0, .slice none 0 0] 38) ∧ Below w.heap.size w wr) (fun iv _ => r.length - (intOf iv).toNat)
 case atStart => exact ⟨0, none, 0, none, 0, Nat.zero_le _, rfl, HR2.out, Own.nil _ _ _, Own.nil _ _ _, HR1.out, HB2.out⟩
 case round =>
  obtain ⟨k, LP, cP, LN, cN, hk, rfl, hrow, hoP, hoN, hr6, hb⟩ := hrel
  by_cases hlt : k < r.length
  ·obtain ⟨ad, rfl, hadB, n0, n1, n2, n3⟩ := (HS.out _ hb).rv hlt
   have hkh : k < h.length := by have := HHl.out; omega
   obtain ⟨adH, rfl, hahB, eh⟩ := (HH.out _ hb).int hkh
   replace eh : wr.cell? (adH.add k) = some (.int .i64 (h.getD k 0)) := by rw [List.getD_eq_getElem?_getD]; exact eh
   have hhb := HLim.out k hlt
   have HNP := Lib.hid (nmsR_succ hlt)
   have HNl := Lib.hid (nmsR_len hk)
   have HNn := Lib.hid (ntsR_len r h off k)
   have HNS := Lib.hid (ntsR_succ r h off k)
   have HSv := Lib.hid (show survN r h off k = if rvD r k = -1 then ⟨1, k, 0, max 0 (h.getD k 0 - byR off k), min 9000 (h.getD k 0 + byR off k)⟩ else ⟨4, k, rvD r k, rvL r k, min 9000 (h.getD k 0 - h.getD (rvD r k).toNat 0 + byR off k)⟩ from rfl)
   have hdn := HG.out.down k hlt
   have hls := HG.out.least k hlt
   have hdH : rvD r k ≠ -1 → ∃ m : Nat, rvD r k = m ∧ (rvD r k).toNat = m ∧ m < r.length ∧ wr.cell? (adH.add m) = some (.int .i64 (h.getD m 0)) ∧ 0 ≤ h.getD m 0 ∧ h.getD m 0 ≤ 9000 := fun hne => by
    refine ⟨(rvD r k).toNat, by omega, rfl, by omega, ?_, HLim.out _ (by omega)⟩
    have hm : (rvD r k).toNat < h.length := by have := HHl.out; omega
    obtain ⟨ad2, e2, _, e3⟩ := (HH.out _ hb).int hm
    injection e2 with e2
    subst e2
    rw [List.getD_eq_getElem?_getD]
    exact e3
   rw [show rvD r k = (r.getD k default).down from rfl] at HSv hdn hdH
   rw [show rvL r k = (r.getD k default).least from rfl] at HSv hls
   rw [show rvN r k = (r.getD k default).name from rfl] at HNP
   generalize r.getD k default = px at *
   obtain ⟨nm, dn, ls, hg4⟩ := px
   simp only at n0 n1 n2 n3 HSv hdn hls HNP hdH
   obtain ⟨hi, hhi⟩ : ∃ v, v = h.getD k 0 := ⟨_, rfl⟩
   rw [← hhi] at eh hhb HSv
   clear hhi
   obtain ⟨by_, hby⟩ : ∃ v, v = byR off k := ⟨_, rfl⟩
   rw [← hby] at HSv
   have hbyb : 0 ≤ by_ ∧ by_ ≤ 65535 := by
    rw [hby]
    unfold byR
    split
    ·omega
    ·exact HOs.out _ (getD_mem (Nat.mod_lt _ (by omega)) 0)
   have hHl := HHl.out
   rw [hHl]
   by_cases hoz : off.length = 0
   case' pos =>
    have HB0 := Lib.hid (show by_ = 0 by rw [hby]; unfold byR; rw [if_pos hoz])
    have hzz : ((off.length : Int)) = 0 := by omega
    clear hby hoz
    go_upto_region 8 with (fail)
    refine wp_slot 9 (.int .i64 by_) (by rw [HB0.out]; rfl) ?_
    simp only [List.setIfInBounds_toArray, List.set_cons_succ, List.set_cons_zero]
    clear hzz HB0
   case' neg =>
    have hmd : k % off.length < off.length := Nat.mod_lt _ (by omega)
    obtain ⟨adO, rfl, _, eo⟩ : ∃ a0, AO = some a0 ∧ a0.block < BO ∧ wr.cell? (a0.add (k % off.length)) = some (.int .u16 by_) := by
     obtain ⟨A1, c1, e0, _, _, h3⟩ := HOf.out _ hb
     injection e0 with e1
     obtain ⟨a0, e2, e3, e4⟩ := h3 _ _ (List.getElem?_eq_getElem hmd)
     refine ⟨a0, e1.trans e2, e3, ?_⟩
     rw [Nat.mul_one] at e4
     rw [hby]
     unfold byR
     rw [if_neg hoz, List.getD_eq_getElem?_getD, List.getElem?_eq_getElem hmd]
     exact e4
    have hpos : (0 : Int) < off.length := by omega
    have hpos2 : 0 < off.length := by omega
    clear hby hoz
    go_upto_region 8 with (fail)
    clear eo hmd hpos hpos2
   all_goals
    have QRow := Lib.hid hrow
    have QP := Lib.hid (cellOf hrow 1 (v := .slice LP k cP) rfl)
    have HNe := Lib.hid (show some (w.heap.size + 1) ≠ (Value.slice LP k cP).ownBlock from fun e => by have := (hoP.owner' e.symm); omega)
    have N0 := Lib.hid n0
    have HoP := Lib.hid hoP
    have HoN := Lib.hid hoN
    have HR6 := Lib.hid hr6
    have HBw := Lib.hid hb
    have HWs := Lib.hid (show w.heap.size + 2 ≤ wr.heap.size from lt_of_block hrow)
    refine wp_region_ghost (ApJ (w.heap.size + 2) 9 wr (.slice LP k cP) (nmsR r k) nm 7 8 10 ⟨w.heap.size + 1, 1, none⟩ (fun k0 => !(k0 == 7 || k0 == 8 || k0 == 10)) (fun k0 => ([.pointer (some ⟨w.heap.size + 1, 1, none⟩), .slice LP k cP, .slice (some ad) r.length cap, .int .i64 k, .pointer (some (ad.add (k * 4))), .pointer (some (ad.add (k * 4))), .string nm, undef, undef, .pointer (some ⟨w.heap.size + 1, 1, none⟩), undef] : List Value).getD k0 undef)) (by kernel_rfl) (by kernel_rfl) ApJ.start ?_ ?_
    ·refine ⟨?_, ?_, ?_, ?_, ?_, ?_, ?_, ?_, ?_, ?_, ?_, trivial⟩
     all_goals
      intro L vs X b0 hL hw hcl hI hf
     ·have e7 := hf.old 7 (by kernel_rfl)
      exact wp_of_run (v := .pointer (some ⟨w.heap.size + 1, 1, none⟩)) (w' := X) (by unfold execOp; go_simp) (hI.read (i := 0) (by decide) (by decide) (by decide))
     ·have n8 : L 8 = false := not_yet hcl 8 hL rfl (by kernel_rfl)
      have n10 : L 10 = false := not_yet hcl 10 n8 rfl (by kernel_rfl)
      have hb := hI.pre n8 n10
      have qQP := (hb.cell (cell_lt QP.out)).trans QP.out
      have e28 := hf.got hw 0 28 (.pointer (some ⟨w.heap.size + 1, 1, none⟩)) rfl (by kernel_rfl) (by simp) (hI.rd 0 rfl)
      exact wp_of_run (v := .slice LP k cP) (w' := X) (by unfold execOp; go_simp) (hI.read (i := 1) (by decide) (by decide) (by decide))
     ·have e0 := hf.old 0 (by kernel_rfl)
      exact wp_of_run (v := .slice (some ad) r.length cap) (w' := X) (by unfold execOp; go_simp) (hI.read (i := 2) (by decide) (by decide) (by decide))
     ·have e8 := hf.old 8 (by kernel_rfl)
      exact wp_of_run (v := .int .i64 k) (w' := X) (by unfold execOp; go_simp) (hI.read (i := 3) (by decide) (by decide) (by decide))
     ·have e30 := hf.got hw 2 30 (.slice (some ad) r.length cap) rfl (by kernel_rfl) (by simp) (hI.rd 2 rfl)
      have e31 := hf.got hw 3 31 (.int .i64 k) rfl (by kernel_rfl) (by simp) (hI.rd 3 rfl)
      exact wp_of_run (v := .pointer (some (ad.add (k * 4)))) (w' := X) (by unfold execOp; go_simp) (hI.read (i := 4) (by decide) (by decide) (by decide))
     ·have e32 := hf.got hw 4 32 (.pointer (some (ad.add (k * 4)))) rfl (by kernel_rfl) (by simp) (hI.rd 4 rfl)
      exact wp_of_run (v := .pointer (some (ad.add (k * 4)))) (w' := X) (by unfold execOp; go_simp) (hI.read (i := 5) (by decide) (by decide) (by decide))
     ·have n7 : L 7 = false := not_yet hcl 7 hL rfl (by kernel_rfl)
      have n8 : L 8 = false := not_yet hcl 8 n7 rfl (by kernel_rfl)
      have n10 : L 10 = false := not_yet hcl 10 n8 rfl (by kernel_rfl)
      have hb := hI.pre n8 n10
      have qN0 := (hb.cell (cell_lt N0.out)).trans N0.out
      have e33 := hf.got hw 5 33 (.pointer (some (ad.add (k * 4)))) rfl (by kernel_rfl) (by simp) (hI.rd 5 rfl)
      exact wp_of_run (v := .string nm) (w' := X) (by unfold execOp; go_simp) (hI.read (i := 6) (by decide) (by decide) (by decide))
     ·have nia : L 8 = false := not_yet hcl 8 hL rfl (by kernel_rfl)
      have nit : L 10 = false := not_yet hcl 10 nia rfl (by kernel_rfl)
      have e34 := hf.got hw 6 34 (.string nm) rfl (by kernel_rfl) (by simp) (hI.rd 6 rfl)
      exact wp_of_run (v := .slice (some ⟨X.heap.size, 0, none⟩) 1 1) (w' := X.alloc (.cells #[.string nm] 9)) (by unfold execOp; go_simp) (hI.build (by decide) (by decide) nia nit rfl rfl)
     ·have nit : L 10 = false := not_yet hcl 10 hL rfl (by kernel_rfl)
      have hb := hI.pre hL nit
      have e29 := hf.got hw 1 29 (.slice LP k cP) rfl (by kernel_rfl) (by simp) (hI.rd 1 rfl)
      have h7 : L 7 = true := done_of hw 7 (by kernel_rfl)
      have e35 : b0.tmps[35]?.getD undef = vs 7 := hf.new 7 35 rfl h7 (by simp)
      have hlit := hI.lit h7 hL nit
      obtain ⟨AL, cL, hvL, hcL, _⟩ := hlit.form
      have hr := hlit.rd
      rw [hvL] at hr
      obtain ⟨v9, w9, hrun9, ho9, hg9, _⟩ := append_strs (m := 1) (ys := [nm]) rfl (HoP.out.below hb) hr (by simp only [List.length_cons, List.length_nil]; have := HNl.out; omega) (by have := hb.size; have := HWs.out; omega)
      refine wp_of_run (run_exec_append (.tmp 29) (.tmp 35) 35 rfl (eval_tmp e29) (eval_tmp (e35.trans hvL)) hrun9) ?_
      exact hI.append_ (by decide) (by decide) hL nit rfl ho9 hg9
     ·have e7 := hf.old 7 (by kernel_rfl)
      exact wp_of_run (v := .pointer (some ⟨w.heap.size + 1, 1, none⟩)) (w' := X) (by unfold execOp; go_simp) (hI.read (i := 9) (by decide) (by decide) (by decide))
     ·have h8 : L 8 = true := done_of hw 8 (by kernel_rfl)
      obtain ⟨hb, ho⟩ := hI.post h8 hL
      obtain ⟨AA, cA, hvA, _, _⟩ := ho.form
      have h8 : L 8 = true := done_of hw 8 (by kernel_rfl)
      have e36 : b0.tmps[36]?.getD undef = vs 8 := hf.new 8 36 rfl h8 (by simp)
      have e37 := hf.got hw 9 37 (.pointer (some ⟨w.heap.size + 1, 1, none⟩)) rfl (by kernel_rfl) (by simp) (hI.rd 9 rfl)
      have rx := (hb.block (w.heap.size + 1) (lt_of_block QRow.out) HNe.out).trans QRow.out
      have qx := cellOf rx 1 (v := (.slice LP k cP)) rfl
      have fx : X.frozen? ⟨w.heap.size + 1, 1, none⟩ = false := by simp [World.frozen?, rx]
      refine wp_of_skip (w' := X.setCell ⟨w.heap.size + 1, 1, none⟩ (vs 8)) (by unfold execOp; go_simp) ?_
      exact hI.store (by decide) h8 hL rfl
    ·intro vs X hI
     obtain ⟨X0, hg0, ho0, rfl⟩ := hI.st rfl
     clear hI
     obtain ⟨A8, c8, hv8, _, _⟩ := ho0.form
     have hl8 : (nmsR r k ++ [nm]).length = k + 1 := by rw [List.length_append, HNl.out]; rfl
     rw [hl8] at hv8
     rw [hv8] at ho0 ⊢
     have hno : ∀ q, q < w.heap.size + 2 → some q ≠ (Value.slice LP k cP).ownBlock := fun q hq e => by have := HoP.out.owner' e.symm; omega
     have hbX : Below w.heap.size wr X0 := ⟨hg0.os, hg0.tape, hg0.output, hg0.size, fun q hq => hg0.block q (by have := HWs.out; omega) (hno q (by omega))⟩
     have hrX : X0.heap[w.heap.size + 1]? = _ := (hg0.block _ (by have := HWs.out; omega) (hno _ (by omega))).trans QRow.out
     have hr6X : X0.heap[w.heap.size]? = _ := (hg0.block _ (by have := HWs.out; omega) (hno _ (by omega))).trans HR6.out
     have hoNX := HoP.out.apart HoN.out (by decide) hg0
     obtain ⟨wn, hwn⟩ : ∃ Y, Y = X0.setCell ⟨w.heap.size + 1, 1, none⟩ (.slice A8 (k + 1) c8) := ⟨_, rfl⟩
     have hrow2 : wn.heap[w.heap.size + 1]? = some (.cells #[.int .i64 100, .slice A8 (k + 1) c8, .slice LN k cN] 38) := by rw [hwn]; exact heap_setCell_row hrX _
     have hr62 : wn.heap[w.heap.size]? = some (.cells #[.int .i64 0, .slice none 0 0, .slice none 0 0] 38) := by rw [hwn]; exact (Below.heap_setCell _ _ _ _ (by show w.heap.size ≠ w.heap.size + 1; omega)).trans hr6X
     have hbn : Below w.heap.size wr wn := by rw [hwn]; exact hbX.setCell (by show w.heap.size ≤ w.heap.size + 1; omega) _
     have hoP2 : Own (w.heap.size + 2) 9 wn (.slice A8 (k + 1) c8) (nmsR r (k + 1)) := by rw [hwn, HNP.out]; exact ho0.other (by show w.heap.size + 1 < w.heap.size + 2; omega) _
     have hoN2 : Own (w.heap.size + 2) 86 wn (.slice LN k cN) (ntsR r h off k) := by rw [hwn]; exact hoNX.other (by show w.heap.size + 1 < w.heap.size + 2; omega) _
     have ca : ∀ (p : Addr) (u : Value), p.block < w.heap.size → wr.cell? p = some u → wn.cell? p = some u := fun p u hp hc => (hbn.cell hp).trans hc
     have m1 := ca _ _ (by show (ad.add (k * 4)).block < w.heap.size; rw [block_add]; omega) n1
     have m2 := ca _ _ (by show (ad.add (k * 4)).block < w.heap.size; rw [block_add]; omega) n2
     have mh := ca _ _ (by rw [block_add]; omega) eh
     have N1 := Lib.hid m1
     have N2 := Lib.hid m2
     have HHi := Lib.hid mh
     clear QRow QP HNe N0 HoP HoN HR6 HWs n0 n1 n2 n3 eh ho0 hno hbX hrX hr6X hoNX hg0 hl8
     have QRow := Lib.hid hrow2
     have QN := Lib.hid (cellOf hrow2 2 (v := .slice LN k cN) rfl)
     have HNe := Lib.hid (show some (w.heap.size + 1) ≠ (Value.slice LN k cN).ownBlock from fun e => by have := (hoN2.owner' e.symm); omega)
     have HoP := Lib.hid hoP2
     have HoN := Lib.hid hoN2
     have HR6 := Lib.hid hr62
     have HBn := Lib.hid (HBw.out.trans hbn)
     have HWs := Lib.hid (show w.heap.size + 2 ≤ wn.heap.size from lt_of_block hrow2)
     have hdH2 := Lib.hid (show dn ≠ -1 → ∃ m : Nat, dn = m ∧ dn.toNat = m ∧ m < r.length ∧ wn.cell? (adH.add m) = some (.int .i64 (h.getD m 0)) ∧ 0 ≤ h.getD m 0 ∧ h.getD m 0 ≤ 9000 from fun hne => by
      obtain ⟨m, g1, g2, g3, g4, g5, g6⟩ := hdH hne
      exact ⟨m, g1, g2, g3, ca _ _ (by rw [block_add]; omega) g4, g5, g6⟩)
     simp [fill, slotOf, Act.put, hv8]
     generalize vs 0 = u200
     generalize vs 1 = u201
     generalize vs 2 = u202
     generalize vs 3 = u203
     generalize vs 4 = u204
     generalize vs 5 = u205
     generalize vs 6 = u206
     generalize vs 7 = u207
     generalize vs 8 = u208
     generalize vs 9 = u209
     generalize vs 10 = u210
     rw [← hwn]
     clear hrow2 hr62 hbn hoP2 hoN2 ca mh m2 hdH hwn hv8
     by_cases hmo : dn = -1
     ·have q1 : (dn == -1) = true := by simp [hmo]
      have HX9 := Lib.hid (HSv.out.trans (if_pos hmo))
      clear hmo
      go_upto_region 10 with (fail)
      clear m1
      refine wp_region_ghost (ApJ (w.heap.size + 2) 86 wn (.slice LN k cN) (ntsR r h off k) (⟨1, k, 0, max 0 (hi - by_), min 9000 (hi + by_)⟩ : NoteR) 19 20 22 ⟨w.heap.size + 1, 2, none⟩ (fun k0 => !(k0 == 19 || k0 == 20 || k0 == 22)) (fun k0 => ([.pointer (some ⟨w.heap.size + 1, 2, none⟩), .slice LN k cN, .int .i64 k, .slice (some adH) r.length cH, .int .i64 k, .pointer (some (adH.add k)), .int .i64 hi, .int .i64 by_, .int .i64 (hi - by_), .int .i64 (max 0 (hi - by_)), .slice (some adH) r.length cH, .int .i64 k, .pointer (some (adH.add k)), .int .i64 hi, .int .i64 by_, .int .i64 (hi + by_), .int .i64 (min 9000 (hi + by_)), .agg #[.int .i64 (max 0 (hi - by_)), .int .i64 (min 9000 (hi + by_))], .agg #[.int .i64 1, .int .i64 k, .int .i64 0, .int .i64 (max 0 (hi - by_)), .int .i64 (min 9000 (hi + by_))], undef, undef, .pointer (some ⟨w.heap.size + 1, 2, none⟩), undef] : List Value).getD k0 undef)) (by kernel_rfl) (by kernel_rfl) ApJ.start ?_ ?_
      ·refine ⟨?_, ?_, ?_, ?_, ?_, ?_, ?_, ?_, ?_, ?_, ?_, ?_, ?_, ?_, ?_, ?_, ?_, ?_, ?_, ?_, ?_, ?_, ?_, trivial⟩
       all_goals
        intro L vs X b0 hL hw hcl hI hf
       ·have e7 := hf.old 7 (by kernel_rfl)
        exact wp_of_run (v := .pointer (some ⟨w.heap.size + 1, 2, none⟩)) (w' := X) (by unfold execOp; go_simp) (hI.read (i := 0) (by decide) (by decide) (by decide))
       ·have n20 : L 20 = false := not_yet hcl 20 hL rfl (by kernel_rfl)
        have n22 : L 22 = false := not_yet hcl 22 n20 rfl (by kernel_rfl)
        have hb := hI.pre n20 n22
        have qQN := (hb.cell (cell_lt QN.out)).trans QN.out
        have e44 := hf.got hw 0 44 (.pointer (some ⟨w.heap.size + 1, 2, none⟩)) rfl (by kernel_rfl) (by simp) (hI.rd 0 rfl)
        exact wp_of_run (v := .slice LN k cN) (w' := X) (by unfold execOp; go_simp) (hI.read (i := 1) (by decide) (by decide) (by decide))
       ·have e8 := hf.old 8 (by kernel_rfl)
        exact wp_of_run (v := .int .i64 k) (w' := X) (by unfold execOp; go_simp) (hI.read (i := 2) (by decide) (by decide) (by decide))
       ·have e1 := hf.old 1 (by kernel_rfl)
        exact wp_of_run (v := .slice (some adH) r.length cH) (w' := X) (by unfold execOp; go_simp) (hI.read (i := 3) (by decide) (by decide) (by decide))
       ·have e8 := hf.old 8 (by kernel_rfl)
        exact wp_of_run (v := .int .i64 k) (w' := X) (by unfold execOp; go_simp) (hI.read (i := 4) (by decide) (by decide) (by decide))
       ·have e47 := hf.got hw 3 47 (.slice (some adH) r.length cH) rfl (by kernel_rfl) (by simp) (hI.rd 3 rfl)
        have e48 := hf.got hw 4 48 (.int .i64 k) rfl (by kernel_rfl) (by simp) (hI.rd 4 rfl)
        exact wp_of_run (v := .pointer (some (adH.add k))) (w' := X) (by unfold execOp; go_simp) (hI.read (i := 5) (by decide) (by decide) (by decide))
       ·have n8 : L 8 = false := not_yet hcl 8 hL rfl (by kernel_rfl)
        have n9 : L 9 = false := not_yet hcl 9 n8 rfl (by kernel_rfl)
        have n17 : L 17 = false := not_yet hcl 17 n9 rfl (by kernel_rfl)
        have n18 : L 18 = false := not_yet hcl 18 n17 rfl (by kernel_rfl)
        have n19 : L 19 = false := not_yet hcl 19 n18 rfl (by kernel_rfl)
        have n20 : L 20 = false := not_yet hcl 20 n19 rfl (by kernel_rfl)
        have n22 : L 22 = false := not_yet hcl 22 n20 rfl (by kernel_rfl)
        have hb := hI.pre n20 n22
        have qHHi := (hb.cell (cell_lt HHi.out)).trans HHi.out
        have e49 := hf.got hw 5 49 (.pointer (some (adH.add k))) rfl (by kernel_rfl) (by simp) (hI.rd 5 rfl)
        exact wp_of_run (v := .int .i64 hi) (w' := X) (by unfold execOp; go_simp) (hI.read (i := 6) (by decide) (by decide) (by decide))
       ·have e9 := hf.old 9 (by kernel_rfl)
        exact wp_of_run (v := .int .i64 by_) (w' := X) (by unfold execOp; go_simp) (hI.read (i := 7) (by decide) (by decide) (by decide))
       ·have hw0 : IntKind.i64.wrap (hi - by_) = hi - by_ := IntWalk.i64_in _ (by omega)
        have e50 := hf.got hw 6 50 (.int .i64 hi) rfl (by kernel_rfl) (by simp) (hI.rd 6 rfl)
        have e51 := hf.got hw 7 51 (.int .i64 by_) rfl (by kernel_rfl) (by simp) (hI.rd 7 rfl)
        exact wp_of_run (v := .int .i64 (hi - by_)) (w' := X) (by unfold execOp; go_simp) (hI.read (i := 8) (by decide) (by decide) (by decide))
       ·have e52 := hf.got hw 8 52 (.int .i64 (hi - by_)) rfl (by kernel_rfl) (by simp) (hI.rd 8 rfl)
        exact wp_of_run (v := .int .i64 (max 0 (hi - by_))) (w' := X) (by unfold execOp; go_simp) (hI.read (i := 9) (by decide) (by decide) (by decide))
       ·have e1 := hf.old 1 (by kernel_rfl)
        exact wp_of_run (v := .slice (some adH) r.length cH) (w' := X) (by unfold execOp; go_simp) (hI.read (i := 10) (by decide) (by decide) (by decide))
       ·have e8 := hf.old 8 (by kernel_rfl)
        exact wp_of_run (v := .int .i64 k) (w' := X) (by unfold execOp; go_simp) (hI.read (i := 11) (by decide) (by decide) (by decide))
       ·have e54 := hf.got hw 10 54 (.slice (some adH) r.length cH) rfl (by kernel_rfl) (by simp) (hI.rd 10 rfl)
        have e55 := hf.got hw 11 55 (.int .i64 k) rfl (by kernel_rfl) (by simp) (hI.rd 11 rfl)
        exact wp_of_run (v := .pointer (some (adH.add k))) (w' := X) (by unfold execOp; go_simp) (hI.read (i := 12) (by decide) (by decide) (by decide))
       ·have n15 : L 15 = false := not_yet hcl 15 hL rfl (by kernel_rfl)
        have n16 : L 16 = false := not_yet hcl 16 n15 rfl (by kernel_rfl)
        have n17 : L 17 = false := not_yet hcl 17 n16 rfl (by kernel_rfl)
        have n18 : L 18 = false := not_yet hcl 18 n17 rfl (by kernel_rfl)
        have n19 : L 19 = false := not_yet hcl 19 n18 rfl (by kernel_rfl)
        have n20 : L 20 = false := not_yet hcl 20 n19 rfl (by kernel_rfl)
        have n22 : L 22 = false := not_yet hcl 22 n20 rfl (by kernel_rfl)
        have hb := hI.pre n20 n22
        have qHHi := (hb.cell (cell_lt HHi.out)).trans HHi.out
        have e56 := hf.got hw 12 56 (.pointer (some (adH.add k))) rfl (by kernel_rfl) (by simp) (hI.rd 12 rfl)
        exact wp_of_run (v := .int .i64 hi) (w' := X) (by unfold execOp; go_simp) (hI.read (i := 13) (by decide) (by decide) (by decide))
       ·have e9 := hf.old 9 (by kernel_rfl)
        exact wp_of_run (v := .int .i64 by_) (w' := X) (by unfold execOp; go_simp) (hI.read (i := 14) (by decide) (by decide) (by decide))
       ·have hw0 : IntKind.i64.wrap (hi + by_) = hi + by_ := IntWalk.i64_in _ (by omega)
        have e57 := hf.got hw 13 57 (.int .i64 hi) rfl (by kernel_rfl) (by simp) (hI.rd 13 rfl)
        have e58 := hf.got hw 14 58 (.int .i64 by_) rfl (by kernel_rfl) (by simp) (hI.rd 14 rfl)
        exact wp_of_run (v := .int .i64 (hi + by_)) (w' := X) (by unfold execOp; go_simp) (hI.read (i := 15) (by decide) (by decide) (by decide))
       ·have e59 := hf.got hw 15 59 (.int .i64 (hi + by_)) rfl (by kernel_rfl) (by simp) (hI.rd 15 rfl)
        exact wp_of_run (v := .int .i64 (min 9000 (hi + by_))) (w' := X) (by unfold execOp; go_simp) (hI.read (i := 16) (by decide) (by decide) (by decide))
       ·have e53 := hf.got hw 9 53 (.int .i64 (max 0 (hi - by_))) rfl (by kernel_rfl) (by simp) (hI.rd 9 rfl)
        have e60 := hf.got hw 16 60 (.int .i64 (min 9000 (hi + by_))) rfl (by kernel_rfl) (by simp) (hI.rd 16 rfl)
        exact wp_of_run (v := .agg #[.int .i64 (max 0 (hi - by_)), .int .i64 (min 9000 (hi + by_))]) (w' := X) (by unfold execOp; go_simp) (hI.read (i := 17) (by decide) (by decide) (by decide))
       ·have e46 := hf.got hw 2 46 (.int .i64 k) rfl (by kernel_rfl) (by simp) (hI.rd 2 rfl)
        have e61 := hf.got hw 17 61 (.agg #[.int .i64 (max 0 (hi - by_)), .int .i64 (min 9000 (hi + by_))]) rfl (by kernel_rfl) (by simp) (hI.rd 17 rfl)
        exact wp_of_run (v := .agg #[.int .i64 1, .int .i64 k, .int .i64 0, .int .i64 (max 0 (hi - by_)), .int .i64 (min 9000 (hi + by_))]) (w' := X) (by unfold execOp; go_simp) (hI.read (i := 18) (by decide) (by decide) (by decide))
       ·have nia : L 20 = false := not_yet hcl 20 hL rfl (by kernel_rfl)
        have nit : L 22 = false := not_yet hcl 22 nia rfl (by kernel_rfl)
        have e62 := hf.got hw 18 62 (.agg #[.int .i64 1, .int .i64 k, .int .i64 0, .int .i64 (max 0 (hi - by_)), .int .i64 (min 9000 (hi + by_))]) rfl (by kernel_rfl) (by simp) (hI.rd 18 rfl)
        exact wp_of_run (v := .slice (some ⟨X.heap.size, 0, none⟩) 1 1) (w' := X.alloc (.cells #[.int .i64 1, .int .i64 k, .int .i64 0, .int .i64 (max 0 (hi - by_)), .int .i64 (min 9000 (hi + by_))] 86)) (by unfold execOp; go_simp) (hI.build (by decide) (by decide) nia nit rfl rfl)
       ·have nit : L 22 = false := not_yet hcl 22 hL rfl (by kernel_rfl)
        have hb := hI.pre hL nit
        have e45 := hf.got hw 1 45 (.slice LN k cN) rfl (by kernel_rfl) (by simp) (hI.rd 1 rfl)
        have h19 : L 19 = true := done_of hw 19 (by kernel_rfl)
        have e63 : b0.tmps[63]?.getD undef = vs 19 := hf.new 19 63 rfl h19 (by simp)
        have hlit := hI.lit h19 hL nit
        obtain ⟨AL, cL, hvL, hcL, _⟩ := hlit.form
        have hr := hlit.rd
        rw [hvL] at hr
        obtain ⟨v9, w9, hrun9, ho9, hg9, _⟩ := append_notes2 (m := 1) (ys := [(⟨1, k, 0, max 0 (hi - by_), min 9000 (hi + by_)⟩ : NoteR)]) rfl (HoN.out.below hb) hr (by simp only [List.length_cons, List.length_nil]; have := HNn.out; omega) (by have := hb.size; have := HWs.out; omega)
        refine wp_of_run (run_exec_append (.tmp 45) (.tmp 63) 36 rfl (eval_tmp e45) (eval_tmp (e63.trans hvL)) hrun9) ?_
        exact hI.append_ (by decide) (by decide) hL nit rfl ho9 hg9
       ·have e7 := hf.old 7 (by kernel_rfl)
        exact wp_of_run (v := .pointer (some ⟨w.heap.size + 1, 2, none⟩)) (w' := X) (by unfold execOp; go_simp) (hI.read (i := 21) (by decide) (by decide) (by decide))
       ·have h20 : L 20 = true := done_of hw 20 (by kernel_rfl)
        obtain ⟨hb, ho⟩ := hI.post h20 hL
        obtain ⟨AA, cA, hvA, _, _⟩ := ho.form
        have h20 : L 20 = true := done_of hw 20 (by kernel_rfl)
        have e64 : b0.tmps[64]?.getD undef = vs 20 := hf.new 20 64 rfl h20 (by simp)
        have e65 := hf.got hw 21 65 (.pointer (some ⟨w.heap.size + 1, 2, none⟩)) rfl (by kernel_rfl) (by simp) (hI.rd 21 rfl)
        have rx := (hb.block (w.heap.size + 1) (lt_of_block QRow.out) HNe.out).trans QRow.out
        have qx := cellOf rx 2 (v := (.slice LN k cN)) rfl
        have fx : X.frozen? ⟨w.heap.size + 1, 2, none⟩ = false := by simp [World.frozen?, rx]
        refine wp_of_skip (w' := X.setCell ⟨w.heap.size + 1, 2, none⟩ (vs 20)) (by unfold execOp; go_simp) ?_
        exact hI.store (by decide) h20 hL rfl
      ·intro vs X hI
       obtain ⟨X1, hg1, ho1, rfl⟩ := hI.st rfl
       clear hI
       obtain ⟨A9, c9, hv9, _, _⟩ := ho1.form
       have hl9 : (ntsR r h off k ++ [(⟨1, k, 0, max 0 (hi - by_), min 9000 (hi + by_)⟩ : NoteR)]).length = k + 1 := by rw [List.length_append, HNn.out]; rfl
       rw [hl9] at hv9
       rw [hv9] at ho1 ⊢
       have hno : ∀ q, q < w.heap.size + 2 → some q ≠ (Value.slice LN k cN).ownBlock := fun q hq e => by have := HoN.out.owner' e.symm; omega
       have HB9 := Lib.hid (show Below w.heap.size w X1 from HBn.out.trans ⟨hg1.os, hg1.tape, hg1.output, hg1.size, fun q hq => hg1.block q (by have := HWs.out; omega) (hno q (by omega))⟩)
       have HRX := Lib.hid ((hg1.block _ (by have := HWs.out; omega) (hno (w.heap.size + 1) (by omega))).trans QRow.out)
       have HR6X := Lib.hid ((hg1.block _ (by have := HWs.out; omega) (hno w.heap.size (by omega))).trans HR6.out)
       have HoPX := Lib.hid (HoN.out.apart HoP.out (by decide) hg1)
       have HoNX := Lib.hid (show Own (w.heap.size + 2) 86 X1 (.slice A9 (k + 1) c9) (ntsR r h off (k + 1)) by rw [HNS.out, HX9.out]; exact ho1)
       clear ho1 hg1 hno hl9
       simp [fill, slotOf, Act.put, hv9]
       generalize vs 0 = u300
       generalize vs 1 = u301
       generalize vs 2 = u302
       generalize vs 3 = u303
       generalize vs 4 = u304
       generalize vs 5 = u305
       generalize vs 6 = u306
       generalize vs 7 = u307
       generalize vs 8 = u308
       generalize vs 9 = u309
       generalize vs 10 = u310
       generalize vs 11 = u311
       generalize vs 12 = u312
       generalize vs 13 = u313
       generalize vs 14 = u314
       generalize vs 15 = u315
       generalize vs 16 = u316
       generalize vs 17 = u317
       generalize vs 18 = u318
       generalize vs 19 = u319
       generalize vs 20 = u320
       generalize vs 21 = u321
       generalize vs 22 = u322
       clear hv9
       go_wp2
       go_roundw
       case rel => exact ⟨k + 1, A8, c8, A9, c9, by omega, by go_num, heap_setCell_row HRX.out _, HoPX.out.other (by show w.heap.size + 1 < w.heap.size + 2; omega) _, HoNX.out.other (by show w.heap.size + 1 < w.heap.size + 2; omega) _, (Below.heap_setCell _ _ _ _ (by show w.heap.size ≠ w.heap.size + 1; omega)).trans HR6X.out, HB9.out.setCell (by show w.heap.size ≤ w.heap.size + 1; omega) _⟩
       case measure => simp [intOf]; omega
     ·have q1 : (dn == -1) = false := by simp [hmo]
      obtain ⟨m, g1, g2, hml, g4, g5⟩ := hdH2.out hmo
      have HX9 := Lib.hid (HSv.out.trans (if_neg hmo))
      rw [g2, g1] at HX9
      obtain ⟨hd, hhd⟩ : ∃ v, v = h.getD m 0 := ⟨_, rfl⟩
      rw [← hhd] at HX9 g4 g5
      have HHd := Lib.hid g4
      clear hmo hhd g2 g4 hdH2
      subst g1
      go_upto_region 11 with (fail)
      clear m1
      refine wp_region_ghost (ApJ (w.heap.size + 2) 86 wn (.slice LN k cN) (ntsR r h off k) (⟨4, k, m, ls, min 9000 (hi - hd + by_)⟩ : NoteR) 31 32 34 ⟨w.heap.size + 1, 2, none⟩ (fun k0 => !(k0 == 31 || k0 == 32 || k0 == 34)) (fun k0 => ([.pointer (some ⟨w.heap.size + 1, 2, none⟩), .slice LN k cN, .int .i64 k, .slice (some ad) r.length cap, .int .i64 k, .pointer (some (ad.add (k * 4))), .pointer (some ⟨(ad.add (k * 4)).block, (ad.add (k * 4)).off + 1, none⟩), .int .i64 m, .slice (some ad) r.length cap, .int .i64 k, .pointer (some (ad.add (k * 4))), .pointer (some ⟨(ad.add (k * 4)).block, (ad.add (k * 4)).off + 2, none⟩), .int .i64 ls, .slice (some adH) r.length cH, .int .i64 k, .pointer (some (adH.add k)), .int .i64 hi, .slice (some adH) r.length cH, .slice (some ad) r.length cap, .int .i64 k, .pointer (some (ad.add (k * 4))), .pointer (some ⟨(ad.add (k * 4)).block, (ad.add (k * 4)).off + 1, none⟩), .int .i64 m, .pointer (some (adH.add m)), .int .i64 hd, .int .i64 (hi - hd), .int .i64 by_, .int .i64 (hi - hd + by_), .int .i64 (min 9000 (hi - hd + by_)), .agg #[.int .i64 ls, .int .i64 (min 9000 (hi - hd + by_))], .agg #[.int .i64 4, .int .i64 k, .int .i64 m, .int .i64 ls, .int .i64 (min 9000 (hi - hd + by_))], undef, undef, .pointer (some ⟨w.heap.size + 1, 2, none⟩), undef] : List Value).getD k0 undef)) (by kernel_rfl) (by kernel_rfl) ApJ.start ?_ ?_
      ·refine ⟨?_, ?_, ?_, ?_, ?_, ?_, ?_, ?_, ?_, ?_, ?_, ?_, ?_, ?_, ?_, ?_, ?_, ?_, ?_, ?_, ?_, ?_, ?_, ?_, ?_, ?_, ?_, ?_, ?_, ?_, ?_, ?_, ?_, ?_, ?_, trivial⟩
       all_goals
        intro L vs X b0 hL hw hcl hI hf
       ·have e7 := hf.old 7 (by kernel_rfl)
        exact wp_of_run (v := .pointer (some ⟨w.heap.size + 1, 2, none⟩)) (w' := X) (by unfold execOp; go_simp) (hI.read (i := 0) (by decide) (by decide) (by decide))
       ·have n32 : L 32 = false := not_yet hcl 32 hL rfl (by kernel_rfl)
        have n34 : L 34 = false := not_yet hcl 34 n32 rfl (by kernel_rfl)
        have hb := hI.pre n32 n34
        have qQN := (hb.cell (cell_lt QN.out)).trans QN.out
        have e66 := hf.got hw 0 66 (.pointer (some ⟨w.heap.size + 1, 2, none⟩)) rfl (by kernel_rfl) (by simp) (hI.rd 0 rfl)
        exact wp_of_run (v := .slice LN k cN) (w' := X) (by unfold execOp; go_simp) (hI.read (i := 1) (by decide) (by decide) (by decide))
       ·have e8 := hf.old 8 (by kernel_rfl)
        exact wp_of_run (v := .int .i64 k) (w' := X) (by unfold execOp; go_simp) (hI.read (i := 2) (by decide) (by decide) (by decide))
       ·have e0 := hf.old 0 (by kernel_rfl)
        exact wp_of_run (v := .slice (some ad) r.length cap) (w' := X) (by unfold execOp; go_simp) (hI.read (i := 3) (by decide) (by decide) (by decide))
       ·have e8 := hf.old 8 (by kernel_rfl)
        exact wp_of_run (v := .int .i64 k) (w' := X) (by unfold execOp; go_simp) (hI.read (i := 4) (by decide) (by decide) (by decide))
       ·have e69 := hf.got hw 3 69 (.slice (some ad) r.length cap) rfl (by kernel_rfl) (by simp) (hI.rd 3 rfl)
        have e70 := hf.got hw 4 70 (.int .i64 k) rfl (by kernel_rfl) (by simp) (hI.rd 4 rfl)
        exact wp_of_run (v := .pointer (some (ad.add (k * 4)))) (w' := X) (by unfold execOp; go_simp) (hI.read (i := 5) (by decide) (by decide) (by decide))
       ·have e71 := hf.got hw 5 71 (.pointer (some (ad.add (k * 4)))) rfl (by kernel_rfl) (by simp) (hI.rd 5 rfl)
        exact wp_of_run (v := .pointer (some ⟨(ad.add (k * 4)).block, (ad.add (k * 4)).off + 1, none⟩)) (w' := X) (by unfold execOp; go_simp) (hI.read (i := 6) (by decide) (by decide) (by decide))
       ·have n30 : L 30 = false := not_yet hcl 30 hL rfl (by kernel_rfl)
        have n31 : L 31 = false := not_yet hcl 31 n30 rfl (by kernel_rfl)
        have n32 : L 32 = false := not_yet hcl 32 n31 rfl (by kernel_rfl)
        have n34 : L 34 = false := not_yet hcl 34 n32 rfl (by kernel_rfl)
        have hb := hI.pre n32 n34
        have qN1 := (hb.cell (cell_lt N1.out)).trans N1.out
        have e72 := hf.got hw 6 72 (.pointer (some ⟨(ad.add (k * 4)).block, (ad.add (k * 4)).off + 1, none⟩)) rfl (by kernel_rfl) (by simp) (hI.rd 6 rfl)
        exact wp_of_run (v := .int .i64 m) (w' := X) (by unfold execOp; go_simp) (hI.read (i := 7) (by decide) (by decide) (by decide))
       ·have e0 := hf.old 0 (by kernel_rfl)
        exact wp_of_run (v := .slice (some ad) r.length cap) (w' := X) (by unfold execOp; go_simp) (hI.read (i := 8) (by decide) (by decide) (by decide))
       ·have e8 := hf.old 8 (by kernel_rfl)
        exact wp_of_run (v := .int .i64 k) (w' := X) (by unfold execOp; go_simp) (hI.read (i := 9) (by decide) (by decide) (by decide))
       ·have e74 := hf.got hw 8 74 (.slice (some ad) r.length cap) rfl (by kernel_rfl) (by simp) (hI.rd 8 rfl)
        have e75 := hf.got hw 9 75 (.int .i64 k) rfl (by kernel_rfl) (by simp) (hI.rd 9 rfl)
        exact wp_of_run (v := .pointer (some (ad.add (k * 4)))) (w' := X) (by unfold execOp; go_simp) (hI.read (i := 10) (by decide) (by decide) (by decide))
       ·have e76 := hf.got hw 10 76 (.pointer (some (ad.add (k * 4)))) rfl (by kernel_rfl) (by simp) (hI.rd 10 rfl)
        exact wp_of_run (v := .pointer (some ⟨(ad.add (k * 4)).block, (ad.add (k * 4)).off + 2, none⟩)) (w' := X) (by unfold execOp; go_simp) (hI.read (i := 11) (by decide) (by decide) (by decide))
       ·have n29 : L 29 = false := not_yet hcl 29 hL rfl (by kernel_rfl)
        have n30 : L 30 = false := not_yet hcl 30 n29 rfl (by kernel_rfl)
        have n31 : L 31 = false := not_yet hcl 31 n30 rfl (by kernel_rfl)
        have n32 : L 32 = false := not_yet hcl 32 n31 rfl (by kernel_rfl)
        have n34 : L 34 = false := not_yet hcl 34 n32 rfl (by kernel_rfl)
        have hb := hI.pre n32 n34
        have qN2 := (hb.cell (cell_lt N2.out)).trans N2.out
        have e77 := hf.got hw 11 77 (.pointer (some ⟨(ad.add (k * 4)).block, (ad.add (k * 4)).off + 2, none⟩)) rfl (by kernel_rfl) (by simp) (hI.rd 11 rfl)
        exact wp_of_run (v := .int .i64 ls) (w' := X) (by unfold execOp; go_simp) (hI.read (i := 12) (by decide) (by decide) (by decide))
       ·have e1 := hf.old 1 (by kernel_rfl)
        exact wp_of_run (v := .slice (some adH) r.length cH) (w' := X) (by unfold execOp; go_simp) (hI.read (i := 13) (by decide) (by decide) (by decide))
       ·have e8 := hf.old 8 (by kernel_rfl)
        exact wp_of_run (v := .int .i64 k) (w' := X) (by unfold execOp; go_simp) (hI.read (i := 14) (by decide) (by decide) (by decide))
       ·have e79 := hf.got hw 13 79 (.slice (some adH) r.length cH) rfl (by kernel_rfl) (by simp) (hI.rd 13 rfl)
        have e80 := hf.got hw 14 80 (.int .i64 k) rfl (by kernel_rfl) (by simp) (hI.rd 14 rfl)
        exact wp_of_run (v := .pointer (some (adH.add k))) (w' := X) (by unfold execOp; go_simp) (hI.read (i := 15) (by decide) (by decide) (by decide))
       ·have n25 : L 25 = false := not_yet hcl 25 hL rfl (by kernel_rfl)
        have n27 : L 27 = false := not_yet hcl 27 n25 rfl (by kernel_rfl)
        have n28 : L 28 = false := not_yet hcl 28 n27 rfl (by kernel_rfl)
        have n29 : L 29 = false := not_yet hcl 29 n28 rfl (by kernel_rfl)
        have n30 : L 30 = false := not_yet hcl 30 n29 rfl (by kernel_rfl)
        have n31 : L 31 = false := not_yet hcl 31 n30 rfl (by kernel_rfl)
        have n32 : L 32 = false := not_yet hcl 32 n31 rfl (by kernel_rfl)
        have n34 : L 34 = false := not_yet hcl 34 n32 rfl (by kernel_rfl)
        have hb := hI.pre n32 n34
        have qHHi := (hb.cell (cell_lt HHi.out)).trans HHi.out
        have e81 := hf.got hw 15 81 (.pointer (some (adH.add k))) rfl (by kernel_rfl) (by simp) (hI.rd 15 rfl)
        exact wp_of_run (v := .int .i64 hi) (w' := X) (by unfold execOp; go_simp) (hI.read (i := 16) (by decide) (by decide) (by decide))
       ·have e1 := hf.old 1 (by kernel_rfl)
        exact wp_of_run (v := .slice (some adH) r.length cH) (w' := X) (by unfold execOp; go_simp) (hI.read (i := 17) (by decide) (by decide) (by decide))
       ·have e0 := hf.old 0 (by kernel_rfl)
        exact wp_of_run (v := .slice (some ad) r.length cap) (w' := X) (by unfold execOp; go_simp) (hI.read (i := 18) (by decide) (by decide) (by decide))
       ·have e8 := hf.old 8 (by kernel_rfl)
        exact wp_of_run (v := .int .i64 k) (w' := X) (by unfold execOp; go_simp) (hI.read (i := 19) (by decide) (by decide) (by decide))
       ·have e84 := hf.got hw 18 84 (.slice (some ad) r.length cap) rfl (by kernel_rfl) (by simp) (hI.rd 18 rfl)
        have e85 := hf.got hw 19 85 (.int .i64 k) rfl (by kernel_rfl) (by simp) (hI.rd 19 rfl)
        exact wp_of_run (v := .pointer (some (ad.add (k * 4)))) (w' := X) (by unfold execOp; go_simp) (hI.read (i := 20) (by decide) (by decide) (by decide))
       ·have e86 := hf.got hw 20 86 (.pointer (some (ad.add (k * 4)))) rfl (by kernel_rfl) (by simp) (hI.rd 20 rfl)
        exact wp_of_run (v := .pointer (some ⟨(ad.add (k * 4)).block, (ad.add (k * 4)).off + 1, none⟩)) (w' := X) (by unfold execOp; go_simp) (hI.read (i := 21) (by decide) (by decide) (by decide))
       ·have n23 : L 23 = false := not_yet hcl 23 hL rfl (by kernel_rfl)
        have n24 : L 24 = false := not_yet hcl 24 n23 rfl (by kernel_rfl)
        have n25 : L 25 = false := not_yet hcl 25 n24 rfl (by kernel_rfl)
        have n27 : L 27 = false := not_yet hcl 27 n25 rfl (by kernel_rfl)
        have n28 : L 28 = false := not_yet hcl 28 n27 rfl (by kernel_rfl)
        have n29 : L 29 = false := not_yet hcl 29 n28 rfl (by kernel_rfl)
        have n30 : L 30 = false := not_yet hcl 30 n29 rfl (by kernel_rfl)
        have n31 : L 31 = false := not_yet hcl 31 n30 rfl (by kernel_rfl)
        have n32 : L 32 = false := not_yet hcl 32 n31 rfl (by kernel_rfl)
        have n34 : L 34 = false := not_yet hcl 34 n32 rfl (by kernel_rfl)
        have hb := hI.pre n32 n34
        have qN1 := (hb.cell (cell_lt N1.out)).trans N1.out
        have e87 := hf.got hw 21 87 (.pointer (some ⟨(ad.add (k * 4)).block, (ad.add (k * 4)).off + 1, none⟩)) rfl (by kernel_rfl) (by simp) (hI.rd 21 rfl)
        exact wp_of_run (v := .int .i64 m) (w' := X) (by unfold execOp; go_simp) (hI.read (i := 22) (by decide) (by decide) (by decide))
       ·have e83 := hf.got hw 17 83 (.slice (some adH) r.length cH) rfl (by kernel_rfl) (by simp) (hI.rd 17 rfl)
        have e88 := hf.got hw 22 88 (.int .i64 m) rfl (by kernel_rfl) (by simp) (hI.rd 22 rfl)
        exact wp_of_run (v := .pointer (some (adH.add m))) (w' := X) (by unfold execOp; go_simp) (hI.read (i := 23) (by decide) (by decide) (by decide))
       ·have n25 : L 25 = false := not_yet hcl 25 hL rfl (by kernel_rfl)
        have n27 : L 27 = false := not_yet hcl 27 n25 rfl (by kernel_rfl)
        have n28 : L 28 = false := not_yet hcl 28 n27 rfl (by kernel_rfl)
        have n29 : L 29 = false := not_yet hcl 29 n28 rfl (by kernel_rfl)
        have n30 : L 30 = false := not_yet hcl 30 n29 rfl (by kernel_rfl)
        have n31 : L 31 = false := not_yet hcl 31 n30 rfl (by kernel_rfl)
        have n32 : L 32 = false := not_yet hcl 32 n31 rfl (by kernel_rfl)
        have n34 : L 34 = false := not_yet hcl 34 n32 rfl (by kernel_rfl)
        have hb := hI.pre n32 n34
        have qHHd := (hb.cell (cell_lt HHd.out)).trans HHd.out
        have e89 := hf.got hw 23 89 (.pointer (some (adH.add m))) rfl (by kernel_rfl) (by simp) (hI.rd 23 rfl)
        exact wp_of_run (v := .int .i64 hd) (w' := X) (by unfold execOp; go_simp) (hI.read (i := 24) (by decide) (by decide) (by decide))
       ·have hw0 : IntKind.i64.wrap (hi - hd) = hi - hd := IntWalk.i64_in _ (by omega)
        have e82 := hf.got hw 16 82 (.int .i64 hi) rfl (by kernel_rfl) (by simp) (hI.rd 16 rfl)
        have e90 := hf.got hw 24 90 (.int .i64 hd) rfl (by kernel_rfl) (by simp) (hI.rd 24 rfl)
        exact wp_of_run (v := .int .i64 (hi - hd)) (w' := X) (by unfold execOp; go_simp) (hI.read (i := 25) (by decide) (by decide) (by decide))
       ·have e9 := hf.old 9 (by kernel_rfl)
        exact wp_of_run (v := .int .i64 by_) (w' := X) (by unfold execOp; go_simp) (hI.read (i := 26) (by decide) (by decide) (by decide))
       ·have hw0 : IntKind.i64.wrap (hi - hd + by_) = hi - hd + by_ := IntWalk.i64_in _ (by omega)
        have e91 := hf.got hw 25 91 (.int .i64 (hi - hd)) rfl (by kernel_rfl) (by simp) (hI.rd 25 rfl)
        have e92 := hf.got hw 26 92 (.int .i64 by_) rfl (by kernel_rfl) (by simp) (hI.rd 26 rfl)
        exact wp_of_run (v := .int .i64 (hi - hd + by_)) (w' := X) (by unfold execOp; go_simp) (hI.read (i := 27) (by decide) (by decide) (by decide))
       ·have e93 := hf.got hw 27 93 (.int .i64 (hi - hd + by_)) rfl (by kernel_rfl) (by simp) (hI.rd 27 rfl)
        exact wp_of_run (v := .int .i64 (min 9000 (hi - hd + by_))) (w' := X) (by unfold execOp; go_simp) (hI.read (i := 28) (by decide) (by decide) (by decide))
       ·have e78 := hf.got hw 12 78 (.int .i64 ls) rfl (by kernel_rfl) (by simp) (hI.rd 12 rfl)
        have e94 := hf.got hw 28 94 (.int .i64 (min 9000 (hi - hd + by_))) rfl (by kernel_rfl) (by simp) (hI.rd 28 rfl)
        exact wp_of_run (v := .agg #[.int .i64 ls, .int .i64 (min 9000 (hi - hd + by_))]) (w' := X) (by unfold execOp; go_simp) (hI.read (i := 29) (by decide) (by decide) (by decide))
       ·have e68 := hf.got hw 2 68 (.int .i64 k) rfl (by kernel_rfl) (by simp) (hI.rd 2 rfl)
        have e73 := hf.got hw 7 73 (.int .i64 m) rfl (by kernel_rfl) (by simp) (hI.rd 7 rfl)
        have e95 := hf.got hw 29 95 (.agg #[.int .i64 ls, .int .i64 (min 9000 (hi - hd + by_))]) rfl (by kernel_rfl) (by simp) (hI.rd 29 rfl)
        exact wp_of_run (v := .agg #[.int .i64 4, .int .i64 k, .int .i64 m, .int .i64 ls, .int .i64 (min 9000 (hi - hd + by_))]) (w' := X) (by unfold execOp; go_simp) (hI.read (i := 30) (by decide) (by decide) (by decide))
       ·have nia : L 32 = false := not_yet hcl 32 hL rfl (by kernel_rfl)
        have nit : L 34 = false := not_yet hcl 34 nia rfl (by kernel_rfl)
        have e96 := hf.got hw 30 96 (.agg #[.int .i64 4, .int .i64 k, .int .i64 m, .int .i64 ls, .int .i64 (min 9000 (hi - hd + by_))]) rfl (by kernel_rfl) (by simp) (hI.rd 30 rfl)
        exact wp_of_run (v := .slice (some ⟨X.heap.size, 0, none⟩) 1 1) (w' := X.alloc (.cells #[.int .i64 4, .int .i64 k, .int .i64 m, .int .i64 ls, .int .i64 (min 9000 (hi - hd + by_))] 86)) (by unfold execOp; go_simp) (hI.build (by decide) (by decide) nia nit rfl rfl)
       ·have nit : L 34 = false := not_yet hcl 34 hL rfl (by kernel_rfl)
        have hb := hI.pre hL nit
        have e67 := hf.got hw 1 67 (.slice LN k cN) rfl (by kernel_rfl) (by simp) (hI.rd 1 rfl)
        have h31 : L 31 = true := done_of hw 31 (by kernel_rfl)
        have e97 : b0.tmps[97]?.getD undef = vs 31 := hf.new 31 97 rfl h31 (by simp)
        have hlit := hI.lit h31 hL nit
        obtain ⟨AL, cL, hvL, hcL, _⟩ := hlit.form
        have hr := hlit.rd
        rw [hvL] at hr
        obtain ⟨v9, w9, hrun9, ho9, hg9, _⟩ := append_notes2 (m := 1) (ys := [(⟨4, k, m, ls, min 9000 (hi - hd + by_)⟩ : NoteR)]) rfl (HoN.out.below hb) hr (by simp only [List.length_cons, List.length_nil]; have := HNn.out; omega) (by have := hb.size; have := HWs.out; omega)
        refine wp_of_run (run_exec_append (.tmp 67) (.tmp 97) 36 rfl (eval_tmp e67) (eval_tmp (e97.trans hvL)) hrun9) ?_
        exact hI.append_ (by decide) (by decide) hL nit rfl ho9 hg9
       ·have e7 := hf.old 7 (by kernel_rfl)
        exact wp_of_run (v := .pointer (some ⟨w.heap.size + 1, 2, none⟩)) (w' := X) (by unfold execOp; go_simp) (hI.read (i := 33) (by decide) (by decide) (by decide))
       ·have h32 : L 32 = true := done_of hw 32 (by kernel_rfl)
        obtain ⟨hb, ho⟩ := hI.post h32 hL
        obtain ⟨AA, cA, hvA, _, _⟩ := ho.form
        have h32 : L 32 = true := done_of hw 32 (by kernel_rfl)
        have e98 : b0.tmps[98]?.getD undef = vs 32 := hf.new 32 98 rfl h32 (by simp)
        have e99 := hf.got hw 33 99 (.pointer (some ⟨w.heap.size + 1, 2, none⟩)) rfl (by kernel_rfl) (by simp) (hI.rd 33 rfl)
        have rx := (hb.block (w.heap.size + 1) (lt_of_block QRow.out) HNe.out).trans QRow.out
        have qx := cellOf rx 2 (v := (.slice LN k cN)) rfl
        have fx : X.frozen? ⟨w.heap.size + 1, 2, none⟩ = false := by simp [World.frozen?, rx]
        refine wp_of_skip (w' := X.setCell ⟨w.heap.size + 1, 2, none⟩ (vs 32)) (by unfold execOp; go_simp) ?_
        exact hI.store (by decide) h32 hL rfl
      ·intro vs X hI
       obtain ⟨X1, hg1, ho1, rfl⟩ := hI.st rfl
       clear hI
       obtain ⟨A9, c9, hv9, _, _⟩ := ho1.form
       have hl9 : (ntsR r h off k ++ [(⟨4, k, m, ls, min 9000 (hi - hd + by_)⟩ : NoteR)]).length = k + 1 := by rw [List.length_append, HNn.out]; rfl
       rw [hl9] at hv9
       rw [hv9] at ho1 ⊢
       have hno : ∀ q, q < w.heap.size + 2 → some q ≠ (Value.slice LN k cN).ownBlock := fun q hq e => by have := HoN.out.owner' e.symm; omega
       have HB9 := Lib.hid (show Below w.heap.size w X1 from HBn.out.trans ⟨hg1.os, hg1.tape, hg1.output, hg1.size, fun q hq => hg1.block q (by have := HWs.out; omega) (hno q (by omega))⟩)
       have HRX := Lib.hid ((hg1.block _ (by have := HWs.out; omega) (hno (w.heap.size + 1) (by omega))).trans QRow.out)
       have HR6X := Lib.hid ((hg1.block _ (by have := HWs.out; omega) (hno w.heap.size (by omega))).trans HR6.out)
       have HoPX := Lib.hid (HoN.out.apart HoP.out (by decide) hg1)
       have HoNX := Lib.hid (show Own (w.heap.size + 2) 86 X1 (.slice A9 (k + 1) c9) (ntsR r h off (k + 1)) by rw [HNS.out, HX9.out]; exact ho1)
       clear ho1 hg1 hno hl9
       simp [fill, slotOf, Act.put, hv9]
       generalize vs 0 = u300
       generalize vs 1 = u301
       generalize vs 2 = u302
       generalize vs 3 = u303
       generalize vs 4 = u304
       generalize vs 5 = u305
       generalize vs 6 = u306
       generalize vs 7 = u307
       generalize vs 8 = u308
       generalize vs 9 = u309
       generalize vs 10 = u310
       generalize vs 11 = u311
       generalize vs 12 = u312
       generalize vs 13 = u313
       generalize vs 14 = u314
       generalize vs 15 = u315
       generalize vs 16 = u316
       generalize vs 17 = u317
       generalize vs 18 = u318
       generalize vs 19 = u319
       generalize vs 20 = u320
       generalize vs 21 = u321
       generalize vs 22 = u322
       generalize vs 23 = u323
       generalize vs 24 = u324
       generalize vs 25 = u325
       generalize vs 26 = u326
       generalize vs 27 = u327
       generalize vs 28 = u328
       generalize vs 29 = u329
       generalize vs 30 = u330
       generalize vs 31 = u331
       generalize vs 32 = u332
       generalize vs 33 = u333
       generalize vs 34 = u334
       clear hv9
       go_wp2
       go_roundw
       case rel => exact ⟨k + 1, A8, c8, A9, c9, by omega, by go_num, heap_setCell_row HRX.out _, HoPX.out.other (by show w.heap.size + 1 < w.heap.size + 2; omega) _, HoNX.out.other (by show w.heap.size + 1 < w.heap.size + 2; omega) _, (Below.heap_setCell _ _ _ _ (by show w.heap.size ≠ w.heap.size + 1; omega)).trans HR6X.out, HB9.out.setCell (by show w.heap.size ≤ w.heap.size + 1; omega) _⟩
       case measure => simp [intOf]; omega
  ·have hkn : k = r.length := by omega
   subst hkn
   have HRow := Lib.hid hrow
   have HR6 := Lib.hid hr6
   have HB := Lib.hid hb
   have HP := Lib.hid hoP
   have HN := Lib.hid hoN
   have q0 := cellOf hrow 0 (v := .int .i64 100) rfl
   have q1 := cellOf hrow 1 (v := .slice LP r.length cP) rfl
   have q2 := cellOf hrow 2 (v := .slice LN r.length cN) rfl
   clear hrow hoP hoN hr6 hb hlt
   go_wp2_with (refine wpList_store_row rfl 38 (.tmp 6) (.tmp 100) rfl w.heap.size #[.int .i64 100, .slice LP r.length cP, .slice LN r.length cN] rfl rfl 38 _ HR6.out (by kernel_rfl) rfl (by simp [Value.oneCell']) ?_)
   have k4 : (wr.setRow w.heap.size #[.int .i64 100, .slice LP r.length cP, .slice LN r.length cN]).heap[w.heap.size]? = some (.cells #[.int .i64 100, .slice LP r.length cP, .slice LN r.length cN] 38) := setRow_heap _ _ _ _ _ _ HR6.out
   have oth : ∀ g, w.heap.size + 2 ≤ g → (wr.setRow w.heap.size #[.int .i64 100, .slice LP r.length cP, .slice LN r.length cN]).heap[g]? = wr.heap[g]? := fun g hg => setRow_other _ _ _ _ (by omega)
   have hP : Own (w.heap.size + 2) 9 (wr.setRow w.heap.size #[.int .i64 100, .slice LP r.length cP, .slice LN r.length cN]) (.slice LP r.length cP) (nmsR r r.length) := HP.out.keep fun g hg => oth g (HP.out.owner' hg)
   have hN : Own (w.heap.size + 2) 86 (wr.setRow w.heap.size #[.int .i64 100, .slice LP r.length cP, .slice LN r.length cN]) (.slice LN r.length cN) (ntsR r h off r.length) := HN.out.keep fun g hg => oth g (HN.out.owner' hg)
   have e1 : nmsR r r.length = (survS r h off).pts := by unfold nmsR survS; rw [List.take_length]
   have e2 : ntsR r h off r.length = (survS r h off).notes := rfl
   rw [e1] at hP
   rw [e2] at hN
   have hfin : Below w.heap.size w (wr.setRow w.heap.size #[.int .i64 100, .slice LP r.length cP, .slice LN r.length cN]) := HB.out.trans (setRow_below _ (Nat.le_refl _))
   refine bodyPost_ret (v := .agg #[.int .i64 100, .slice LP r.length cP, .slice LN r.length cN]) (results_cell_row rfl _ _ w.heap.size 38 #[.int .i64 100, .slice LP r.length cP, .slice LN r.length cN] (0, 0) _ rfl k4 Tryz.underlying38 rfl (by kernel_rfl)) rfl ⟨_, rfl, ⟨_, _, rfl, hP.rd, hN.rd⟩, hfin⟩
end Go.Proofs.YthnimhnlnddnoaaGreatDoor
