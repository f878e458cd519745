/- Parts of the proof of TpP: TpB. -/
import Derived.Test.YthnimhnlnddnoaaGreatDoorH35
import Derived.Test.YthnimhnlnddnoaaGreatDoorH36
import Derived.Test.YthnimhnlnddnoaaGreatDoorH45
import Derived.Test.YthnimhnlnddnoaaGreatDoorH8
import Derived.Test.YthnimhnlnddnoaaGreatDoorH17
import Derived.Test.YthnimhnlnddnoaaGreatDoorH18
import Derived.Test.YthnimhnlnddnoaaGreatDoorH19
import Derived.Test.YthnimhnlnddnoaaGreatDoorH28
import Derived.Test.YthnimhnlnddnoaaGreatDoorH46
import Derived.Test.YthnimhnlnddnoaaGreatDoorH47
import Derived.WalkKit
import Derived.Deep.Quiet
set_option linter.unusedSimpArgs false
set_option linter.unusedVariables false
set_option maxRecDepth 100000
set_option maxHeartbeats 8000000
namespace Go.Proofs.YthnimhnlnddnoaaGreatDoor
open Go.RowKit Go.Shelf
theorem survS_named {r : List RvR} (hg : RGood r) (h off : List Int) : Named (survS r h off) := fun p hp => by
 unfold survS at hp
 rw [List.mem_map] at hp
 obtain ⟨x, hx, rfl⟩ := hp
 obtain ⟨i, hi, rfl⟩ := List.getElem_of_mem hx
 have := name_size (hg.names i hi)
 unfold rvN at this
 rw [List.getD_eq_getElem?_getD, List.getElem?_eq_getElem hi] at this
 exact Nat.le_trans this (by decide)
def segK (f : Nat → Int) (k : Nat) : List Int := (List.range k).map f
theorem segK_len (f : Nat → Int) (k : Nat) : (segK f k).length = k := by unfold segK; simp
theorem segK_succ (f : Nat → Int) (k : Nat) : segK f (k + 1) = segK f k ++ [f k] := by unfold segK; rw [List.range_succ, List.map_append]; rfl
theorem segK_at (f : Nat → Int) {k i : Nat} (hi : i < k) : (segK f k).getD i 0 = f i := by
 unfold segK
 rw [List.getD_eq_getElem?_getD, List.getElem?_map, List.getElem?_range hi]
 rfl
theorem segK_all {l : List Int} {n : Nat} (hn : l.length = n) : segK (fun i => l.getD i 0) n = l := by
 subst hn
 refine List.ext_getElem (segK_len _ _) fun i h1 h2 => ?_
 have := segK_at (fun i => l.getD i 0) (k := l.length) h2
 rw [List.getD_eq_getElem?_getD, List.getElem?_eq_getElem h1, List.getD_eq_getElem?_getD, List.getElem?_eq_getElem h2] at this
 exact this
theorem set_end (l : List Int) (a b : Int) {k : Nat} (hk : l.length = k) : (l ++ [a]).set k b = l ++ [b] := by
 subst hk
 simp
def cutK (bits : Nat) (x h : List Int) (i : Nat) : Int := if bits.testBit i = true then (if x.length = 0 then 0 else x.getD (i % x.length) 0 % 9001) else h.getD i 0
def pk3 (u v z : Value) (j : Nat) : Value := if j = 0 then u else if j = 1 then v else z
def pl3 (u v z : List Int) (j : Nat) : List Int := if j = 0 then u else if j = 1 then v else z
def pi3 (u v z : Int) (j : Nat) : Int := if j = 0 then u else if j = 1 then v else z
theorem L3.each {base : Nat} {x y z : Value} {a b c : List Int} {w : World} (h : L3 base x y z a b c w) : ∀ j, j < 3 → Own base 3 w (pk3 x y z j) (pl3 a b c j)
 | 0, _ => h.ox
 | 1, _ => h.oy
 | 2, _ => h.oz
theorem L3.apart {base : Nat} {x y z : Value} {a b c : List Int} {w : World} (h : L3 base x y z a b c w) : ∀ i j, i < 3 → j < 3 → i ≠ j → ∀ g, (pk3 x y z i).ownBlock = some g → (pk3 x y z j).ownBlock ≠ some g
 | 0, 1, _, _, _ => h.xy
 | 0, 2, _, _, _ => h.xz
 | 1, 2, _, _, _ => h.yz
 | 1, 0, _, _, _ => fun g h1 h2 => h.xy g h2 h1
 | 2, 0, _, _, _ => fun g h1 h2 => h.xz g h2 h1
 | 2, 1, _, _, _ => fun g h1 h2 => h.yz g h2 h1
 | 0, 0, _, _, e | 1, 1, _, _, e | 2, 2, _, _, e => absurd rfl e
theorem F3I.three {base : Nat} {W X : World} {x y z : Value} {a b c : List Int} {p q s : Int} {val : Nat → Value} {n : Nat} {vs : Nat → Value} (h : F3I base W (pk3 x y z) (pl3 a b c) (pi3 p q s) val (fun i => decide (i < n)) vs X) (hn : 26 ≤ n) :
  L3 base (vs 23) (vs 24) (vs 25) (a ++ [p]) (b ++ [q]) (c ++ [s]) X := by
 have L : ∀ i, i < 26 → decide (i < n) = true := fun i hi => decide_eq_true (by omega)
 have e : ∀ j, j < 3 → curI (pk3 x y z) (fun i => decide (i < n)) vs j = vs (23 + j) := fun j hj => by
  rw [(h.asg j hj (L _ (by omega))).2]
  unfold curI
  simp only
  rw [if_pos (L _ (by have := @ap_lt j; omega))]
 have l : ∀ j, lstI (pl3 a b c) (pi3 p q s) (fun i => decide (i < n)) j = pl3 a b c j ++ [pi3 p q s j] := fun j => by
  unfold lstI
  simp only
  rw [if_pos (L _ (by have := @ap_lt j; omega))]
 have o : ∀ j, j < 3 → Own base 3 X (vs (23 + j)) (pl3 a b c j ++ [pi3 p q s j]) := fun j hj => by rw [← e j hj, ← l j]; exact h.own j hj
 have d : ∀ i j, i < 3 → j < 3 → i ≠ j → ∀ g, (vs (23 + i)).ownBlock = some g → (vs (23 + j)).ownBlock ≠ some g := fun i j hi hj => by rw [← e i hi, ← e j hj]; exact h.sep i j hi hj
 exact ⟨o 0 (by decide), o 1 (by decide), o 2 (by decide), d 0 1 (by decide) (by decide) (by decide), d 0 2 (by decide) (by decide) (by decide), d 1 2 (by decide) (by decide) (by decide)⟩
theorem heights_at {s : ShR} {k : Nat} (hk : k < (heightsF s).length) : ((heightsF s)[k]?.getD default).1 = (lowsR s).getD k 0 ∧ ((heightsF s)[k]?.getD default).2 = (topsR s).getD k 0 := by
 unfold lowsR topsR
 rw [List.getD_eq_getElem?_getD, List.getD_eq_getElem?_getD, List.getElem?_map, List.getElem?_map, List.getElem?_eq_getElem hk]
 exact ⟨rfl, rfl⟩
theorem bit_cast (bits k : Nat) : ((bits : Int) / 2 ^ k).tmod 2 = if bits.testBit k then 1 else 0 := by
 have e : ((bits : Int) / 2 ^ k) = ((bits / 2 ^ k : Nat) : Int) := by rw [Int.natCast_ediv, Int.natCast_pow]; rfl
 have e2 : (((bits / 2 ^ k : Nat) : Int)).tmod 2 = ((bits / 2 ^ k % 2 : Nat) : Int) := by rw [Int.tmod_eq_emod_of_nonneg (Int.natCast_nonneg _)]; omega
 rw [e, e2]
 rw [Nat.testBit_eq_decide_div_mod_eq]
 by_cases h : bits / 2 ^ k % 2 = 1
 ·simp [h]
 ·have : bits / 2 ^ k % 2 = 0 := by omega
  simp [this]
theorem falls_any {B B0 B1 B2 : Nat} {w : World} {v s0 s1 s2 : Value} {r : List RvR} {x0 x1 x2 : List Int} {bits : Nat} (hs : Rd RvAt 4 B w v r) (hB : B ≤ w.heap.size) (h0 : Rd U16At 1 B0 w s0 x0) (hB0 : B0 ≤ w.heap.size) (h1 : Rd U16At 1 B1 w s1 x1) (hB1 : B1 ≤ w.heap.size) (h2 : Rd U16At 1 B2 w s2 x2) (hB2 : B2 ≤ w.heap.size)
  (hx0 : ∀ y ∈ x0, 0 ≤ y ∧ y ≤ 65535) (hx1 : ∀ y ∈ x1, 0 ≤ y ∧ y ≤ 65535) (hx2 : ∀ y ∈ x2, 0 ≤ y ∧ y ≤ 65535) (hbits : bits ≤ 65535) (hgl : Glob w) (hd : DbT w) (hn : ∀ i, i < r.length → (rvN r i).size ≤ 9223372036854775807) :
  Calls Tryz.prog 3 #[v, .agg #[s0, s1, s2], .int .u16 bits] w fun e w' => e = .returned (.bool true) ∧ Below w.heap.size w w' := by
 obtain ⟨A, cap, rfl, _⟩ := id hs
 obtain ⟨A0, c0, rfl, _⟩ := id h0
 obtain ⟨A1, c1, rfl, _⟩ := id h1
 obtain ⟨A2, c2, rfl, _⟩ := id h2
 obtain ⟨W1, hW1, r1, z1, d1⟩ := box_any w #[.slice A0 x0.length c0, .slice A1 x1.length c1, .slice A2 x2.length c2] 24
 have HC := Lib.hid (refcheck_any (w := W1) (hs.below (d1.mono hB)) (Nat.le_trans hB d1.size) hn)
 have HB := Lib.hid d1
 have HR1 := Lib.hid r1
 have HGl := Lib.hid (hgl.below d1)
 have HD := Lib.hid (hd.below d1)
 have HS := Lib.hid (fun (X : World) (hb : Below W1.heap.size W1 X) => hs.below ((d1.trans (hb.mono d1.size)).mono hB))
 have HX0 := Lib.hid (fun (X : World) (hb : Below W1.heap.size W1 X) => h0.below ((d1.trans (hb.mono d1.size)).mono hB0))
 have HX1 := Lib.hid (fun (X : World) (hb : Below W1.heap.size W1 X) => h1.below ((d1.trans (hb.mono d1.size)).mono hB1))
 have HX2 := Lib.hid (fun (X : World) (hb : Below W1.heap.size W1 X) => h2.below ((d1.trans (hb.mono d1.size)).mono hB2))
 have HZ := Lib.hid (show B ≤ W1.heap.size ∧ B0 ≤ W1.heap.size ∧ B1 ≤ W1.heap.size ∧ B2 ≤ W1.heap.size from ⟨Nat.le_trans hB d1.size, Nat.le_trans hB0 d1.size, Nat.le_trans hB1 d1.size, Nat.le_trans hB2 d1.size⟩)
 have H0 := Lib.hid hx0
 have H1 := Lib.hid hx1
 have H2 := Lib.hid hx2
 have q0 := cellOf r1 0 (v := .slice A0 x0.length c0) rfl
 clear hs hgl hd r1 z1 d1 hn h0 h1 h2 hx0 hx1 hx2
 go_enter Tryz.func3, Tryz.ntmps3
 go_upto_region 1 with (fail)
 rw [← hW1]
 clear hW1
 go_upto_region 2 with (go_at_call 4; refine HC.out.mono ?_; rintro e w2 ⟨p, i, er, rfl, hgood, hb2⟩)
 have HA5 := Lib.hid (fun (X : World) (hx : Below W1.heap.size W1 X) => awake_any (w := X) (HGl.out.below hx))
 have HA6 := Lib.hid (fun (X : World) (hx : Below W1.heap.size W1 X) => rawake_any X (HD.out.below hx))
 by_cases he : er = 0
 ·have hg := hgood he
  subst he
  by_cases h8 : r.length ≤ 8
  ·have h8i : ¬ ((8 : Int) < r.length) := by omega
   have HG := Lib.hid hg
   clear hg hgood
   go_upto_region 4 with (fail)
   replace q0 := (hb2.cell (cell_lt q0)).trans q0
   have HA := Lib.hid (any6_any (HS.out _ hb2) HG.out (Nat.le_trans HZ.out.1 hb2.size) (HX0.out _ hb2) (Nat.le_trans HZ.out.2.1 hb2.size) H0.out)
   go_upto_region 5 with (go_at_call 7; refine HA.out.mono ?_; rintro e w3 ⟨g, h, rfl, hl, hrun, hlim, harr, hgb, hb3⟩)
   have hb23 : Below W1.heap.size W1 w3 := hb2.trans (hb3.mono hb2.size)
   have hown := harr.own (base := w2.heap.size) hgb (by omega)
   rw [hl] at hown
   have hrd : Rd IntAt 1 w3.heap.size w3 (.slice (some ⟨g, 0, none⟩) r.length r.length) h := by
    have := harr.own (base := w2.heap.size) hgb (by omega)
    have := this.rd
    rw [hl] at this
    exact this
   have HSv := Lib.hid (surv_all HG.out h8 (h := h) (off := x1) ⟨hl, hrun, hlim⟩ (fun y hy => (H1.out y hy).1))
   have HSu := Lib.hid (surveyed_any (HS.out _ hb23) HG.out (Nat.le_trans HZ.out.1 hb23.size) hrd (Nat.le_refl _) hl hlim (HX1.out _ hb23) (Nat.le_trans HZ.out.2.2.1 hb23.size) H1.out)
   have HHe := Lib.hid (fun (X : World) (v' : Value) (hr : RdSh X.heap.size X v' (survS r h x1)) => heights_any hr (survS_named HG.out h x1) (Nat.le_refl _))
   have q1 := HR1.out
   replace q1 := (hb23.block _ (lt_of_block q1)).trans q1
   have q1 := cellOf q1 1 (v := .slice A1 x1.length c1) rfl
   have HB3 := Lib.hid hb23
   have HAr := Lib.hid harr
   clear hb2 hb3 hb23 hown hrd harr q0
   unfold OwnRes at HHe
   rw [HSv.out.opened] at HHe
   go_upto_region 6 with (first | (go_at_call 9; refine HSu.out.mono ?_; rintro e w4 ⟨v4, rfl, hr4, hb4⟩) | (go_at_call 8; refine (HHe.out _ _ hr4).mono ?_; rintro e w5 ⟨A5, c5, rfl, ho5, hb5⟩))
   have hhl : (heightsF (survS r h x1)).length = r.length := by rw [hts_len HSv.out.opened]; exact List.length_map _
   rw [hhl] at ho5 ⊢
   have HB5 := Lib.hid (HB3.out.trans ((hb4.trans (hb5.mono hb4.size)).mono HB3.out.size))
   have HAr5 := Lib.hid (show LArr w5 g h from (hb5.block _ (by have := hb4.size; have := lt_of_block HAr.out; omega)).trans ((hb4.block _ (lt_of_block HAr.out)).trans HAr.out))
   have HO5 := Lib.hid ho5
   clear hb4 hb5 ho5 hr4 HSu HHe HA HAr HC hhl q1
   have HPts := Lib.hid (show (heightsF (survS r h x1)).length = r.length by rw [hts_len HSv.out.opened]; exact List.length_map _)
   have hrun' := HSv.out
   obtain ⟨lowF, hlowF⟩ : ∃ f : Nat → Int, f = fun i => (lowsR (survS r h x1)).getD i 0 := ⟨_, rfl⟩
   obtain ⟨topF, htopF⟩ : ∃ f : Nat → Int, f = fun i => (topsR (survS r h x1)).getD i 0 := ⟨_, rfl⟩
   obtain ⟨cutF, hcutF⟩ : ∃ f : Nat → Int, f = cutK bits x2 h := ⟨_, rfl⟩
   have HAt := Lib.hid (show ∀ i, i < r.length → ((heightsF (survS r h x1))[i]?.getD default).1 = lowF i ∧ ((heightsF (survS r h x1))[i]?.getD default).2 = topF i ∧ inB (h.getD i 0) (lowF i) (topF i) = true from fun i hi => by
    have := heights_at (s := survS r h x1) (k := i) (by rw [HPts.out]; exact hi)
    have h2 := HSv.out.inside i hi
    rw [hlowF, htopF]
    refine ⟨this.1, this.2, ?_⟩
    unfold inB
    simp only
    rw [decide_eq_true h2.1, decide_eq_true h2.2]
    rfl)
   have HCut := Lib.hid hcutF
   have HLowF := Lib.hid hlowF
   have HTopF := Lib.hid htopF
   have HHl := Lib.hid hl
   have HRun := Lib.hid hrun
   have HLim := Lib.hid hlim
   have hlt9 := HG.out.len
   clear hrun' hlowF htopF hcutF hl hrun hlim
   go_wp2
   go_loopw [12, 13, 14, 15, 16] (fun lv tv cv mv iv wr => ∃ (k : Nat) (Z1 Z2 Z3 : Option Addr) (z1 z2 z3 : Nat), k ≤ r.length ∧ lv = .slice Z1 k z1 ∧ tv = .slice Z2 k z2 ∧ cv = .slice Z3 k z3 ∧ mv = .int .i64 (manyK bits k) ∧ iv = .int .i64 k ∧
    L3 w5.heap.size (.slice Z1 k z1) (.slice Z2 k z2) (.slice Z3 k z3) (segK lowF k) (segK topF k) (segK cutF k) wr ∧ Below w5.heap.size w5 wr) (fun _ _ _ _ iv _ => r.length - (intOf iv).toNat)
   case atStart => exact ⟨0, none, none, none, 0, 0, 0, Nat.zero_le _, rfl, rfl, rfl, rfl, rfl, ⟨Own.nil _ _ _, Own.nil _ _ _, Own.nil _ _ _, fun g h => (by cases h), fun g h => (by cases h), fun g h => (by cases h)⟩, Below.refl _ _⟩
   case round =>
    obtain ⟨k, Z1, Z2, Z3, z1, z2, z3, hk, rfl, rfl, rfl, rfl, rfl, hL3, hb⟩ := hrel
    by_cases hlt : k < r.length
    ·obtain ⟨hi1, hi2, hi3⟩ := HAt.out k hlt
     obtain ⟨ad5, rfl, hB5, p0, p1⟩ := (HO5.out.rd.below hb).span (i := k) (by rw [HPts.out]; exact hlt)
     rw [hi1] at p0
     rw [hi2] at p1
     have ph := HAr5.out.cell (i := k) (by rw [HHl.out]; exact hlt)
     have hgh : g < w5.heap.size := lt_of_block HAr5.out
     replace ph := (hb.cell (p := ⟨g, k, none⟩) hgh).trans ph
     have HIn := Lib.hid (fun (Z : World) => inside_any1 (h.getD k 0) (lowF k) (topF k) Z)
     rw [hi3] at HIn
     obtain ⟨hv, hhk⟩ : ∃ v, v = h.getD k 0 := ⟨_, rfl⟩
     obtain ⟨lo, hlo⟩ : ∃ v, v = lowF k := ⟨_, rfl⟩
     obtain ⟨hi, hhi⟩ : ∃ v, v = topF k := ⟨_, rfl⟩
     rw [← hhk] at ph HIn
     rw [← hlo] at p0 HIn
     rw [← hhi] at p1 HIn
     have Hhk := Lib.hid hhk
     have Hlo := Lib.hid hlo
     have Hhi := Lib.hid hhi
     have HL3 := Lib.hid hL3
     have HBr := Lib.hid hb
     clear hhk hlo hhi hi1 hi2 hi3 hL3
     go_upto_region 13 with (fail)
     have f0 := Aft.cell ph
     have f1 := Aft.cell p0
     have f2 := Aft.cell p1
     have HPh := Lib.hid ph
     have HP0 := Lib.hid p0
     have HP1 := Lib.hid p1
     clear ph p0 p1 hb
     refine wp_region_aft (by kernel_rfl) (by kernel_rfl) ?_
     repeat (first | go_big_quiet_step ((go_at_call 10; exact Aft.call (HIn.out _))) | quiet_step ((go_at_call 10; exact Aft.call (HIn.out _))))
     refine wpQuiet_nil ?_
     rintro wx ⟨⟨wy, hbx⟩, hwe⟩
     obtain rfl : wx = wy := hwe
     have QHk := Lib.hid ((hbx.cell (cell_lt HPh.out)).trans HPh.out)
     have QLo := Lib.hid ((hbx.cell (cell_lt HP0.out)).trans HP0.out)
     have QHi := Lib.hid ((hbx.cell (cell_lt HP1.out)).trans HP1.out)
     have QHkb := Lib.hid (show (⟨g, k, none⟩ : Addr).block < w5.heap.size from hgh)
     have QLob := Lib.hid (show (ad5.add (k * 2)).block < w5.heap.size by rw [block_add]; exact hB5)
     have QHib := Lib.hid (show (⟨(ad5.add (k * 2)).block, (ad5.add (k * 2)).off + 1, none⟩ : Addr).block < w5.heap.size by show (ad5.add (k * 2)).block < w5.heap.size; rw [block_add]; exact hB5)
     have hL3x := HL3.out.below hbx
     have HBx := Lib.hid (HBr.out.trans (hbx.mono HBr.out.size))
     have HL3x := Lib.hid hL3x
     clear f0 f1 f2 hbx hL3x HPh HP0 HP1 HIn hgh hB5
     go_upto_region 15 with (fail)
     refine wp_region_ghost (F3I w5.heap.size wx (pk3 (.slice Z1 k z1) (.slice Z2 k z2) (.slice Z3 k z3)) (pl3 (segK lowF k) (segK topF k) (segK cutF k)) (pi3 lo hi hv) (fun k0 => ([.slice Z1 k z1, .slice (some ad5) r.length c5, .int .i64 k, .pointer (some (ad5.add (k * 2))), .pointer (some (ad5.add (k * 2))), .int .i64 lo, undef, undef, .slice Z2 k z2, .slice (some ad5) r.length c5, .int .i64 k, .pointer (some (ad5.add (k * 2))), .pointer (some ⟨(ad5.add (k * 2)).block, (ad5.add (k * 2)).off + 1, none⟩), .int .i64 hi, undef, undef, .slice Z3 k z3, .slice (some ⟨g, 0, none⟩) r.length r.length, .int .i64 k, .pointer (some ⟨g, k, none⟩), .int .i64 hv, undef, undef] : List Value).getD k0 undef)) (by kernel_rfl) (by kernel_rfl) (F3I.start HBx.out.size HL3x.out.each HL3x.out.apart) ?_ ?_
     ·refine ⟨?_, ?_, ?_, ?_, ?_, ?_, ?_, ?_, ?_, ?_, ?_, ?_, ?_, ?_, ?_, ?_, ?_, ?_, ?_, ?_, ?_, ?_, ?_, ?_, ?_, ?_, trivial⟩
      all_goals
       intro L vs X b0 hL hw hcl hI hf
      ·have hb := hI.bel
       have n23 : L 23 = false := not_yet hcl 23 hL rfl (by kernel_rfl)
       have e12 := hf.yet 12 23 (by kernel_rfl) n23
       exact wp_of_run (v := .slice Z1 k z1) (w' := X) (by unfold execOp; go_simp) (hI.read (i := 0) (by decide) (by decide))
      ·have hb := hI.bel
       have e11 := hf.old 11 (by kernel_rfl)
       exact wp_of_run (v := .slice (some ad5) r.length c5) (w' := X) (by unfold execOp; go_simp) (hI.read (i := 1) (by decide) (by decide))
      ·have hb := hI.bel
       have e16 := hf.old 16 (by kernel_rfl)
       exact wp_of_run (v := .int .i64 k) (w' := X) (by unfold execOp; go_simp) (hI.read (i := 2) (by decide) (by decide))
      ·have hb := hI.bel
       have e83 := hf.got hw 1 83 (.slice (some ad5) r.length c5) rfl (by kernel_rfl) (by simp) (hI.rd 1 (by decide))
       have e84 := hf.got hw 2 84 (.int .i64 k) rfl (by kernel_rfl) (by simp) (hI.rd 2 (by decide))
       exact wp_of_run (v := .pointer (some (ad5.add (k * 2)))) (w' := X) (by unfold execOp; go_simp) (hI.read (i := 3) (by decide) (by decide))
      ·have hb := hI.bel
       have e85 := hf.got hw 3 85 (.pointer (some (ad5.add (k * 2)))) rfl (by kernel_rfl) (by simp) (hI.rd 3 (by decide))
       exact wp_of_run (v := .pointer (some (ad5.add (k * 2)))) (w' := X) (by unfold execOp; go_simp) (hI.read (i := 4) (by decide) (by decide))
      ·have hb := hI.bel
       have e86 := hf.got hw 4 86 (.pointer (some (ad5.add (k * 2)))) rfl (by kernel_rfl) (by simp) (hI.rd 4 (by decide))
       have qQLo := (hb.cell QLob.out).trans QLo.out
       exact wp_of_run (v := .int .i64 lo) (w' := X) (by unfold execOp; go_simp) (hI.read (i := 5) (by decide) (by decide))
      ·have hb := hI.bel
       have e87 := hf.got hw 5 87 (.int .i64 lo) rfl (by kernel_rfl) (by simp) (hI.rd 5 (by decide))
       have n7 : L 7 = false := not_yet hcl 7 hL rfl (by kernel_rfl)
       exact wp_of_run (v := .slice (some ⟨X.heap.size, 0, none⟩) 1 1) (w' := X.alloc (.cells #[.int .i64 lo] 3)) (by unfold execOp; go_simp) (hI.build (j := 0) (by decide) n7)
      ·have hb := hI.bel
       have e82 := hf.got hw 0 82 (.slice Z1 k z1) rfl (by kernel_rfl) (by simp) (hI.rd 0 (by decide))
       have h6 : L 6 = true := done_of hw 6 (by kernel_rfl)
       have e88 : b0.tmps[88]?.getD undef = vs 6 := hf.new 6 88 rfl h6 (by simp)
       obtain ⟨gl, v9, w9, q9, hrun9, hI9⟩ := hI.app (j := 0) (by decide) hL h6 (by show (segK lowF k).length ≤ 100000; rw [segK_len]; omega)
       refine wp_of_run (run_exec_append (.tmp 82) (.tmp 88) 30 rfl (eval_tmp e82) (eval_tmp (e88.trans q9)) hrun9) ?_
       exact hI9
      ·have hb := hI.bel
       have n24 : L 24 = false := not_yet hcl 24 hL rfl (by kernel_rfl)
       have e13 := hf.yet 13 24 (by kernel_rfl) n24
       exact wp_of_run (v := .slice Z2 k z2) (w' := X) (by unfold execOp; go_simp) (hI.read (i := 8) (by decide) (by decide))
      ·have hb := hI.bel
       have e11 := hf.old 11 (by kernel_rfl)
       exact wp_of_run (v := .slice (some ad5) r.length c5) (w' := X) (by unfold execOp; go_simp) (hI.read (i := 9) (by decide) (by decide))
      ·have hb := hI.bel
       have e16 := hf.old 16 (by kernel_rfl)
       exact wp_of_run (v := .int .i64 k) (w' := X) (by unfold execOp; go_simp) (hI.read (i := 10) (by decide) (by decide))
      ·have hb := hI.bel
       have e91 := hf.got hw 9 91 (.slice (some ad5) r.length c5) rfl (by kernel_rfl) (by simp) (hI.rd 9 (by decide))
       have e92 := hf.got hw 10 92 (.int .i64 k) rfl (by kernel_rfl) (by simp) (hI.rd 10 (by decide))
       exact wp_of_run (v := .pointer (some (ad5.add (k * 2)))) (w' := X) (by unfold execOp; go_simp) (hI.read (i := 11) (by decide) (by decide))
      ·have hb := hI.bel
       have e93 := hf.got hw 11 93 (.pointer (some (ad5.add (k * 2)))) rfl (by kernel_rfl) (by simp) (hI.rd 11 (by decide))
       exact wp_of_run (v := .pointer (some ⟨(ad5.add (k * 2)).block, (ad5.add (k * 2)).off + 1, none⟩)) (w' := X) (by unfold execOp; go_simp) (hI.read (i := 12) (by decide) (by decide))
      ·have hb := hI.bel
       have e94 := hf.got hw 12 94 (.pointer (some ⟨(ad5.add (k * 2)).block, (ad5.add (k * 2)).off + 1, none⟩)) rfl (by kernel_rfl) (by simp) (hI.rd 12 (by decide))
       have qQHi := (hb.cell QHib.out).trans QHi.out
       exact wp_of_run (v := .int .i64 hi) (w' := X) (by unfold execOp; go_simp) (hI.read (i := 13) (by decide) (by decide))
      ·have hb := hI.bel
       have e95 := hf.got hw 13 95 (.int .i64 hi) rfl (by kernel_rfl) (by simp) (hI.rd 13 (by decide))
       have n15 : L 15 = false := not_yet hcl 15 hL rfl (by kernel_rfl)
       exact wp_of_run (v := .slice (some ⟨X.heap.size, 0, none⟩) 1 1) (w' := X.alloc (.cells #[.int .i64 hi] 3)) (by unfold execOp; go_simp) (hI.build (j := 1) (by decide) n15)
      ·have hb := hI.bel
       have e90 := hf.got hw 8 90 (.slice Z2 k z2) rfl (by kernel_rfl) (by simp) (hI.rd 8 (by decide))
       have h14 : L 14 = true := done_of hw 14 (by kernel_rfl)
       have e96 : b0.tmps[96]?.getD undef = vs 14 := hf.new 14 96 rfl h14 (by simp)
       obtain ⟨gl, v9, w9, q9, hrun9, hI9⟩ := hI.app (j := 1) (by decide) hL h14 (by show (segK topF k).length ≤ 100000; rw [segK_len]; omega)
       refine wp_of_run (run_exec_append (.tmp 90) (.tmp 96) 30 rfl (eval_tmp e90) (eval_tmp (e96.trans q9)) hrun9) ?_
       exact hI9
      ·have hb := hI.bel
       have n25 : L 25 = false := not_yet hcl 25 hL rfl (by kernel_rfl)
       have e14 := hf.yet 14 25 (by kernel_rfl) n25
       exact wp_of_run (v := .slice Z3 k z3) (w' := X) (by unfold execOp; go_simp) (hI.read (i := 16) (by decide) (by decide))
      ·have hb := hI.bel
       have e10 := hf.old 10 (by kernel_rfl)
       exact wp_of_run (v := .slice (some ⟨g, 0, none⟩) r.length r.length) (w' := X) (by unfold execOp; go_simp) (hI.read (i := 17) (by decide) (by decide))
      ·have hb := hI.bel
       have e16 := hf.old 16 (by kernel_rfl)
       exact wp_of_run (v := .int .i64 k) (w' := X) (by unfold execOp; go_simp) (hI.read (i := 18) (by decide) (by decide))
      ·have hb := hI.bel
       have e99 := hf.got hw 17 99 (.slice (some ⟨g, 0, none⟩) r.length r.length) rfl (by kernel_rfl) (by simp) (hI.rd 17 (by decide))
       have e100 := hf.got hw 18 100 (.int .i64 k) rfl (by kernel_rfl) (by simp) (hI.rd 18 (by decide))
       exact wp_of_run (v := .pointer (some ⟨g, k, none⟩)) (w' := X) (by unfold execOp; go_simp) (hI.read (i := 19) (by decide) (by decide))
      ·have hb := hI.bel
       have e101 := hf.got hw 19 101 (.pointer (some ⟨g, k, none⟩)) rfl (by kernel_rfl) (by simp) (hI.rd 19 (by decide))
       have qQHk := (hb.cell QHkb.out).trans QHk.out
       exact wp_of_run (v := .int .i64 hv) (w' := X) (by unfold execOp; go_simp) (hI.read (i := 20) (by decide) (by decide))
      ·have hb := hI.bel
       have e102 := hf.got hw 20 102 (.int .i64 hv) rfl (by kernel_rfl) (by simp) (hI.rd 20 (by decide))
       have n22 : L 22 = false := not_yet hcl 22 hL rfl (by kernel_rfl)
       exact wp_of_run (v := .slice (some ⟨X.heap.size, 0, none⟩) 1 1) (w' := X.alloc (.cells #[.int .i64 hv] 3)) (by unfold execOp; go_simp) (hI.build (j := 2) (by decide) n22)
      ·have hb := hI.bel
       have e98 := hf.got hw 16 98 (.slice Z3 k z3) rfl (by kernel_rfl) (by simp) (hI.rd 16 (by decide))
       have h21 : L 21 = true := done_of hw 21 (by kernel_rfl)
       have e103 : b0.tmps[103]?.getD undef = vs 21 := hf.new 21 103 rfl h21 (by simp)
       obtain ⟨gl, v9, w9, q9, hrun9, hI9⟩ := hI.app (j := 2) (by decide) hL h21 (by show (segK cutF k).length ≤ 100000; rw [segK_len]; omega)
       refine wp_of_run (run_exec_append (.tmp 98) (.tmp 103) 30 rfl (eval_tmp e98) (eval_tmp (e103.trans q9)) hrun9) ?_
       exact hI9
      ·have hb := hI.bel
       have h7 : L 7 = true := done_of hw 7 (by kernel_rfl)
       have e89 : b0.tmps[89]?.getD undef = vs 7 := hf.new 7 89 rfl h7 (by simp)
       exact wp_of_run (v := vs 7) (w' := X) (by unfold execOp; go_simp) (hI.assign (j := 0) (by decide) h7)
      ·have hb := hI.bel
       have h15 : L 15 = true := done_of hw 15 (by kernel_rfl)
       have e97 : b0.tmps[97]?.getD undef = vs 15 := hf.new 15 97 rfl h15 (by simp)
       exact wp_of_run (v := vs 15) (w' := X) (by unfold execOp; go_simp) (hI.assign (j := 1) (by decide) h15)
      ·have hb := hI.bel
       have h22 : L 22 = true := done_of hw 22 (by kernel_rfl)
       have e104 : b0.tmps[104]?.getD undef = vs 22 := hf.new 22 104 rfl h22 (by simp)
       exact wp_of_run (v := vs 22) (w' := X) (by unfold execOp; go_simp) (hI.assign (j := 2) (by decide) h22)
     ·intro vs X hI
      have hL3n := hI.three (by decide)
      have HBn := Lib.hid (HBx.out.trans hI.bel)
      clear hI
      obtain ⟨Y1, y1, hv23, _⟩ := hL3n.ox.form
      obtain ⟨Y2, y2, hv24, _⟩ := hL3n.oy.form
      obtain ⟨Y3, y3, hv25, _⟩ := hL3n.oz.form
      rw [show (segK lowF k ++ [lo]).length = k + 1 by rw [List.length_append, segK_len]; rfl] at hv23
      rw [show (segK topF k ++ [hi]).length = k + 1 by rw [List.length_append, segK_len]; rfl] at hv24
      rw [show (segK cutF k ++ [hv]).length = k + 1 by rw [List.length_append, segK_len]; rfl] at hv25
      rw [hv23, hv24, hv25, Hlo.out, Hhi.out, ← segK_succ, ← segK_succ] at hL3n
      simp [fill, slotOf, Act.put, hv23, hv24, hv25]
      generalize vs 0 = u200
      generalize vs 1 = u201
      generalize vs 2 = u202
      generalize vs 3 = u203
      generalize vs 4 = u204
      generalize vs 5 = u205
      generalize vs 6 = u206
      generalize vs 7 = u207
      generalize vs 8 = u208
      generalize vs 9 = u209
      generalize vs 10 = u210
      generalize vs 11 = u211
      generalize vs 12 = u212
      generalize vs 13 = u213
      generalize vs 14 = u214
      generalize vs 15 = u215
      generalize vs 16 = u216
      generalize vs 17 = u217
      generalize vs 18 = u218
      generalize vs 19 = u219
      generalize vs 20 = u220
      generalize vs 21 = u221
      generalize vs 22 = u222
      clear hv23 hv24 hv25
      have HLn := Lib.hid hL3n
      have HLt := Lib.hid hlt
      clear hlt
      cases hbk : bits.testBit k with
      | false =>
       have hq := bit_cast bits k
       rw [hbk] at hq
       have q16 : (((bits : Int) / 2 ^ k).tmod 2 == 1) = false := by rw [hq]; rfl
       clear hq
       have HCk := Lib.hid (show cutF k = hv by rw [HCut.out, Hhk.out]; unfold cutK; rw [if_neg (by rw [hbk]; decide)])
       go_wp2
       go_roundw
       case rel =>
        refine ⟨k + 1, Y1, Y2, Y3, y1, y2, y3, by have := HLt.out; omega, rfl, rfl, rfl, ?_, by go_num, ?_, HBn.out⟩
        ·rw [manyK_succ, if_neg (by rw [hbk]; decide)]
        ·rw [segK_succ cutF k, HCk.out]; exact HLn.out
       case measure => have := HLt.out; simp [intOf]; omega
      | true =>
       have hq := bit_cast bits k
       rw [hbk] at hq
       have q16 : (((bits : Int) / 2 ^ k).tmod 2 == 1) = true := by rw [hq]; rfl
       clear hq
       obtain ⟨g3, hY3, hg3, hc3, hf3, hput⟩ := HLn.out.rot.rot.put (i := k) (by rw [List.length_append, segK_len]; show k < k + 1; omega)
       subst hY3
       obtain ⟨ov, hov⟩ : ∃ v, v = (segK cutF k ++ [hv]).getD k 0 := ⟨_, rfl⟩
       rw [← hov] at hc3
       have hput0 := (hput 0).rot
       rw [set_end _ _ _ (segK_len cutF k)] at hput0
       have HP3 := Lib.hid hput0
       clear hov hput hput0
       go_upto_region 18 with (fail)
       obtain ⟨X1, hX1⟩ : ∃ Y, Y = X.setCell ⟨g3, k, none⟩ (.int .i64 0) := ⟨_, rfl⟩
       have hL1 := HP3.out
       have hb1 : Below w5.heap.size w5 X1 := by rw [hX1]; exact HBn.out.setCell (by show w5.heap.size ≤ g3; exact hg3) _
       rw [← hX1] at hL1 ⊢
       obtain ⟨g4, hg4, _, hc4, hf4, hput4⟩ := hL1.rot.rot.put (i := k) (by rw [List.length_append, segK_len]; show k < k + 1; omega)
       injection hg4 with hg4
       injection hg4 with hg4
       subst hg4
       obtain ⟨ov4, hov4⟩ : ∃ v, v = (segK cutF k ++ [0]).getD k 0 := ⟨_, rfl⟩
       rw [← hov4] at hc4
       have HL1 := Lib.hid hL1
       have HB1 := Lib.hid hb1
       have qb : X1.heap[w.heap.size]? = _ := (hb1.block _ (by have := lt_of_block HR1.out; have := HB5.out.size; omega)).trans ((HB5.out.block _ (lt_of_block HR1.out)).trans HR1.out)
       have q2 := cellOf qb 2 (v := .slice A2 x2.length c2) rfl
       have HW2 := Lib.hid (HX2.out X1 (HB5.out.trans (hb1.mono HB5.out.size)))
       have HMk := Lib.hid (show manyK bits (k + 1) = manyK bits k + 1 by rw [manyK_succ, if_pos hbk])
       have hmk := manyK_le bits k
       clear hX1 HP3 hL1 hb1 qb hov4 hput4 hc3 hf3 HLn HBn q16
       by_cases hz : x2.length = 0
       ·have HCk := Lib.hid (show cutF k = 0 by rw [HCut.out]; unfold cutK; rw [if_pos hbk, if_pos hz])
        have q18 : ¬ ((0 : Int) < (x2.length : Int)) := by omega
        clear hz
        go_wp2
        go_roundw
        case rel =>
         refine ⟨k + 1, Y1, Y2, _, y1, y2, y3, by have := HLt.out; omega, rfl, rfl, rfl, ?_, by go_num, ?_, HB1.out⟩
         ·rw [HMk.out]; go_num
         ·rw [segK_succ cutF k, HCk.out]; exact HL1.out
        case measure => have := HLt.out; simp [intOf]; omega
       ·have q18 : (0 : Int) < (x2.length : Int) := by omega
        have hp : 0 < x2.length := by omega
        have hm : k % x2.length < x2.length := Nat.mod_lt _ hp
        obtain ⟨_, _, e2, h12, h22, h32⟩ := HW2.out
        obtain ⟨ad2, he2, _, hcz⟩ := h32 _ _ (List.getElem?_eq_getElem hm)
        injection e2 with e2 _ _
        subst e2
        subst he2
        have hzb := H2.out _ (List.getElem_mem hm)
        have HCk := Lib.hid (show cutF k = (x2[k % x2.length]) % 9001 by
         rw [HCut.out]
         unfold cutK
         rw [if_pos hbk, if_neg hz, List.getD_eq_getElem?_getD, List.getElem?_eq_getElem hm]
         rfl)
        rw [Nat.mul_one] at hcz
        replace hcz : X1.cell? (ad2.add (k % x2.length)) = some (.int .u16 (x2[k % x2.length])) := hcz
        obtain ⟨zv, hzv⟩ : ∃ v, v = x2[k % x2.length] := ⟨_, rfl⟩
        rw [← hzv] at hcz hzb HCk
        clear hzv h12 h22 h32 hz
        go_upto_region 19 with (fail)
        refine region_quiet_tail (C := fun w' => ∃ n, w' = X1.drewN n) 14 (by kernel_rfl) (by kernel_rfl) ⟨1, rfl⟩ ?_
        simp only [List.take_succ_cons, List.take_zero, List.drop_succ_cons, List.drop_zero]
        repeat (first | go_big_quiet_step (fail) | quiet_step (fail))
        refine wpQuiet_nil ?_
        rintro _ ⟨nq, rfl⟩
        go_wp2
        go_roundw
        case rel =>
         have hL2 := HL1.out.below (Below.refl X1.heap.size X1 |> fun h => below_drewN h nq)
         obtain ⟨g5, hg5, hge, _, _, hput5⟩ := hL2.rot.rot.put (i := k) (by rw [List.length_append, segK_len]; show k < k + 1; omega)
         injection hg5 with hg5
         injection hg5 with hg5
         subst hg5
         have hput6 := (hput5 (zv % 9001)).rot
         rw [set_end _ _ _ (segK_len cutF k)] at hput6
         refine ⟨k + 1, Y1, Y2, _, y1, y2, y3, by have := HLt.out; omega, rfl, rfl, rfl, ?_, by go_num, ?_, (below_drewN HB1.out nq).setCell hge _⟩
         ·rw [HMk.out]; go_num
         ·rw [segK_succ cutF k, HCk.out]; exact hput6
        case measure => have := HLt.out; simp [intOf]; omega
    ·obtain rfl : r.length = k := by omega
     have hlow : segK lowF r.length = lowsR (survS r h x1) := by rw [HLowF.out]; exact segK_all HSv.out.low.len
     have htop : segK topF r.length = topsR (survS r h x1) := by rw [HTopF.out]; exact segK_all HSv.out.top.len
     rw [hlow, htop] at hL3
     have HRl := HSv.out.low
     have HRt := HSv.out.top
     generalize lowsR (survS r h x1) = lows at HRl hL3
     generalize topsR (survS r h x1) = tops at HRt hL3
     have hcl : ∀ i, i < r.length → 0 ≤ (segK cutF r.length).getD i 0 ∧ (segK cutF r.length).getD i 0 ≤ 9000 := fun i hi => by
      rw [segK_at cutF hi, HCut.out]
      unfold cutK
      split
      ·split
       ·omega
       ·have := H2.out _ (getD_mem (l := x2) (i := i % x2.length) (Nat.mod_lt _ (by omega)) 0)
        omega
      ·exact HLim.out i hi
     have hcs : ∀ i, i < r.length → bits.testBit i = false → (segK cutF r.length).getD i 0 = h.getD i 0 := fun i hi hbt => by
      rw [segK_at cutF hi, HCut.out]
      unfold cutK
      rw [if_neg (by rw [hbt]; decide)]
     have hcll : (segK cutF r.length).length = r.length := segK_len _ _
     have hRh : Runs r h := ⟨HHl.out, HRun.out, HLim.out⟩
     generalize segK cutF r.length = cuts at hcl hcs hcll hL3
     have hB5 := HB5.out
     have hbr := hb
     have hHS : ∀ X, Below wr.heap.size wr X → Rd RvAt 4 B X (.slice A r.length cap) r ∧ B ≤ X.heap.size := fun X hx => ⟨HS.out X (hB5.trans ((hbr.trans (hx.mono hbr.size)).mono hB5.size)), by have := HZ.out.1; have := hB5.size; have := hbr.size; have := hx.size; omega⟩
     have HG9 := HG.out.len
     have HLo := Lib.hid (fun (X : World) (hx : Below wr.heap.size wr X) => high_any (hHS X hx).1 HG9 (hHS X hx).2 (hL3.ox.below hx).rd (Nat.le_refl _) HRl.len)
     have HTo := Lib.hid (fun (X : World) (hx : Below wr.heap.size wr X) => high_any (hHS X hx).1 HG9 (hHS X hx).2 (hL3.oy.below hx).rd (Nat.le_refl _) HRt.len)
     have HCu := Lib.hid (fun (X : World) (hx : Below wr.heap.size wr X) => high_any (hHS X hx).1 HG9 (hHS X hx).2 (hL3.oz.below hx).rd (Nat.le_refl _) hcll)
     have HBl := Lib.hid (fun (X : World) (v : Value) hr => bad_runs_any (X := X) (v := v) HG.out HRl hr)
     have HBt := Lib.hid (fun (X : World) (v : Value) hr => bad_runs_any (X := X) (v := v) HG.out HRt hr)
     have HFi := Lib.hid (fun (X : World) (v : Value) (hx : Below wr.heap.size wr X) hr => fill_runs_any (X := X) (v := v) hx.size HG.out HRl hr)
     have HCa := Lib.hid (fun (X : World) (v : Value) (hx : Below wr.heap.size wr X) hr => carve_runs_any (X := X) (v := v) hx.size HG.out HRt hr)
     have HFe := Lib.hid (fun (X : World) (v : Value) (hx : Below wr.heap.size wr X) hr => few_cut_any (X := X) (v := v) (bits := bits) HG.out hRh hcl hcs hr (HD.out.below (hB5.trans ((hbr.trans (hx.mono hbr.size)).mono hB5.size))))
     have HXl := Lib.hid (fun (X : World) (hx : Below wr.heap.size wr X) => (hL3.ox.below hx).rd)
     have HXt := Lib.hid (fun (X : World) (hx : Below wr.heap.size wr X) => (hL3.oy.below hx).rd)
     have HLl := Lib.hid (show lows.length ≤ 1000000 ∧ tops.length ≤ 1000000 from ⟨by rw [HRl.len]; omega, by rw [HRt.len]; omega⟩)
     have HW1 := Lib.hid (fun (X : World) (hx : Below wr.heap.size wr X) => hB5.trans ((hbr.trans (hx.mono hbr.size)).mono hB5.size))
     have hbq : Below wr.heap.size wr wr := Below.refl _ _
     clear hlow htop hcl hcs hcll hRh hb hbr hHS hB5 hL3 HRl HRt hlt hk HSv HAt HCut HLowF HTopF
     go_upto_region 22 with (first | (go_at_call 12; refine (HLo.out _ hbq).mono ?_; rintro e wa ⟨Aa, ca, rfl, hoa, hba⟩; replace hbq := hbq.trans (hba.mono hbq.size)) | (go_at_call 11; refine (HBl.out _ _ hoa.rd).mono ?_; rintro e wb ⟨Ab, cb, rfl, hbb⟩; replace hbq := hbq.trans (hbb.mono hbq.size)))
     clear hoa hba hbb
     go_upto_region 23 with (first | (go_at_call 12; refine (HTo.out _ hbq).mono ?_; rintro e wc ⟨Ac, cc, rfl, hoa, hba⟩; replace hbq := hbq.trans (hba.mono hbq.size)) | (go_at_call 11; refine (HBt.out _ _ hoa.rd).mono ?_; rintro e wd ⟨Ad, cd, rfl, hbb⟩; replace hbq := hbq.trans (hbb.mono hbq.size)))
     clear hoa hba hbb
     go_upto_region 24 with (first | (go_at_call 12; refine (HLo.out _ hbq).mono ?_; rintro e we ⟨Ae, ce, rfl, hoa, hba⟩; replace hbq := hbq.trans (hba.mono hbq.size)) | (go_at_call 13; refine (HFi.out _ _ hbq hoa.rd).mono ?_; rintro e wf ⟨Af, cf, rfl, hof, hbb⟩; replace hbq := hbq.trans (hbb.mono hbq.size)))
     clear hoa hba hbb
     go_upto_region 25 with (first | (go_at_call 12; refine (HTo.out _ hbq).mono ?_; rintro e wg ⟨Ag, cg, rfl, hoa, hba⟩; replace hbq := hbq.trans (hba.mono hbq.size); replace hof := hof.below hba) | (go_at_call 14; refine (HCa.out _ _ hbq hoa.rd).mono ?_; rintro e wh ⟨Ah, ch, rfl, hoh, hbb⟩; replace hbq := hbq.trans (hbb.mono hbq.size); replace hof := hof.below hbb))
     clear hoa hba hbb
     go_upto_region 26 with (first | (go_at_call 12; refine (HCu.out _ hbq).mono ?_; rintro e wi ⟨Ai, ci, rfl, hoa, hba⟩; replace hbq := hbq.trans (hba.mono hbq.size); replace hof := hof.below hba; replace hoh := hoh.below hba) | (go_at_call 15; refine (HFe.out _ _ hbq hoa.rd).mono ?_; rintro e wj ⟨Aj, cj, m, hm, rfl, hbb⟩; replace hbq := hbq.trans (hbb.mono hbq.size); replace hof := hof.below hbb; replace hoh := hoh.below hbb))
     clear hoa hba hbb
     have hm2 : (m : Int) ≤ (manyK bits r.length : Int) := by omega
     have HI1 := Lib.hid (fun (X : World) (hq : Qt wj X) => ints_same ((hof.below (hq.below _)).rd) (HXl.out X (hbq.trans (hq.below _))) HLl.out.1)
     have HI2 := Lib.hid (fun (X : World) (hq : Qt wj X) => ints_same ((hoh.below (hq.below _)).rd) (HXt.out X (hbq.trans (hq.below _))) HLl.out.2)
     have hqj : Qt wj wj := Qt.refl _
     have HBq := Lib.hid hbq
     clear hof hoh hm hbq
     go_wp2_with (first | (go_at_call 16; with_reducible refine Calls.mono (HI1.out _ hqj) ?_; rintro e wk ⟨rfl, hqk⟩; replace hqj := hqj.trans hqk) | (go_at_call 16; with_reducible refine Calls.mono (HI2.out _ hqj) ?_; rintro e wl ⟨rfl, hql⟩; replace hqj := hqj.trans hql) | (go_at_call 5; refine (HA5.out _ (HW1.out _ (HBq.out.trans (hqj.below _)))).mono ?_; rintro e w8 ⟨rfl, hb8⟩; have hb9 := (HBq.out.trans (hqj.below _)).trans (hb8.mono (HBq.out.trans (hqj.below _)).size)) | (go_at_call 6; refine (HA6.out _ (HW1.out _ hb9)).mono ?_; rintro e w9 ⟨rfl, hb10⟩; replace hb9 := hb9.trans (hb10.mono hb9.size)))
     go_ret
     exact ⟨rfl, HB.out.trans ((HW1.out _ hb9).mono HB.out.size)⟩
  ·have q2 : (8 : Int) < r.length := by omega
   clear hgood h8 q0
   go_wp2_with (first | (go_at_call 5; refine (HA5.out _ hb2).mono ?_; rintro e w3 ⟨rfl, hb3⟩; replace hb3 := hb2.trans (hb3.mono hb2.size)) | (go_at_call 6; refine (HA6.out _ hb3).mono ?_; rintro e w4 ⟨rfl, hb4⟩; replace hb4 := hb3.trans (hb4.mono hb3.size)))
   go_ret
   exact ⟨rfl, HB.out.trans (hb4.mono HB.out.size)⟩
 ·have q1 : (er != 0) = true := by simp [he]
  clear he hgood q0
  go_wp2_with (first | (go_at_call 5; refine (HA5.out _ hb2).mono ?_; rintro e w3 ⟨rfl, hb3⟩; replace hb3 := hb2.trans (hb3.mono hb2.size)) | (go_at_call 6; refine (HA6.out _ hb3).mono ?_; rintro e w4 ⟨rfl, hb4⟩; replace hb4 := hb3.trans (hb4.mono hb3.size)))
  go_ret
  exact ⟨rfl, HB.out.trans (hb4.mono HB.out.size)⟩
end Go.Proofs.YthnimhnlnddnoaaGreatDoor
