/- Parts of the proof of TpP: RwE, RwA. -/
import Derived.Test.YthnimhnlnddnoaaGreatDoorH44
import Derived.WalkKit
import Derived.Deep.Quiet
set_option linter.unusedSimpArgs false
set_option linter.unusedVariables false
set_option maxRecDepth 100000
set_option maxHeartbeats 8000000
namespace Go.Proofs.YthnimhnlnddnoaaGreatDoor
open Go.RowKit Go.Shelf
theorem exR_len : (exR 38).length = 5 := rfl
def exP (i : Nat) : Bool := decide (-1 ≤ rvD (exR 38) i ∧ rvD (exR 38) i < 5 ∧ rvD (exR 38) i ≠ (i : Int)) && (decide (0 ≤ rvL (exR 38) i ∧ rvL (exR 38) i ≤ 500) && (decide (rvD (exR 38) i = -1 → rvL (exR 38) i = 0) && (decide (0 ≤ rvH (exR 38) i ∧ rvH (exR 38) i ≤ 9000) && (nameB (rvN (exR 38) i) && ((List.range i).all (fun j => !(rvN (exR 38) i).toList == (rvN (exR 38) j).toList) && (decide (rvD (exR 38) (walkR (exR 38) 5 i) = -1) && (decide (rvD (exR 38) i = -1 → i = 0) && (decide (fillR (exR 38) i ≤ 9000) && (belL (exR 38) i).all fun p => decide (p.2 ≤ rvH (exR 38) i)))))))))
theorem ex_tab : ((List.range 5).all exP) = true := by kernel_rfl
theorem ex_at {i : Nat} (hi : i < (exR 38).length) : exP i = true := all_lt ex_tab (by rw [exR_len] at hi; exact hi)
theorem ex_good : RGood (exR 38) := by
 have key : ∀ i, i < (exR 38).length → exP i = true := fun i hi => ex_at hi
 unfold exP at key
 simp only [Bool.and_eq_true, decide_eq_true_eq] at key
 refine ⟨by rw [exR_len]; omega, fun i hi => ?_, fun i hi => (key i hi).2.1, fun i hi => (key i hi).2.2.1, fun i hi => (key i hi).2.2.2.1, fun i hi => (key i hi).2.2.2.2.1, fun i hi j hj h => ?_, fun i k hi hk h1 h2 => ?_, fun i hi => (key i hi).2.2.2.2.2.2.1⟩
 ·have := (key i hi).1
  rw [exR_len]
  exact this
 ·have := all_lt (key i hi).2.2.2.2.2.1 hj
  rw [h] at this
  simp at this
 ·rw [(key i hi).2.2.2.2.2.2.2.1 h1, (key k hk).2.2.2.2.2.2.2.1 h2]
theorem ex_fillR : ∀ i, i < (exR 38).length → fillR (exR 38) i ≤ 9000 := fun i hi => by
 have := ex_at hi
 unfold exP at this
 simp only [Bool.and_eq_true, decide_eq_true_eq] at this
 exact this.2.2.2.2.2.2.2.2.1
theorem ex_carveOK : CarveOK (exR 38) := fun i hi p hp => by
 have := ex_at hi
 unfold exP at this
 simp only [Bool.and_eq_true, decide_eq_true_eq] at this
 have h := List.all_eq_true.1 this.2.2.2.2.2.2.2.2.2 p hp
 simpa using h
theorem ex_lv : lvS (exR 38) 0 = exLv := sortI_eq (List.isPerm_iff.1 (by kernel_rfl)) (of_decide_eq_true (by kernel_rfl))
def rvRow (l : List RvR) : Array Value := (l.flatMap fun p => [Value.string p.name, .int .i64 p.down, .int .i64 p.least, .int .i64 p.hgt]).toArray
theorem rvRow_at : ∀ (l : List RvR) (i : Nat) (x : RvR), l[i]? = some x → (rvRow l)[i * 4]? = some (.string x.name) ∧ (rvRow l)[i * 4 + 1]? = some (.int .i64 x.down) ∧ (rvRow l)[i * 4 + 2]? = some (.int .i64 x.least) ∧ (rvRow l)[i * 4 + 3]? = some (.int .i64 x.hgt)
 | [], i, x, h => by simp at h
 | p :: l, 0, x, h => by
  simp only [List.getElem?_cons_zero, Option.some.injEq] at h
  subst h
  unfold rvRow
  simp
 | p :: l, i + 1, x, h => by
  have := rvRow_at l i x (by simpa using h)
  unfold rvRow at *
  simp only [List.getElem?_toArray, List.flatMap_cons] at this ⊢
  rw [show (i + 1) * 4 = i * 4 + 4 by omega, show i * 4 + 4 + 1 = (i * 4 + 1) + 4 by omega, show i * 4 + 4 + 2 = (i * 4 + 2) + 4 by omega, show i * 4 + 4 + 3 = (i * 4 + 3) + 4 by omega]
  simpa using this
theorem rv_lit {w : World} {g n : Nat} {T : TypeId} (l : List RvR) (hn : l.length = n) (hl : n ≤ 1000) (h : w.heap[g]? = some (.cells (rvRow l) T)) : Rd RvAt 4 w.heap.size w (.slice (some ⟨g, 0, none⟩) n n) l := by
 subst hn
 refine ⟨_, _, rfl, Nat.le_refl _, by omega, fun i x hx => ⟨_, rfl, lt_of_block h, ?_⟩⟩
 obtain ⟨h0, h1, h2, h3⟩ := rvRow_at l i x hx
 have ha : (⟨g, 0, none⟩ : Addr).add (i * 4) = ⟨g, i * 4, none⟩ := by unfold Addr.add; split <;> simp_all
 rw [ha]
 exact ⟨cellOf h _ h0, cellOf h _ h1, cellOf h _ h2, cellOf h _ h3⟩
theorem rivers_any (w : World) : Calls Tryz.prog 36 #[.int .i64 38] w fun e w' => ∃ g, e = .returned (.slice (some ⟨g, 0, none⟩) 5 5) ∧ w'.heap[g]? = some (.cells (rvRow (exR 38)) 51) ∧ Below w.heap.size w w' := by
 obtain ⟨W1, hW1, r1, z1, d1⟩ := box_any w (rvRow (exR 38)) 51
 have HW := Lib.hid hW1
 have HR := Lib.hid r1
 have HB := Lib.hid d1
 clear hW1 r1 z1 d1
 go_enter Tryz.func36, Tryz.ntmps36
 go_wp2
 go_ret
 exact ⟨w.heap.size, rfl, heap_alloc_new _ _, (Below.refl _ _).alloc (Nat.le_refl _) _⟩
end Go.Proofs.YthnimhnlnddnoaaGreatDoor
namespace Go.Proofs.YthnimhnlnddnoaaGreatDoor
open Go.RowKit Go.Shelf
def exZ : List RvR := [⟨nm [97], 1, 0, 0⟩, ⟨nm [98], 0, 0, 0⟩]
def ezP (i : Nat) : Bool := decide (-1 ≤ rvD exZ i ∧ rvD exZ i < 2 ∧ rvD exZ i ≠ (i : Int)) && (decide (0 ≤ rvL exZ i ∧ rvL exZ i ≤ 500) && (decide (rvD exZ i ≠ -1) && (decide (0 ≤ rvH exZ i ∧ rvH exZ i ≤ 9000) && (nameB (rvN exZ i) && (List.range i).all (fun j => !(rvN exZ i).toList == (rvN exZ j).toList)))))
theorem ez_tab : ((List.range 2).all ezP) = true := by kernel_rfl
theorem ez_at {i : Nat} (hi : i < exZ.length) : ezP i = true := all_lt ez_tab (by rw [show exZ.length = 2 from rfl] at hi; exact hi)
theorem ez_loc : RLoc exZ := by
 have key : ∀ i, i < exZ.length → ezP i = true := fun i hi => ez_at hi
 unfold ezP at key
 simp only [Bool.and_eq_true, decide_eq_true_eq] at key
 refine ⟨by rw [show exZ.length = 2 from rfl]; omega, fun i hi => ?_, fun i hi => (key i hi).2.1, fun i hi h => absurd h (key i hi).2.2.1, fun i hi => (key i hi).2.2.2.1, fun i hi => (key i hi).2.2.2.2.1, fun i hi j hj h => ?_, fun i k hi hk h1 h2 => absurd h1 (key i hi).2.2.1⟩
 ·have := (key i hi).1
  rw [show exZ.length = 2 from rfl]
  exact this
 ·have := all_lt (key i hi).2.2.2.2.2 hj
  rw [h] at this
  simp at this
theorem ex_few2 : listF 2 = [1] := by kernel_rfl
theorem rawake_any (w : World) (hd : DbT w) : Calls Tryz.prog 6 #[] w fun e w' => e = .returned (.bool true) ∧ Below w.heap.size w w' := by
 have HR := Lib.hid (rivers_any w)
 go_enter Tryz.func6, Tryz.ntmps6
 go_upto_region 2 with (go_at_call 36; refine HR.out.mono ?_; rintro e w1 ⟨g, rfl, hrow, hb1⟩)
 have hS : Rd RvAt 4 w1.heap.size w1 (.slice (some ⟨g, 0, none⟩) 5 5) (exR 38) := rv_lit (exR 38) rfl (by omega) hrow
 have HS := Lib.hid (fun (X : World) (hb : Below w1.heap.size w1 X) => hS.below hb)
 have HD := Lib.hid (hd.below hb1)
 have HB1 := Lib.hid hb1
 clear hrow hS hb1 hd HR
 have HX1 := Lib.hid (Below.refl w1.heap.size w1)
 have HC2 := Lib.hid (rbad_any (HS.out w1 HX1.out) ex_good HX1.out.size)
 unfold OwnRes at HC2
 rw [ex_bad] at HC2
 go_upto_region 3 with (go_at_call 11; refine HC2.out.mono ?_; rintro e w2 ⟨A2, c2, rfl, ho2, hb2⟩)
 have HB2 := Lib.hid (HB1.out.trans (hb2.mono HB1.out.size))
 have HX2 := Lib.hid (HX1.out.trans (hb2.mono HX1.out.size))
 have HO2 := Lib.hid ho2
 clear hb2 ho2 HC2
 have HC3 := Lib.hid (rpoured_any (i := 3) (HS.out w2 HX2.out) ex_good (by rw [exR_len]; omega) HX2.out.size)
 unfold OwnRes at HC3
 rw [ex_poured] at HC3
 go_upto_region 4 with (go_at_call 37; refine HC3.out.mono ?_; rintro e w3 ⟨A3, c3, rfl, ho3, hb3⟩)
 have HB3 := Lib.hid (HB2.out.trans (hb3.mono HB2.out.size))
 have HX3 := Lib.hid (HX2.out.trans (hb3.mono HX2.out.size))
 replace HO2 := Lib.hid (HO2.out.below hb3)
 have HO3 := Lib.hid ho3
 clear hb3 ho3 HC3
 have HC4 := Lib.hid (rfill_any (HS.out w3 HX3.out) ex_good ex_fillR HX3.out.size)
 unfold OwnRes at HC4
 rw [ex_fill] at HC4
 go_upto_region 5 with (go_at_call 13; refine HC4.out.mono ?_; rintro e w4 ⟨A4, c4, rfl, ho4, hb4⟩)
 have HB4 := Lib.hid (HB3.out.trans (hb4.mono HB3.out.size))
 have HX4 := Lib.hid (HX3.out.trans (hb4.mono HX3.out.size))
 replace HO2 := Lib.hid (HO2.out.below hb4)
 replace HO3 := Lib.hid (HO3.out.below hb4)
 have HO4 := Lib.hid ho4
 clear hb4 ho4 HC4
 have HC5 := Lib.hid (rcarve_any (HS.out w4 HX4.out) ex_good ex_carveOK HX4.out.size)
 unfold OwnRes at HC5
 rw [ex_carve] at HC5
 go_upto_region 6 with (go_at_call 14; refine HC5.out.mono ?_; rintro e w5 ⟨A5, c5, rfl, ho5, hb5⟩)
 have HB5 := Lib.hid (HB4.out.trans (hb5.mono HB4.out.size))
 have HX5 := Lib.hid (HX4.out.trans (hb5.mono HX4.out.size))
 replace HO2 := Lib.hid (HO2.out.below hb5)
 replace HO3 := Lib.hid (HO3.out.below hb5)
 replace HO4 := Lib.hid (HO4.out.below hb5)
 have HO5 := Lib.hid ho5
 clear hb5 ho5 HC5
 have HC6 := Lib.hid (rfewest_any (HS.out w5 HX5.out) ex_good HX5.out.size (HD.out.below HX5.out))
 unfold OwnRes at HC6
 rw [ex_few] at HC6
 go_upto_region 7 with (go_at_call 15; refine HC6.out.mono ?_; rintro e w6 ⟨A6, c6, rfl, ho6, hb6⟩)
 have HB6 := Lib.hid (HB5.out.trans (hb6.mono HB5.out.size))
 have HX6 := Lib.hid (HX5.out.trans (hb6.mono HX5.out.size))
 replace HO2 := Lib.hid (HO2.out.below hb6)
 replace HO3 := Lib.hid (HO3.out.below hb6)
 replace HO4 := Lib.hid (HO4.out.below hb6)
 replace HO5 := Lib.hid (HO5.out.below hb6)
 have HO6 := Lib.hid ho6
 clear hb6 ho6 HC6
 have HC7 := Lib.hid (rmust_any (HS.out w6 HX6.out) ex_good HX6.out.size (HD.out.below HX6.out))
 rw [ex_must] at HC7
 simp only [show listF 2 = [1] from ex_few2] at HC7
 go_upto_region 8 with (go_at_call 38; refine HC7.out.mono ?_; rintro e w7 ⟨A7, c7, A70, c70, rfl, ho7, ho70, hb7⟩)
 have HB7 := Lib.hid (HB6.out.trans (hb7.mono HB6.out.size))
 have HX7 := Lib.hid (HX6.out.trans (hb7.mono HX6.out.size))
 replace HO2 := Lib.hid (HO2.out.below hb7)
 replace HO3 := Lib.hid (HO3.out.below hb7)
 replace HO4 := Lib.hid (HO4.out.below hb7)
 replace HO5 := Lib.hid (HO5.out.below hb7)
 replace HO6 := Lib.hid (HO6.out.below hb7)
 have HO7 := Lib.hid ho7
 have HO70 := Lib.hid ho70
 clear hb7 ho7 ho70 HC7
 have HC8 := Lib.hid (rproof_any (HS.out w7 HX7.out) ex_good HX7.out.size (HD.out.below HX7.out))
 unfold OwnRes at HC8
 rw [ex_proof] at HC8
 go_upto_region 9 with (go_at_call 39; refine HC8.out.mono ?_; rintro e w8 ⟨A8, c8, rfl, ho8, hb8⟩)
 have HB8 := Lib.hid (HB7.out.trans (hb8.mono HB7.out.size))
 have HX8 := Lib.hid (HX7.out.trans (hb8.mono HX7.out.size))
 replace HO2 := Lib.hid (HO2.out.below hb8)
 replace HO3 := Lib.hid (HO3.out.below hb8)
 replace HO4 := Lib.hid (HO4.out.below hb8)
 replace HO5 := Lib.hid (HO5.out.below hb8)
 replace HO6 := Lib.hid (HO6.out.below hb8)
 replace HO7 := Lib.hid (HO7.out.below hb8)
 replace HO70 := Lib.hid (HO70.out.below hb8)
 have HO8 := Lib.hid ho8
 clear hb8 ho8 HC8
 have HC9 := Lib.hid (rleast_any (tn := 0) (HS.out w8 HX8.out) ex_good HX8.out.size (by rw [exR_len]; omega) (by kernel_rfl))
 rw [ex_lv, ex_cost, exR_len, ex_least] at HC9
 go_upto_region 10 with (go_at_call 40; refine HC9.out.mono ?_; rintro e w9 ⟨A9, c9, rfl, ho9, hb9⟩)
 have HB9 := Lib.hid (HB8.out.trans (hb9.mono HB8.out.size))
 have HX9 := Lib.hid (HX8.out.trans (hb9.mono HX8.out.size))
 replace HO2 := Lib.hid (HO2.out.below hb9)
 replace HO3 := Lib.hid (HO3.out.below hb9)
 replace HO4 := Lib.hid (HO4.out.below hb9)
 replace HO5 := Lib.hid (HO5.out.below hb9)
 replace HO6 := Lib.hid (HO6.out.below hb9)
 replace HO7 := Lib.hid (HO7.out.below hb9)
 replace HO70 := Lib.hid (HO70.out.below hb9)
 replace HO8 := Lib.hid (HO8.out.below hb9)
 have HO9 := Lib.hid ho9
 clear hb9 ho9 HC9
 obtain ⟨W, hW, r0, z0, d0⟩ := box_any w9 (rvRow exZ) 51
 have HC := Lib.hid (rvcheck_any (w := W) (rv_lit exZ (n := 2) rfl (by omega) r0) ez_loc (fun h => absurd rfl h) (Nat.le_refl _))
 have HBW := Lib.hid (HB9.out.trans (d0.mono HB9.out.size))
 replace HO2 := Lib.hid (HO2.out.below d0)
 replace HO3 := Lib.hid (HO3.out.below d0)
 replace HO4 := Lib.hid (HO4.out.below d0)
 replace HO5 := Lib.hid (HO5.out.below d0)
 replace HO6 := Lib.hid (HO6.out.below d0)
 replace HO7 := Lib.hid (HO7.out.below d0)
 replace HO70 := Lib.hid (HO70.out.below d0)
 replace HO8 := Lib.hid (HO8.out.below d0)
 replace HO9 := Lib.hid (HO9.out.below d0)
 rw [show ckP (mouR exZ exZ.length) = 3 from rfl, show ckE (mouR exZ exZ.length) = 8 from rfl] at HC
 have hrw : W = w9.alloc (.cells #[.string ⟨#[97]⟩, .int .i64 1, .int .i64 0, .int .i64 0, .string ⟨#[98]⟩, .int .i64 0, .int .i64 0, .int .i64 0] 51) := hW
 have HRW := Lib.hid hrw
 clear hW r0 z0 d0 hrw
 go_upto_region 11 with (go_at_call 41; rw [← HRW.out]; refine HC.out.mono ?_; rintro e w10 ⟨rfl, hb10⟩)
 have HBF := Lib.hid (HBW.out.trans (hb10.mono HBW.out.size))
 have hr2 := (HO2.out.below hb10).rd
 have hr3 := (HO3.out.below hb10).rd
 have hr4 := (HO4.out.below hb10).rd
 have hr5 := (HO5.out.below hb10).rd
 have hr6 := (HO6.out.below hb10).rd
 have hr7 := (HO7.out.below hb10).rd
 have hr70 := (HO70.out.below hb10).rd
 have hr8 := (HO8.out.below hb10).rd
 have hr9 := (HO9.out.below hb10).rd
 have HQ2 := Lib.hid (fun (X : World) (gg0 : Nat) (hb : Below w10.heap.size w10 X) (hg : X.heap[gg0]? = some (.cells #[.int .i64 2, .int .i64 4] 3)) => ints_lit (X := X) (rdX hr2 hb) rfl (by simp) rfl hg)
 have HQ3 := Lib.hid (fun (X : World) (gg0 : Nat) (hb : Below w10.heap.size w10 X) (hg : X.heap[gg0]? = some (.cells #[.int .i64 3, .int .i64 2] 3)) => ints_lit (X := X) (rdX hr3 hb) rfl (by simp) rfl hg)
 have HQ4 := Lib.hid (fun (X : World) (gg0 : Nat) (hb : Below w10.heap.size w10 X) (hg : X.heap[gg0]? = some (.cells #[.int .i64 0, .int .i64 40, .int .i64 50, .int .i64 70, .int .i64 40] 3)) => ints_lit (X := X) (rdX hr4 hb) rfl (by simp) rfl hg)
 have HQ5 := Lib.hid (fun (X : World) (gg0 : Nat) (hb : Below w10.heap.size w10 X) (hg : X.heap[gg0]? = some (.cells #[.int .i64 0, .int .i64 35, .int .i64 45, .int .i64 70, .int .i64 38] 3)) => ints_lit (X := X) (rdX hr5 hb) rfl (by simp) rfl hg)
 have HQ6 := Lib.hid (fun (X : World) (gg0 : Nat) (hb : Below w10.heap.size w10 X) (hg : X.heap[gg0]? = some (.cells #[.int .i64 1] 3)) => ints_lit (X := X) (rdX hr6 hb) rfl (by simp) rfl hg)
 have HQ7 := Lib.hid (fun (X : World) (gg0 : Nat) (hb : Below w10.heap.size w10 X) (hg : X.heap[gg0]? = some (.cells #[.int .i64 1] 3)) => ints_lit (X := X) (rdX hr7 hb) rfl (by simp) rfl hg)
 have HQ70 := Lib.hid (fun (X : World) (gg0 : Nat) (hb : Below w10.heap.size w10 X) (hg : X.heap[gg0]? = some (.cells #[.int .i64 1] 3)) => ints_lit (X := X) (rdX hr70 hb) rfl (by simp) rfl hg)
 have HQ8 := Lib.hid (fun (X : World) (gg0 : Nat) (hb : Below w10.heap.size w10 X) (hg : X.heap[gg0]? = some (.cells #[.int .i64 0, .int .i64 1, .int .i64 1, .int .i64 2, .int .i64 3] 3)) => ints_lit (X := X) (rdX hr8 hb) rfl (by simp) rfl hg)
 have HQ9 := Lib.hid (fun (X : World) (gg0 : Nat) (hb : Below w10.heap.size w10 X) (hg : X.heap[gg0]? = some (.cells #[.int .i64 0, .int .i64 35, .int .i64 45, .int .i64 70, .int .i64 38] 3)) => ints_lit (X := X) (rdX hr9 hb) rfl (by simp) rfl hg)
 clear hr2 hr3 hr4 hr5 hr6 hr7 hr70 hr8 hr9
 clear HO2 HO3 HO4 HO5 HO6 HO7 HO70 HO8 HO9 hb10
 have hbc := Below.refl w10.heap.size w10
 go_wp2_with (first | (go_at_call 16; with_reducible refine Calls.mono (HQ2.out _ _ (hbc.alloc hbc.size _) (heap_alloc_new _ _)) ?_; rintro e wz ⟨rfl, hbz⟩; replace hbc := (hbc.alloc hbc.size _).trans (hbz.mono (Nat.le_trans hbc.size (Nat.le_trans (by simp) (Nat.le_refl _)))); clear hbz) | (go_at_call 16; with_reducible refine Calls.mono (HQ3.out _ _ (hbc.alloc hbc.size _) (heap_alloc_new _ _)) ?_; rintro e wz ⟨rfl, hbz⟩; replace hbc := (hbc.alloc hbc.size _).trans (hbz.mono (Nat.le_trans hbc.size (Nat.le_trans (by simp) (Nat.le_refl _)))); clear hbz) | (go_at_call 16; with_reducible refine Calls.mono (HQ4.out _ _ (hbc.alloc hbc.size _) (heap_alloc_new _ _)) ?_; rintro e wz ⟨rfl, hbz⟩; replace hbc := (hbc.alloc hbc.size _).trans (hbz.mono (Nat.le_trans hbc.size (Nat.le_trans (by simp) (Nat.le_refl _)))); clear hbz) | (go_at_call 16; with_reducible refine Calls.mono (HQ5.out _ _ (hbc.alloc hbc.size _) (heap_alloc_new _ _)) ?_; rintro e wz ⟨rfl, hbz⟩; replace hbc := (hbc.alloc hbc.size _).trans (hbz.mono (Nat.le_trans hbc.size (Nat.le_trans (by simp) (Nat.le_refl _)))); clear hbz) | (go_at_call 16; with_reducible refine Calls.mono (HQ6.out _ _ (hbc.alloc hbc.size _) (heap_alloc_new _ _)) ?_; rintro e wz ⟨rfl, hbz⟩; replace hbc := (hbc.alloc hbc.size _).trans (hbz.mono (Nat.le_trans hbc.size (Nat.le_trans (by simp) (Nat.le_refl _)))); clear hbz) | (go_at_call 16; with_reducible refine Calls.mono (HQ7.out _ _ (hbc.alloc hbc.size _) (heap_alloc_new _ _)) ?_; rintro e wz ⟨rfl, hbz⟩; replace hbc := (hbc.alloc hbc.size _).trans (hbz.mono (Nat.le_trans hbc.size (Nat.le_trans (by simp) (Nat.le_refl _)))); clear hbz) | (go_at_call 16; with_reducible refine Calls.mono (HQ70.out _ _ (hbc.alloc hbc.size _) (heap_alloc_new _ _)) ?_; rintro e wz ⟨rfl, hbz⟩; replace hbc := (hbc.alloc hbc.size _).trans (hbz.mono (Nat.le_trans hbc.size (Nat.le_trans (by simp) (Nat.le_refl _)))); clear hbz) | (go_at_call 16; with_reducible refine Calls.mono (HQ8.out _ _ (hbc.alloc hbc.size _) (heap_alloc_new _ _)) ?_; rintro e wz ⟨rfl, hbz⟩; replace hbc := (hbc.alloc hbc.size _).trans (hbz.mono (Nat.le_trans hbc.size (Nat.le_trans (by simp) (Nat.le_refl _)))); clear hbz) | (go_at_call 16; with_reducible refine Calls.mono (HQ9.out _ _ (hbc.alloc hbc.size _) (heap_alloc_new _ _)) ?_; rintro e wz ⟨rfl, hbz⟩; replace hbc := (hbc.alloc hbc.size _).trans (hbz.mono (Nat.le_trans hbc.size (Nat.le_trans (by simp) (Nat.le_refl _)))); clear hbz))
 go_ret
 exact ⟨rfl, HBF.out.trans (hbc.mono HBF.out.size)⟩
end Go.Proofs.YthnimhnlnddnoaaGreatDoor
