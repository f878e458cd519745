/- Parts of the proof of TpP: RwH, RwC, Val, RwD. -/
import Derived.Test.YthnimhnlnddnoaaGreatDoorH7
import Derived.Test.YthnimhnlnddnoaaGreatDoorH3
import Derived.Test.YthnimhnlnddnoaaGreatDoorH6
import Derived.WalkMore
import Derived.WalkKit
import Derived.Deep.Quiet
import Derived.Test.YthnimhnlnddnoaaGreatDoorH4
set_option linter.unusedSimpArgs false
set_option linter.unusedVariables false
set_option maxRecDepth 100000
set_option maxHeartbeats 8000000
namespace Go.Proofs.YthnimhnlnddnoaaGreatDoor
open Go.RowKit
theorem rin_any (a b c : Int) (w : World) : Calls Tryz.prog 17 #[.int .i64 a, .int .i64 b, .int .i64 c] w fun e w' => e = .returned (.bool (decide (b ≤ a) && decide (a ≤ c))) ∧ w' = w := by
 by_cases h1 : b ≤ a
 ·go_enter Tryz.func17, Tryz.ntmps17
  go_wp2
  go_ret
  exact ⟨by simp [h1], rfl⟩
 ·go_enter Tryz.func17, Tryz.ntmps17
  go_wp2
  go_ret
  exact ⟨by simp; omega, rfl⟩
def pointE (r : List RvR) (i : Nat) : Int :=
 if (decide (0 ≤ rvL r i) && decide (rvL r i ≤ 500)) = false ∨ (decide (0 ≤ rvH r i) && decide (rvH r i ≤ 9000)) = false then 7
 else if (decide (-1 ≤ rvD r i) && decide (rvD r i ≤ (r.length : Int) - 1)) = false then 4
 else if rvD r i = i ∨ rvD r i = -1 ∧ rvL r i ≠ 0 then 2 else 0
theorem rpoint_any {B : Nat} {w : World} {v : Value} {r : List RvR} {i : Nat} (hs : Rd RvAt 4 B w v r) (hi : i < r.length) (h9 : r.length ≤ 9) :
  Calls Tryz.prog 19 #[v, .int .i64 i] w fun e w' => e = .returned (.int .i64 (pointE r i)) ∧ Below w.heap.size w w' := by
 obtain ⟨A, cap, rfl, _⟩ := id hs
 obtain ⟨ad, rfl, _, n0, n1, n2, n3⟩ := hs.rv hi
 have hP : pointE r i = if (decide (0 ≤ rvL r i) && decide (rvL r i ≤ 500)) = false ∨ (decide (0 ≤ rvH r i) && decide (rvH r i ≤ 9000)) = false then 7
  else if (decide (-1 ≤ rvD r i) && decide (rvD r i ≤ (r.length : Int) - 1)) = false then 4
  else if rvD r i = i ∨ rvD r i = -1 ∧ rvL r i ≠ 0 then 2 else 0 := rfl
 unfold rvL rvH rvD at hP
 clear hs
 generalize r.getD i default = px at *
 obtain ⟨nm, dn, ls, hg⟩ := px
 simp only at n0 n1 n2 n3 hP
 obtain ⟨W1, hW1, r1, z1, d1⟩ := box_any w #[.string nm, .int .i64 dn, .int .i64 ls, .int .i64 hg] 51
 have m1 := cellOf r1 1 (v := .int .i64 dn) rfl
 have m2 := cellOf r1 2 (v := .int .i64 ls) rfl
 have m3 := cellOf r1 3 (v := .int .i64 hg) rfl
 have HB := Lib.hid d1
 have H1 := Lib.hid (rin_any ls 0 500 W1)
 have H2 := Lib.hid (rin_any hg 0 9000 W1)
 have H3 := Lib.hid (rin_any dn (-1) ((r.length : Int) - 1) W1)
 clear r1 z1 d1
 generalize hb1 : (decide (0 ≤ ls) && decide (ls ≤ 500)) = b1 at *
 generalize hb2 : (decide (0 ≤ hg) && decide (hg ≤ 9000)) = b2 at *
 generalize hb3 : (decide (-1 ≤ dn) && decide (dn ≤ (r.length : Int) - 1)) = b3 at *
 clear hb1 hb2 hb3
 cases b1 with
 | false =>
  have HR := Lib.hid (hP.trans (if_pos (.inl rfl)))
  clear hP
  go_enter Tryz.func19, Tryz.ntmps19
  go_upto_region 2 with (fail)
  rw [← hW1]
  clear hW1 n0 n1 n2 n3
  go_wp2_with (go_at_call 17; refine H1.out.mono ?_; rintro e w' ⟨rfl, rfl⟩)
  go_ret
  exact ⟨ret_int HR.out.symm, HB.out⟩
 | true =>
  cases b2 with
  | false =>
   have HR := Lib.hid (hP.trans (if_pos (.inr rfl)))
   clear hP
   go_enter Tryz.func19, Tryz.ntmps19
   go_upto_region 2 with (fail)
   rw [← hW1]
   clear hW1 n0 n1 n2 n3
   go_wp2_with (first | (go_at_call 17; with_reducible refine Calls.mono H1.out ?_; rintro e w' ⟨rfl, rfl⟩) | (go_at_call 17; with_reducible refine Calls.mono H2.out ?_; rintro e w' ⟨rfl, rfl⟩))
   go_ret
   exact ⟨ret_int HR.out.symm, HB.out⟩
  | true =>
   cases b3 with
   | false =>
    have HR := Lib.hid (hP.trans ((if_neg (by simp)).trans (if_pos rfl)))
    clear hP
    go_enter Tryz.func19, Tryz.ntmps19
    go_upto_region 2 with (fail)
    rw [← hW1]
    clear hW1 n0 n1 n2 n3
    go_wp2_with (first | (go_at_call 17; with_reducible refine Calls.mono H1.out ?_; rintro e w' ⟨rfl, rfl⟩) | (go_at_call 17; with_reducible refine Calls.mono H2.out ?_; rintro e w' ⟨rfl, rfl⟩) | (go_at_call 17; with_reducible refine Calls.mono H3.out ?_; rintro e w' ⟨rfl, rfl⟩))
    go_ret
    exact ⟨ret_int HR.out.symm, HB.out⟩
   | true =>
    have hP2 := hP.trans ((if_neg (by simp)).trans (if_neg (by simp)))
    clear hP
    by_cases t1 : dn = i
    ·have HR := Lib.hid (hP2.trans (if_pos (.inl t1)))
     have q1 : (dn == (i : Int)) = true := by simp [t1]
     clear hP2 t1
     go_enter Tryz.func19, Tryz.ntmps19
     go_upto_region 2 with (fail)
     rw [← hW1]
     clear hW1 n0 n1 n2 n3
     go_wp2_with (first | (go_at_call 17; with_reducible refine Calls.mono H1.out ?_; rintro e w' ⟨rfl, rfl⟩) | (go_at_call 17; with_reducible refine Calls.mono H2.out ?_; rintro e w' ⟨rfl, rfl⟩) | (go_at_call 17; with_reducible refine Calls.mono H3.out ?_; rintro e w' ⟨rfl, rfl⟩))
     go_ret
     exact ⟨ret_int HR.out.symm, HB.out⟩
    ·have q1 : (dn == (i : Int)) = false := by simp [t1]
     by_cases t2 : dn = -1
     ·have q2 : (dn == -1) = true := by simp [t2]
      by_cases t3 : ls = 0
      ·have HR := Lib.hid (hP2.trans (if_neg (by intro h; rcases h with h | h; exact t1 h; exact h.2 t3)))
       have q3 : (ls != 0) = false := by simp [t3]
       clear hP2 t1 t2 t3
       go_enter Tryz.func19, Tryz.ntmps19
       go_upto_region 2 with (fail)
       rw [← hW1]
       clear hW1 n0 n1 n2 n3
       go_wp2_with (first | (go_at_call 17; with_reducible refine Calls.mono H1.out ?_; rintro e w' ⟨rfl, rfl⟩) | (go_at_call 17; with_reducible refine Calls.mono H2.out ?_; rintro e w' ⟨rfl, rfl⟩) | (go_at_call 17; with_reducible refine Calls.mono H3.out ?_; rintro e w' ⟨rfl, rfl⟩))
       go_ret
       exact ⟨ret_int HR.out.symm, HB.out⟩
      ·have HR := Lib.hid (hP2.trans (if_pos (.inr ⟨t2, t3⟩)))
       have q3 : (ls != 0) = true := by simp [t3]
       clear hP2 t1 t2 t3
       go_enter Tryz.func19, Tryz.ntmps19
       go_upto_region 2 with (fail)
       rw [← hW1]
       clear hW1 n0 n1 n2 n3
       go_wp2_with (first | (go_at_call 17; with_reducible refine Calls.mono H1.out ?_; rintro e w' ⟨rfl, rfl⟩) | (go_at_call 17; with_reducible refine Calls.mono H2.out ?_; rintro e w' ⟨rfl, rfl⟩) | (go_at_call 17; with_reducible refine Calls.mono H3.out ?_; rintro e w' ⟨rfl, rfl⟩))
       go_ret
       exact ⟨ret_int HR.out.symm, HB.out⟩
     ·have HR := Lib.hid (hP2.trans (if_neg (by intro h; rcases h with h | h; exact t1 h; exact t2 h.1)))
      have q2 : (dn == -1) = false := by simp [t2]
      clear hP2 t1 t2
      go_enter Tryz.func19, Tryz.ntmps19
      go_upto_region 2 with (fail)
      rw [← hW1]
      clear hW1 n0 n1 n2 n3
      go_wp2_with (first | (go_at_call 17; with_reducible refine Calls.mono H1.out ?_; rintro e w' ⟨rfl, rfl⟩) | (go_at_call 17; with_reducible refine Calls.mono H2.out ?_; rintro e w' ⟨rfl, rfl⟩) | (go_at_call 17; with_reducible refine Calls.mono H3.out ?_; rintro e w' ⟨rfl, rfl⟩))
      go_ret
      exact ⟨ret_int HR.out.symm, HB.out⟩
theorem inside_any1 (a lo hi : Int) (w : World) : Calls Tryz.prog 10 #[.int .i64 a, .agg #[.int .i64 lo, .int .i64 hi]] w fun e w' => e = .returned (.bool (inB a lo hi)) ∧ Below w.heap.size w w' := by
 obtain ⟨W1, hW1, r1, z1, d1⟩ := box_any w #[.int .i64 lo, .int .i64 hi] 42
 have m0 := cellOf r1 0 (v := .int .i64 lo) rfl
 have m1 := cellOf r1 1 (v := .int .i64 hi) rfl
 have HB := Lib.hid d1
 have H1 := Lib.hid (in_any a lo hi W1)
 clear r1 z1 d1
 go_enter Tryz.func10, Tryz.ntmps10
 go_upto_region 1 with (fail)
 rw [← hW1]
 clear hW1
 go_wp2_with (go_at_call 45; refine H1.out.mono ?_; rintro e w' ⟨rfl, rfl⟩)
 go_ret
 exact ⟨rfl, HB.out⟩
end Go.Proofs.YthnimhnlnddnoaaGreatDoor
namespace Go.Proofs.YthnimhnlnddnoaaGreatDoor
open Go.RowKit
def nmsR (r : List RvR) (k : Nat) : List ByteArray := (r.take k).map (·.name)
theorem nmsR_succ {r : List RvR} {k : Nat} (hk : k < r.length) : nmsR r (k + 1) = nmsR r k ++ [rvN r k] := by
 unfold nmsR rvN
 rw [List.take_succ_eq_append_getElem hk, List.map_append, List.getD_eq_getElem?_getD, List.getElem?_eq_getElem hk]
 rfl
theorem nmsR_len {r : List RvR} {k : Nat} (hk : k ≤ r.length) : (nmsR r k).length = k := by unfold nmsR; simp; omega
theorem nmsR_mem {r : List RvR} {i k : Nat} (hk : k ≤ r.length) (hi : i < k) : rvN r i ∈ nmsR r k := by
 unfold nmsR rvN
 rw [List.mem_map]
 refine ⟨r.getD i default, ?_, rfl⟩
 rw [List.getD_eq_getElem?_getD, List.getElem?_eq_getElem (by omega), Option.getD_some, List.mem_take_iff_getElem]
 exact ⟨i, by omega, rfl⟩
def okP (r : List RvR) (k : Nat) : Prop := ∀ j, j < k → freshErr (rvN r j) (nmsR r j) = 0 ∧ pointE r j = 0
theorem fresh_zero {s : ByteArray} {xs : List ByteArray} (h : freshErr s xs = 0) : nameB s = true ∧ ∀ x ∈ xs, x ≠ s := by
 have hres : freshErr s xs = if nameB s = false then 6 else if (xs.any fun x => x.toList == s.toList) then 5 else 0 := rfl
 rw [hres] at h
 split at h
 ·omega
 ·rename_i h1
  split at h
  ·omega
  ·rename_i h2
   refine ⟨by cases hn : nameB s; exact absurd hn h1; rfl, fun x hx e => h2 ?_⟩
   rw [List.any_eq_true]
   exact ⟨x, hx, by simp [e]⟩
theorem point_zero {r : List RvR} {i : Nat} (h : pointE r i = 0) : (-1 ≤ rvD r i ∧ rvD r i < r.length ∧ rvD r i ≠ (i : Int)) ∧ (0 ≤ rvL r i ∧ rvL r i ≤ 500) ∧ (rvD r i = -1 → rvL r i = 0) ∧ (0 ≤ rvH r i ∧ rvH r i ≤ 9000) := by
 unfold pointE at h
 split at h
 ·omega
 ·rename_i h1
  split at h
  ·omega
  ·rename_i h2
   split at h
   ·omega
   ·rename_i h3
    simp only [Bool.and_eq_false_iff, decide_eq_false_iff_not] at h1 h2
    refine ⟨⟨?_, ?_, fun e => h3 (.inl e)⟩, ⟨?_, ?_⟩, fun e => ?_, ?_, ?_⟩ <;> first | omega | exact Classical.byContradiction fun e2 => h3 (.inr ⟨e, e2⟩)
theorem mou_two {r : List RvR} {i k : Nat} (hik : i < k) (h1 : rvD r i = -1) (h2 : rvD r k = -1) : ∀ n, k < n → 2 ≤ mouR r n
 | 0, h => by omega
 | n + 1, h => by
  rw [mouR_succ]
  by_cases e : n = k
  ·subst e
   rw [if_pos h2]
   have := mouR_pos h1 hik
   omega
  ·have := mou_two hik h1 h2 n (by omega)
   split <;> omega
theorem good_of {r : List RvR} (h9 : 1 ≤ r.length ∧ r.length ≤ 9) (hp : okP r r.length) (hm : mouR r r.length ≤ 1) (he : ∀ i, i < r.length → rvD r (walkR r r.length i) = -1) : RGood r :=
 ⟨h9, fun i hi => (point_zero (hp i hi).2).1, fun i hi => (point_zero (hp i hi).2).2.1, fun i hi => (point_zero (hp i hi).2).2.2.1, fun i hi => (point_zero (hp i hi).2).2.2.2, fun i hi => (fresh_zero (hp i hi).1).1,
  fun i hi j hj h => (fresh_zero (hp i hi).1).2 _ (nmsR_mem (by omega) hj) h,
  fun i k hi hk h1 h2 => by
   rcases Nat.lt_trichotomy i k with h | h | h
   ·have := mou_two h h1 h2 r.length hk; omega
   ·exact h
   ·have := mou_two h h2 h1 r.length hi; omega, he⟩
theorem refcheck_any {B : Nat} {w : World} {v : Value} {r : List RvR} (hs : Rd RvAt 4 B w v r) (hB : B ≤ w.heap.size) (hn : ∀ i, i < r.length → (rvN r i).size ≤ 9223372036854775807) :
  Calls Tryz.prog 4 #[v] w fun e w' => ∃ p i er : Int, e = .returned (.tuple #[.int .i64 p, .int .i64 i, .int .i64 er]) ∧ (er = 0 → RGood r) ∧ Below w.heap.size w w' := by
 obtain ⟨A, cap, rfl, hx1, hx2, _⟩ := id hs
 have HS := Lib.hid hs
 have HN := Lib.hid hn
 have H1 := Lib.hid (show Calls Tryz.prog 17 _ w fun e w' => e = .returned (.bool (decide ((1 : Int) ≤ r.length) && decide ((r.length : Int) ≤ 9))) ∧ w = w' from (rin_any r.length 1 9 w).mono fun _ _ ⟨h1, h2⟩ => ⟨h1, h2.symm⟩)
 clear hs hn
 generalize hb1 : (decide ((1 : Int) ≤ r.length) && decide ((r.length : Int) ≤ 9)) = b1 at *
 cases b1 with
 | false =>
  clear hb1
  go_enter Tryz.func4, Tryz.ntmps4
  go_wp2_with (go_at_call 17; refine H1.out.mono ?_; rintro e w' ⟨rfl, rfl⟩)
  go_ret3
  exact ⟨1, 0, 3, rfl, fun h => by omega, Below.refl _ _⟩
 | true =>
  have hlen : 1 ≤ r.length ∧ r.length ≤ 9 := by simp at hb1; omega
  clear hb1
  go_enter Tryz.func4, Tryz.ntmps4
  go_wp2_with (go_at_call 17; refine H1.out.mono ?_; rintro e w' ⟨rfl, rfl⟩)
  go_loopw [5, 6] (fun nv iv wr => ∃ (k : Nat) (L : Option Addr) (c : Nat), k ≤ r.length ∧ iv = .int .i64 k ∧ nv = .slice L (nmsR r k).length c ∧ Own w.heap.size 9 wr (.slice L (nmsR r k).length c) (nmsR r k) ∧ okP r k ∧ Below w.heap.size w wr) (fun _ iv _ => r.length - (intOf iv).toNat)
  case atStart => exact ⟨0, none, 0, Nat.zero_le _, rfl, rfl, Own.nil _ _ _, fun j hj => absurd hj (by omega), Below.refl _ _⟩
  case round =>
   obtain ⟨k, L, c, hk, rfl, rfl, hown, hok, hb⟩ := hrel
   have HOk := Lib.hid hok
   have HB := Lib.hid hb
   clear hok
   by_cases hlt : k < r.length
   ·have hsz := HN.out k hlt
    have hF := fresh_any (rvN r k) hown.rd hsz
    have HPt := Lib.hid (fun (X : World) (hX : Below w.heap.size w X) => rpoint_any (HS.out.below (hX.mono hB)) hlt hlen.2)
    obtain ⟨ad, rfl, _, n0, n1, n2, n3⟩ := (HS.out.below (hb.mono hB)).rv hlt
    have HNs := Lib.hid (nmsR_succ hlt)
    have HNl := Lib.hid (nmsR_len hk)
    have hE : freshErr (rvN r k) (nmsR r k) = 0 → pointE r k = 0 → okP r (k + 1) := fun h1 h2 j hj => by
     by_cases e : j < k
     ·exact HOk.out j e
     ·obtain rfl : j = k := by omega
      exact ⟨h1, h2⟩
    have HEk := Lib.hid hE
    rw [show rvN r k = (r.getD k default).name from rfl] at hF HNs HEk
    clear hb hE hsz
    generalize r.getD k default = px at *
    obtain ⟨nm, dn, ls, hg⟩ := px
    simp only at n0 n1 n2 n3 HNs hF HEk
    have HF := Lib.hid hF
    clear hF
    generalize freshErr nm (nmsR r k) = fe at *
    generalize pointE r k = pe at *
    obtain ⟨L2, c2, w2, hrun, hown2, hb2, _⟩ := append_str hown nm (by rw [HNl.out]; omega) (HB.out.size)
    have HO2 := Lib.hid hown2
    have HB2 := Lib.hid (HB.out.trans hb2)
    have HP2 := Lib.hid (HPt.out w2 (HB.out.trans hb2))
    have HO0 := Lib.hid hown
    clear hown hown2 hb2 HPt
    by_cases hfe : fe = 0
    ·have q1 : (fe == 0) = true := by simp [hfe]
     by_cases hpe : pe = 0
     ·have q2 : (pe != 0) = false := by simp [hpe]
      have HOk2 := Lib.hid (HEk.out hfe hpe)
      clear hfe hpe
      go_upto_region 8 with (go_at_call 18; refine HF.out.mono ?_; rintro e w' ⟨rfl, rfl⟩)
      go_wp2_with (first | (at_builtin; refine wpList_append_run rfl _ _ _ rfl rfl rfl hrun ?_) | (go_at_call 19; refine HP2.out.mono ?_; rintro e w3 ⟨rfl, hb3⟩))
      go_roundw
      case rel => exact ⟨k + 1, L2, c2, by omega, by go_num, by rw [HNs.out]; simp, by rw [HNs.out]; simpa using HO2.out.below (hb3), HOk2.out, HB2.out.trans (hb3.mono HB2.out.size)⟩
      case measure => simp [intOf]; omega
     ·have q2 : (pe != 0) = true := by simp [hpe]
      have HPe := Lib.hid hpe
      clear hfe hpe
      go_upto_region 8 with (go_at_call 18; refine HF.out.mono ?_; rintro e w' ⟨rfl, rfl⟩)
      go_wp2_with (first | (at_builtin; refine wpList_append_run rfl _ _ _ rfl rfl rfl hrun ?_) | (go_at_call 19; refine HP2.out.mono ?_; rintro e w3 ⟨rfl, hb3⟩))
      go_ret3
      exact ⟨2, k, pe, rfl, fun h => absurd h HPe.out, HB2.out.trans (hb3.mono HB2.out.size)⟩
    ·have q1 : (fe == 0) = false := by simp [hfe]
     have q2 : (fe != 0) = true := by simp [hfe]
     have HFe := Lib.hid hfe
     clear hfe
     go_upto_region 8 with (go_at_call 18; refine HF.out.mono ?_; rintro e w' ⟨rfl, rfl⟩)
     go_wp2_with (at_builtin; refine wpList_append_run rfl _ _ _ rfl rfl rfl hrun ?_)
     go_ret3
     exact ⟨2, k, fe, rfl, fun h => absurd h HFe.out, HB2.out⟩
   ·have hkn : k = r.length := by omega
    subst hkn
    clear hown hb hlt
    go_wp2
    go_loopw [8, 9] (fun mv iv wq => ∃ k : Nat, k ≤ r.length ∧ iv = .int .i64 k ∧ mv = .int .i64 (mouR r k) ∧ mouR r k ≤ 1 ∧ Below w.heap.size w wq) (fun _ iv _ => r.length - (intOf iv).toNat)
    case atStart => exact ⟨0, Nat.zero_le _, rfl, rfl, by simp [mouR], HB.out⟩
    case round =>
     obtain ⟨k, hk, rfl, rfl, hm1, hb⟩ := hrel
     replace HB := Lib.hid hb
     clear hb
     by_cases hlt : k < r.length
     ·obtain ⟨ad, rfl, _, n0, n1, n2, n3⟩ := (HS.out.below (HB.out.mono hB)).rv hlt
      have HMS := Lib.hid (mouR_succ r k)
      rw [show rvD r k = (r.getD k default).down from rfl] at HMS
      generalize r.getD k default = px at *
      obtain ⟨nm, dn, ls, hg⟩ := px
      simp only at n0 n1 n2 n3 HMS
      clear n0 n2 n3
      generalize mouR r k = m at *
      by_cases hd : dn = -1
      ·have q1 : (dn == -1) = true := by simp [hd]
       have HM2 := Lib.hid (HMS.out.trans (if_pos hd))
       clear hd
       by_cases hm : m = 0
       ·have HM3 := Lib.hid (show mouR r (k + 1) = 1 by rw [HM2.out, hm])
        subst hm
        go_wp2
        go_roundw
        case rel => exact ⟨k + 1, by omega, by go_num, by rw [HM3.out]; rfl, by rw [HM3.out]; omega, HB.out⟩
        case measure => simp [intOf]; omega
       ·have hm2 : m = 1 := by omega
        subst hm2
        go_wp2
        go_ret3
        exact ⟨3, k, 2, rfl, fun h => by omega, HB.out⟩
      ·have q1 : (dn == -1) = false := by simp [hd]
       have HM2 := Lib.hid (HMS.out.trans (if_neg hd))
       clear hd
       go_wp2
       go_roundw
       case rel => exact ⟨k + 1, by omega, by go_num, by rw [HM2.out], by rw [HM2.out]; exact hm1, HB.out⟩
       case measure => simp [intOf]; omega
     ·have hkn : k = r.length := by omega
      subst hkn
      clear hlt
      have HM1 := Lib.hid hm1
      by_cases hm : mouR r r.length = 0
      ·have hmi : ((mouR r r.length : Nat) : Int) = 0 := by omega
       have q1 : (((mouR r r.length : Nat) : Int) == 0) = true := by simp [hm]
       generalize ((mouR r r.length : Nat) : Int) = mi at *
       clear hm hmi hm1 HM1
       go_wp2
       go_ret3
       exact ⟨3, 0, 8, rfl, fun h => by omega, HB.out⟩
      ·have q1 : (((mouR r r.length : Nat) : Int) == 0) = false := by simp [hm]
       clear hm hm1
       have HDn := Lib.hid (fun j (hj : j < r.length) => (point_zero (HOk.out j hj).2).1)
       have HW := Lib.hid (show ∀ q i, i < r.length → walkR r q i < r.length from fun q => by
        induction q with
        | zero => exact fun i hi => hi
        | succ q ih =>
         intro i hi
         rw [walk_next]
         have h1 := ih i hi
         unfold stepR
         split
         ·exact h1
         ·have := HDn.out _ h1; omega)
       go_wp2
       clear q1
       go_loopw [10] (fun iv wq => ∃ k : Nat, k ≤ r.length ∧ iv = .int .i64 k ∧ (∀ j, j < k → rvD r (walkR r r.length j) = -1) ∧ Below w.heap.size w wq) (fun iv _ => r.length - (intOf iv).toNat)
       case atStart => exact ⟨0, Nat.zero_le _, rfl, fun j hj => absurd hj (by omega), HB.out⟩
       case round =>
        obtain ⟨k, hk, rfl, hall, hb⟩ := hrel
        replace HB := Lib.hid hb
        clear hb
        have HAll := Lib.hid hall
        clear hall
        by_cases hlt : k < r.length
        ·go_wp2
         go_loopw [11, 12] (fun av sv wq => ∃ q : Nat, q ≤ r.length ∧ sv = .int .i64 q ∧ av = .int .i64 (walkR r q k) ∧ Below w.heap.size w wq) (fun _ sv _ => r.length - (intOf sv).toNat)
         case atStart => exact ⟨0, Nat.zero_le _, rfl, rfl, HB.out⟩
         case round =>
          obtain ⟨q, hq, rfl, rfl, hb⟩ := hrel
          replace HB := Lib.hid hb
          clear hb
          have hp := HW.out q k hlt
          have HNx := Lib.hid (walk_next r q k)
          have HSt := Lib.hid (show rvD r (walkR r q k) = -1 → rvD r (walkR r r.length k) = -1 from fun h => by
           have : ∀ m, walkR r (q + m) k = walkR r q k := fun m => by
            induction m with
            | zero => rfl
            | succ m ih => rw [← Nat.add_assoc, walk_next, ih]; unfold stepR; rw [if_pos h]
           have := this (r.length - q)
           rw [show q + (r.length - q) = r.length by omega] at this
           rw [this]
           exact h)
          have HEn := Lib.hid (show q = r.length → walkR r r.length k = walkR r q k from fun h => by rw [h])
          generalize hpp : walkR r q k = p at *
          clear hpp
          have hdp := HDn.out p hp
          obtain ⟨ad, rfl, _, n0, n1, n2, n3⟩ := (HS.out.below (HB.out.mono hB)).rv hp
          have HRD := Lib.hid (show rvD r p = (r.getD p default).down from rfl)
          rw [HRD.out] at hdp HSt
          have HStp := Lib.hid (show stepR r p = if rvD r p = -1 then p else (rvD r p).toNat from rfl)
          rw [HRD.out] at HStp
          generalize r.getD p default = px at *
          obtain ⟨nm, dn, ls, hg⟩ := px
          simp only at n0 n1 n2 n3 hdp HSt HStp HRD
          clear n0 n2 n3
          by_cases hd : dn = -1
          ·have q1 : (dn != -1) = false := by simp [hd]
           have HOk1 := Lib.hid (HSt.out hd)
           clear hd
           by_cases hql : q < r.length
           ·go_wp2
            go_roundw
            case rel => exact ⟨k + 1, by omega, by go_num, fun j hj => by
             by_cases e : j < k
             ·exact HAll.out j e
             ·obtain rfl : j = k := by omega
              exact HOk1.out, HB.out⟩
            case measure => simp [intOf]; omega
           ·go_wp2
            go_roundw
            case rel => exact ⟨k + 1, by omega, by go_num, fun j hj => by
             by_cases e : j < k
             ·exact HAll.out j e
             ·obtain rfl : j = k := by omega
              exact HOk1.out, HB.out⟩
            case measure => simp [intOf]; omega
          ·have q1 : (dn != -1) = true := by simp [hd]
           have HSn := Lib.hid (HStp.out.trans (if_neg hd))
           clear hd
           by_cases hql : q < r.length
           ·go_wp2
            go_roundw
            case rel => exact ⟨q + 1, by omega, by go_num, by rw [HNx.out, HSn.out, Int.toNat_of_nonneg (by have : (dn != -1) = true := q1; simp at this; omega)], HB.out⟩
            case measure => simp [intOf]; omega
           ·go_wp2
            go_ret3
            exact ⟨3, k, 9, rfl, fun h => by omega, HB.out⟩
        ·have HG := Lib.hid (good_of hlen HOk.out HM1.out (fun i hi => HAll.out i (by omega)))
         go_wp2
         go_ret3
         exact ⟨0, 0, 0, rfl, fun _ => HG.out, HB.out⟩
end Go.Proofs.YthnimhnlnddnoaaGreatDoor
namespace Go.Proofs.YthnimhnlnddnoaaGreatDoor
open Go.RowKit
def U16At (w : World) (a : Addr) (x : Int) : Prop := w.cell? a = some (.int .u16 x)
instance : AtKeep U16At := ⟨fun _ _ a _ h k => (h a rfl).trans k, fun _ _ _ h => ⟨_, h⟩⟩
def turnF (l : List Int) (n : Nat) : Int := l.getD (n % l.length) 0
end Go.Proofs.YthnimhnlnddnoaaGreatDoor
namespace Go.Proofs.YthnimhnlnddnoaaGreatDoor
open Go.RowKit
def dropD (r : List RvR) (tn F f : Nat) (n : Int) : Int := ((belowF r F f n).filter fun p => p.1 == tn).foldl (fun _ p => p.2) (-1)
theorem dropD_hit {r : List RvR} (hg : RGood r) {tn : Nat} (ht : tn < r.length) (F : Nat) (n : Int) : dropD r tn (F + 1) tn n = n := by
 unfold dropD
 have hm : (tn, n) ∈ (belowF r (F + 1) tn n).filter fun p => p.1 == tn := by rw [List.mem_filter]; exact ⟨below_self (by omega), by simp⟩
 rcases foldl_last (fun p : Nat × Int => p.2) ((belowF r (F + 1) tn n).filter fun p => p.1 == tn) (-1) with ⟨_, h1⟩ | ⟨p, hp, h1⟩
 ·rw [h1] at hm
  cases hm
 ·rw [h1]
  rw [List.mem_filter] at hp
  obtain ⟨p1, p2⟩ := p
  have e : p1 = tn := by simpa using hp.2
  subst e
  exact below_one hg _ _ _ ht _ _ _ hp.1 (below_self (by omega))
theorem dropD_next {r : List RvR} {tn f : Nat} (hf : f ≠ tn) (hd : rvD r f ≠ -1) (F : Nat) (n : Int) : dropD r tn (F + 1) f n = dropD r tn F (rvD r f).toNat (n + rvL r f) := by
 unfold dropD
 rw [belowF, if_neg hd, List.filter_cons_of_neg (by simpa using hf)]
theorem dropD_end {r : List RvR} {tn f : Nat} (hf : f ≠ tn) (hd : rvD r f = -1) (F : Nat) (n : Int) : dropD r tn (F + 1) f n = -1 := by
 unfold dropD
 rw [belowF, if_pos hd, List.filter_cons_of_neg (by simpa using hf)]
 rfl
theorem drop_any {B : Nat} {w : World} {v : Value} {r : List RvR} {k tn : Nat} (hs : Rd RvAt 4 B w v r) (hg : RGood r) (hk : k < r.length) (ht : tn < r.length) :
  Calls Tryz.prog 42 #[v, .int .i64 k, .int .i64 tn] w fun e w' => e = .returned (.int .i64 (dropR r k tn)) ∧ Qt w w' := by
 obtain ⟨A, cap, rfl, _⟩ := id hs
 have hlen := hg.len
 have HS := Lib.hid hs
 have HG := Lib.hid hg
 have hd0 : dropR r k tn = dropD r tn (r.length + 1) k 0 := rfl
 obtain ⟨dd, hdd⟩ : ∃ d, d = dropR r k tn := ⟨_, rfl⟩
 rw [← hdd] at hd0 ⊢
 have HD0 := Lib.hid hd0
 clear hs hg hd0 hdd
 go_enter Tryz.func42, Tryz.ntmps42
 go_wp2
 go_loopw [1, 7] (fun fv nv wr => ∃ (s f F : Nat) (n : Int), s + F = r.length ∧ f = walkR r s k ∧ f < r.length ∧ fv = .int .i64 f ∧ nv = .int .i64 n ∧ 0 ≤ n ∧ n ≤ 500 * s ∧ dd = dropD r tn (F + 1) f n ∧ Qt w wr) (fun fv _ _ => depth r (intOf fv).toNat)
 case atStart => exact ⟨0, k, r.length, 0, by omega, rfl, hk, rfl, rfl, by omega, by omega, HD0.out, Qt.refl _⟩
 case round =>
  obtain ⟨s, f, F, n, hsF, hf, hfl, rfl, rfl, hn0, hn1, hdd, hq⟩ := hrel
  have HDd := Lib.hid hdd
  have Hq := Lib.hid hq
  have HF := Lib.hid hf
  have HEn := Lib.hid (show F = 0 → rvD r f = -1 from fun h => by rw [hf, show s = r.length by omega]; exact HG.out.ends k hk)
  clear hdd hf
  by_cases hft : f = tn
  ·have HR := Lib.hid (show dd = n by rw [HDd.out, hft]; exact dropD_hit HG.out ht F n)
   have q1 : ((f : Int) != (tn : Int)) = false := by simp [hft]
   clear hft hq
   go_wp2
   go_ret
   exact ⟨ret_int HR.out.symm, Hq.out⟩
  ·have q1 : ((f : Int) != (tn : Int)) = true := by simp; omega
   have HNe := Lib.hid hft
   obtain ⟨ad, rfl, _, n0, n1, n2, n3⟩ := (HS.out.qt hq).rv hfl
   have hls := HG.out.least f hfl
   have hdn := HG.out.down f hfl
   have hE := fun h => dropD_end (r := r) hft h F n
   have hN := fun h => dropD_next (r := r) hft h F n
   have hE1 := HEn.out
   have HWn := Lib.hid (walk_next r s k)
   have HStp := Lib.hid (show stepR r f = if rvD r f = -1 then f else (rvD r f).toNat from rfl)
   have hdep := fun h => depth_down HG.out hfl h
   rw [show rvD r f = (r.getD f default).down from rfl] at hE hN hE1 hdn HStp hdep
   rw [show rvL r f = (r.getD f default).least from rfl] at hN hls
   generalize r.getD f default = px at *
   obtain ⟨nm, dn, ls, hg4⟩ := px
   simp only at n0 n1 n2 n3 hE hN hE1 hdn HStp hls hdep
   have HE := Lib.hid hE
   have HNn := Lib.hid hN
   have HDp := Lib.hid hdep
   have HE1 := Lib.hid hE1
   clear n0 n3 hE hN hft hq hdep hE1
   by_cases hd : dn = -1
   ·have q2 : (dn == -1) = true := by simp [hd]
    have HR := Lib.hid (HDd.out.trans (HE.out hd))
    clear hd
    go_wp2
    go_ret
    exact ⟨ret_int HR.out.symm, Hq.out⟩
   ·have q2 : (dn == -1) = false := by simp [hd]
    have HR := Lib.hid (HDd.out.trans (HNn.out hd))
    have HSt := Lib.hid (HStp.out.trans (if_neg hd))
    have HDq := Lib.hid (HDp.out hd)
    have hF1 : F ≠ 0 := fun h => hd (HE1.out h)
    obtain ⟨F', hF'⟩ : ∃ m, F = m + 1 := ⟨F - 1, by omega⟩
    have HFF := Lib.hid hF'
    obtain ⟨m, hm⟩ : ∃ m : Nat, dn = m := ⟨dn.toNat, by omega⟩
    have HMm := Lib.hid hm
    clear hd hm hF'
    go_wp2
    go_roundw
    case rel =>
     have hdm : dn.toNat = m := by rw [HMm.out]; rfl
     refine ⟨s + 1, m, F', n + ls, by have := HFF.out; omega, ?_, by have := HMm.out; omega, by rw [HMm.out], rfl, by omega, by omega, ?_, Hq.out⟩
     ·rw [HWn.out, ← HF.out, HSt.out, hdm]
     ·rw [HR.out, HFF.out, hdm]
    case measure =>
     have hdm : dn.toNat = m := by rw [HMm.out]; rfl
     have := HDq.out
     rw [hdm] at this
     rw [HMm.out]
     show depth r m < depth r f
     omega
theorem turn6_any {B : Nat} {w : World} {v : Value} {l : List Int} (n : Nat) (hv : Rd U16At 1 B w v l) (hn : n ≤ 9223372036854775807) (hl : ∀ x ∈ l, 0 ≤ x ∧ x ≤ 65535) :
  Calls Tryz.prog 43 #[v, .int .i64 n] w fun e w' => e = .returned (.int .i64 (turnF l n)) ∧ w' = w := by
 obtain ⟨A, c, rfl, h1, h2, h3⟩ := hv
 cases l with
 | nil =>
  go_enter Tryz.func43, Tryz.ntmps43
  go_wp2
  go_ret
  exact ⟨rfl, rfl⟩
 | cons y r =>
  have hp : 0 < (y :: r).length := by simp
  have hm : n % (y :: r).length < (y :: r).length := Nat.mod_lt _ hp
  obtain ⟨ad, rfl, _, hc⟩ := h3 _ _ (List.getElem?_eq_getElem hm)
  have hx := hl _ (List.getElem_mem hm)
  have hT : turnF (y :: r) n = (y :: r)[n % (y :: r).length] := by unfold turnF; rw [List.getD_eq_getElem?_getD, List.getElem?_eq_getElem hm]; rfl
  rw [hT]
  rw [Nat.mul_one] at hc
  replace hc : w.cell? (ad.add (n % (y :: r).length)) = some (.int .u16 (y :: r)[n % (y :: r).length]) := hc
  clear hT h3 hl
  generalize (y :: r)[n % (y :: r).length] = z at *
  generalize (y :: r).length = len at *
  go_enter Tryz.func43, Tryz.ntmps43
  go_wp2
  go_ret
  exact ⟨rfl, rfl⟩
theorem turnF_nn {l : List Int} (hl : ∀ x ∈ l, 0 ≤ x ∧ x ≤ 65535) (n : Nat) : 0 ≤ turnF l n ∧ turnF l n ≤ 65535 := by
 unfold turnF
 by_cases h : n % l.length < l.length
 ·exact hl _ (getD_mem h 0)
 ·rw [List.getD_eq_getElem?_getD, List.getElem?_eq_none (by omega)]
  exact ⟨Int.le_refl _, by decide⟩
end Go.Proofs.YthnimhnlnddnoaaGreatDoor
