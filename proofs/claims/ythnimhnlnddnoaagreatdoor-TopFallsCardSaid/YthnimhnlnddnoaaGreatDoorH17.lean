/- Parts of the proof of TpP: RvTz, RvZ4, RvZ5, RvZ6. -/
import Derived.Test.YthnimhnlnddnoaaGreatDoorH16
import Derived.Test.YthnimhnlnddnoaaGreatDoorH4
import Derived.Test.YthnimhnlnddnoaaGreatDoorH5
import Derived.Lib.LaidTab
import Derived.WalkKit
import Derived.Deep.Quiet
import Derived.WalkMore
set_option linter.unusedSimpArgs false
set_option linter.unusedVariables false
set_option maxRecDepth 100000
set_option maxHeartbeats 8000000
namespace Go.Proofs.YthnimhnlnddnoaaGreatDoor
open Go.RowKit
def tab64 : List Int := [0,1,56,2,57,49,28,3,61,58,42,50,38,29,17,4,62,47,59,36,45,43,51,22,53,39,33,30,24,18,12,5,63,55,48,27,60,41,37,16,46,35,44,21,52,32,23,11,54,26,40,15,34,20,31,10,25,14,19,9,13,8,7,6]
def DbT (w : World) : Prop := Lib.TabIs Tryz.prog w "math/bits.deBruijn64tab" .u8 tab64
theorem DbT.below {w w' : World} (h : DbT w) (hb : Below w.heap.size w w') : DbT w' := var_below h hb
def o1 (s : Nat) : Int := IntKind.u64.wrap (bits .and .u64 ((s : Int) / 2) 6148914691236517205 + bits .and .u64 (s : Int) 6148914691236517205)
def o2 (s : Nat) : Int := IntKind.u64.wrap (bits .and .u64 (o1 s / 4) 3689348814741910323 + bits .and .u64 (o1 s) 3689348814741910323)
def o3 (s : Nat) : Int := bits .and .u64 (IntKind.u64.wrap (o2 s / 16 + o2 s)) 1085102592571150095
def o4 (s : Nat) : Int := IntKind.u64.wrap (o3 s + o3 s / 256)
def o5 (s : Nat) : Int := IntKind.u64.wrap (o4 s + o4 s / 65536)
def o6 (s : Nat) : Int := IntKind.u64.wrap (o5 s + o5 s / 4294967296)
theorem ones_tab : ((List.range 512).all fun s => decide (bits .and .i64 (wrap64 (o6 s)) 127 = popF s)) = true := by kernel_rfl
theorem ones_is {s : Nat} (hs : s < 512) : bits .and .i64 (wrap64 (o6 s)) 127 = popF s := of_decide_eq_true (all_lt ones_tab hs)
theorem ones64_any {s : Nat} (hs : s < 512) (w : World) : Calls Tryz.prog 119 #[.int .u64 s] w fun e w' => e = .returned (.int .i64 (popF s)) ∧ w' = w := by
 go_enter Tryz.func119, Tryz.ntmps119
 go_wp2
 go_ret
 exact ⟨ret_int (ones_is hs), rfl⟩
def lowF (s : Nat) : Int := (listF s).headD 0
def tzI (s : Nat) : Int := IntKind.u64.wrap (bits .and .u64 (s : Int) (IntKind.u64.wrap (-(s : Int))) * 285870213051353865) / 288230376151711744
theorem tz_tab : ((List.range 512).all fun s => s == 0 || (decide (0 ≤ tzI s) && decide (tzI s < 64) && decide (tab64.getD (tzI s).toNat 0 = lowF s) && decide (0 ≤ lowF s) && decide (lowF s < 9))) = true := by kernel_rfl
theorem tz_is {s : Nat} (hs : s < 512) (h0 : s ≠ 0) : ∃ j : Nat, j < 64 ∧ tzI s = j ∧ tab64.getD j 0 = lowF s ∧ 0 ≤ lowF s ∧ lowF s < 9 := by
 have := all_lt tz_tab hs
 simp only [Bool.or_eq_true, Bool.and_eq_true, beq_iff_eq, decide_eq_true_eq] at this
 obtain ⟨⟨⟨⟨h1, h2⟩, h3⟩, h4⟩, h5⟩ := this.resolve_left h0
 exact ⟨(tzI s).toNat, by omega, by omega, h3, h4, h5⟩
theorem tz64_any {s : Nat} (hs : s < 512) (h0 : s ≠ 0) (w : World) (hd : DbT w) : Calls Tryz.prog 117 #[.int .u64 s] w fun e w' => e = .returned (.int .i64 (lowF s)) ∧ w' = w := by
 obtain ⟨j, hj, hi, ht, hv⟩ := tz_is hs h0
 have c := Lib.TabIs.cell hd (g := 1) (by kernel_rfl) j hj
 rw [ht] at c
 unfold tzI at hi
 generalize lowF s = x at *
 have t0 : ((s : Int) == 0) = false := by simp; omega
 clear h0 hd ht
 go_enter Tryz.func117, Tryz.ntmps117
 go_wp2
 go_ret
 exact ⟨rfl, rfl⟩
theorem tz_any {s : Nat} (hs : s < 512) (h0 : s ≠ 0) (w : World) (hd : DbT w) : Calls Tryz.prog 87 #[.int .u64 s] w fun e w' => e = .returned (.int .i64 (lowF s)) ∧ w' = w := by
 have h := Lib.hid (tz64_any hs h0 w hd)
 clear hd h0
 go_enter Tryz.func87, Tryz.ntmps87
 go_wp2_with (go_at_call 117; refine h.out.mono ?_; rintro e w' ⟨rfl, rfl⟩)
 go_ret
 exact ⟨rfl, rfl⟩
theorem ones_any {s : Nat} (hs : s < 512) (w : World) : Calls Tryz.prog 88 #[.int .u64 s] w fun e w' => e = .returned (.int .i64 (popF s)) ∧ w' = w := by
 have h := Lib.hid (ones64_any hs w)
 go_enter Tryz.func88, Tryz.ntmps88
 go_wp2_with (go_at_call 119; refine h.out.mono ?_; rintro e w' ⟨rfl, rfl⟩)
 go_ret
 exact ⟨rfl, rfl⟩
theorem low_is {s : Nat} (hs : s < 512) (h0 : s ≠ 0) : ∃ t : Nat, t < s ∧ bits .and .i64 (s : Int) ((s : Int) - 1) = t ∧ listF s = lowF s :: listF t := by
 have := all_lt low_tab hs
 simp only [Bool.or_eq_true, Bool.and_eq_true, beq_iff_eq, decide_eq_true_eq] at this
 obtain ⟨⟨h1, h2⟩, h3⟩ := this.resolve_left h0
 refine ⟨s &&& (s - 1), h2, h1, ?_⟩
 unfold lowF
 cases hl : listF s with
 | nil => rw [hl] at h3; cases h3
 | cons x l =>
  rw [hl] at h3
  simp only [Bool.and_eq_true, beq_iff_eq] at h3
  rw [h3.1.1]
  rfl
theorem listF_zero : listF 0 = [] := by kernel_rfl
theorem rlist_any {s : Nat} (hs : s < 512) (w : World) (hd : DbT w) :
  Calls Tryz.prog 50 #[.int .i64 s] w fun e w' => ∃ A c, e = .returned (.slice A (listF s).length c) ∧ Own w.heap.size 3 w' (.slice A (listF s).length c) (listF s) ∧ Below w.heap.size w w' := by
 have HD := Lib.hid hd
 have hls := listF_le s
 unfold popF at hls
 clear hd
 obtain ⟨l0, hl0⟩ : ∃ l, l = listF s := ⟨_, rfl⟩
 rw [← hl0] at hls ⊢
 have H0 := Lib.hid hl0
 clear hl0
 go_enter Tryz.func50, Tryz.ntmps50
 go_wp2
 go_loopw [0, 2] (fun sv lv wr => ∃ (t : Nat) (L : Option Addr) (c : Nat) (l : List Int), t < 512 ∧ sv = .int .i64 t ∧ l0 = l ++ listF t ∧ lv = .slice L l.length c ∧ Own w.heap.size 3 wr (.slice L l.length c) l ∧ Below w.heap.size w wr) (fun sv _ _ => (intOf sv).toNat)
 case atStart => exact ⟨s, none, 0, [], hs, rfl, H0.out, rfl, Own.nil _ _ _, Below.refl _ _⟩
 case round =>
  obtain ⟨t, L, c, l, ht, rfl, hl, rfl, hown, hbr⟩ := hrel
  have HL := Lib.hid hl
  have hln : l.length ≤ 9 := by rw [hl] at hls; simp at hls; omega
  have Hown := Lib.hid hown
  have Hbr := Lib.hid hbr
  clear hl hown hbr
  by_cases h0 : t = 0
  ·have HF := Lib.hid (show l0 = l by rw [HL.out, h0, listF_zero, List.append_nil])
   have hz : ((t : Int) != 0) = false := by rw [h0]; rfl
   clear h0
   go_wp2
   go_ret
   exact ⟨L, c, by rw [HF.out]; rfl, by rw [HF.out]; exact Hown.out, Hbr.out⟩
  ·obtain ⟨t2, hlt, hbit, hlst⟩ := low_is ht h0
   have HL2 := Lib.hid hlst
   have Htz := Lib.hid (fun (X : World) (hb : Below w.heap.size w X) => tz_any ht h0 X (HD.out.below hb))
   have hz : ((t : Int) != 0) = true := by simp; omega
   clear hlst h0
   generalize lowF t = x at *
   go_upto_region 3 with (fail)
   have htz := Htz.out wr Hbr.out
   obtain ⟨A2, c2, w2, hrun, hown2, hb2, _⟩ := append_int Hown.out x (by omega) Hbr.out.size
   have Hown2 := Lib.hid hown2
   have Hb2 := Lib.hid (Hbr.out.trans hb2)
   have Hz := Lib.hid htz
   clear hown2 hb2 htz
   go_wp2_with (first | (go_at_call 87; refine Hz.out.mono ?_; rintro e w1 ⟨rfl, rfl⟩) | (at_builtin; refine wpList_append_run rfl _ _ _ rfl rfl rfl hrun ?_))
   go_roundw
   case rel => exact ⟨t2, A2, c2, l ++ [x], by omega, rfl, by rw [HL.out, HL2.out]; simp, by simp, by simpa using Hown2.out, Hb2.out⟩
   case measure => simp [intOf]; omega
end Go.Proofs.YthnimhnlnddnoaaGreatDoor
namespace Go.Proofs.YthnimhnlnddnoaaGreatDoor
open Go.RowKit Go.Shelf
def ofN (l : List Nat) : List Int := l.map fun s : Nat => (s : Int)
theorem ofN_snoc (l : List Nat) (s : Nat) : ofN (l ++ [s]) = ofN l ++ [(s : Int)] := by simp [ofN]
theorem ofN_len (l : List Nat) : (ofN l).length = l.length := by simp [ofN]
theorem wrap_pow (n : Nat) (hn : n ≤ 9) : wrap64 (2 ^ n) = ((2 ^ n : Nat) : Int) := by
 have h : n = 0 ∨ n = 1 ∨ n = 2 ∨ n = 3 ∨ n = 4 ∨ n = 5 ∨ n = 6 ∨ n = 7 ∨ n = 8 ∨ n = 9 := by omega
 rcases h with h | h | h | h | h | h | h | h | h | h <;> (subst h; rw [IntWalk.wrap64_in _ ⟨by decide, by decide⟩]; rfl)
def corrsL (r : List RvR) (k : Nat) : List Int := ofN (corrsK r k).2
theorem corrsL_len {r : List RvR} (h9 : r.length ≤ 9) {k : Nat} (hk : k ≤ 2 ^ r.length) : (corrsL r k).length ≤ k ∧ (corrsK r k).1 ≤ r.length := by
 have := corrI_all h9 k hk
 unfold corrsL
 rw [ofN_len]
 exact ⟨this.len, this.most⟩
theorem corrs_skip {r : List RvR} {k : Nat} (h : (corrsK r k).1 < popF k ∨ corrR r k = false) : (corrsK r (k + 1)).1 = (corrsK r k).1 ∧ corrsL r (k + 1) = corrsL r k := by
 unfold corrsL
 rw [corrsK_succ, corrStep, if_pos h]
 exact ⟨rfl, rfl⟩
theorem corrs_new {r : List RvR} {k : Nat} (h : popF k < (corrsK r k).1) (hc : corrR r k = true) : (corrsK r (k + 1)).1 = popF k ∧ corrsL r (k + 1) = [(k : Int)] := by
 unfold corrsL
 rw [corrsK_succ, corrStep, if_neg (by intro h2; rcases h2 with h2 | h2; omega; rw [hc] at h2; cases h2), if_pos h]
 exact ⟨rfl, rfl⟩
theorem corrs_more {r : List RvR} {k : Nat} (h : popF k = (corrsK r k).1) (hc : corrR r k = true) : (corrsK r (k + 1)).1 = (corrsK r k).1 ∧ corrsL r (k + 1) = corrsL r k ++ [(k : Int)] := by
 unfold corrsL
 rw [corrsK_succ, corrStep, if_neg (by intro h2; rcases h2 with h2 | h2; omega; rw [hc] at h2; cases h2), if_neg (by omega)]
 exact ⟨rfl, ofN_snoc _ _⟩
theorem rcorrs_any {w : World} {b : Nat} {v : Value} {r : List RvR} (hL : LkN r b v w) (hg : RGood r) :
  Calls Tryz.prog 52 #[.pointer (some ⟨b, 0, none⟩)] w fun e w' => ∃ A c, e = .returned (.slice A (ofN (corrsR r)).length c) ∧ Own w.heap.size 3 w' (.slice A (ofN (corrsR r)).length c) (ofN (corrsR r)) ∧ Below w.heap.size w w' := by
 obtain ⟨A, cap, rfl⟩ := hL.slice
 have p0 := hL.riv.pts
 have hlen := hg.len
 have hp2 : 2 ^ r.length ≤ 512 := Nat.le_trans (Nat.pow_le_pow_right (by omega) hlen.2) (by decide)
 have HL := Lib.hid hL
 have HG := Lib.hid hg
 clear hL hg
 go_enter Tryz.func52, Tryz.ntmps52
 go_wp2
 go_step3
 go_wp2
 go_step3
 go_wp2
 rw [wrap_pow _ hlen.2]
 obtain ⟨N, hN⟩ : ∃ N, N = 2 ^ r.length := ⟨_, rfl⟩
 rw [← hN] at hp2 ⊢
 have HN := Lib.hid hN
 clear hN
 go_loopw [2, 3, 17] (fun lv mv i wr => ∃ (k : Nat) (L : Option Addr) (c : Nat), k ≤ N ∧ i = .int .i64 k ∧ mv = .int .i64 (corrsK r k).1 ∧ lv = .slice L (corrsL r k).length c ∧ Own w.heap.size 3 wr (.slice L (corrsL r k).length c) (corrsL r k) ∧ Below w.heap.size w wr) (fun _ _ i _ => N - (intOf i).toNat)
 case atStart => exact ⟨0, none, 0, Nat.zero_le _, rfl, rfl, rfl, Own.nil _ _ _, Below.refl _ _⟩
 case round =>
  obtain ⟨k, L, c, hk, rfl, rfl, rfl, hown, hbr⟩ := hrel
  have hll := corrsL_len hlen.2 (show k ≤ 2 ^ r.length by rw [← HN.out]; exact hk)
  by_cases hlt : k < N
  ·have hk5 : k < 512 := by omega
   have HO := Lib.hid (ones_any hk5 wr)
   have hpl := listF_le k
   have HC := Lib.hid (rcorrects_any (HL.out.below hbr) HG.out hk5)
   have HA := Lib.hid (fun h => corrs_skip (r := r) (k := k) h)
   have HB := Lib.hid (fun h => corrs_new (r := r) (k := k) h)
   have HD := Lib.hid (fun h => corrs_more (r := r) (k := k) h)
   have Hown := Lib.hid hown
   have Hbr := Lib.hid hbr
   clear hown hbr
   generalize corrsL r k = l at *
   generalize (corrsK r k).1 = m at *
   generalize popF k = p at *
   by_cases h1 : m < p
   ·have HS := Lib.hid (HA.out (.inl h1))
    have t1 : (m : Int) < p := by omega
    go_wp2_with (go_at_call 88; refine HO.out.mono ?_; rintro e w1 ⟨rfl, rfl⟩)
    go_roundw
    case rel => exact ⟨k + 1, L, c, by omega, by go_num, by rw [HS.out.1], by rw [HS.out.2], by rw [HS.out.2]; exact Hown.out, Hbr.out⟩
    case measure => simp [intOf]; omega
   ·have t1 : ¬ (m : Int) < p := by omega
    cases hc : corrR r k with
    | false =>
     have HS := Lib.hid (HA.out (.inr hc))
     rw [hc] at HC
     clear hc
     go_wp2_with (first | (go_at_call 88; refine HO.out.mono ?_; rintro e w1 ⟨rfl, rfl⟩) | (go_at_call 89; refine HC.out.mono ?_; rintro e w2 ⟨rfl, hq⟩))
     go_roundw
     case rel => exact ⟨k + 1, L, c, by omega, by go_num, by rw [HS.out.1], by rw [HS.out.2], by rw [HS.out.2]; exact Hown.out.qt hq, Hbr.out.trans (hq.below _)⟩
     case measure => simp [intOf]; omega
    | true =>
     rw [hc] at HC
     by_cases h2 : p < m
     ·have HS := Lib.hid (HB.out h2 hc)
      have t2 : (p : Int) < m := by omega
      clear hc
      go_upto_region 9 with (first | (go_at_call 88; refine HO.out.mono ?_; rintro e w1 ⟨rfl, rfl⟩) | (go_at_call 89; refine HC.out.mono ?_; rintro e w2 ⟨rfl, hq⟩))
      obtain ⟨A2, c2, w3, hrun, hown2, hb2, _⟩ := append_int (Own.nil w.heap.size 3 w2) (k : Int) (by simp) (by have := Hbr.out.size; have := (hq.below w.heap.size).size; omega)
      have Hown2 := Lib.hid hown2
      have Hb2 := Lib.hid (Hbr.out.trans ((hq.below _).trans hb2))
      clear hown2 hb2
      go_wp2_with (at_builtin; refine wpList_append_run rfl _ _ _ rfl rfl rfl hrun ?_)
      go_roundw
      case rel => exact ⟨k + 1, A2, c2, by omega, by go_num, by rw [HS.out.1], by rw [HS.out.2]; rfl, by rw [HS.out.2]; exact Hown2.out, Hb2.out⟩
      case measure => simp [intOf]; omega
     ·have HS := Lib.hid (HD.out (by omega) hc)
      have t2 : ¬ (p : Int) < m := by omega
      clear hc
      go_upto_region 9 with (first | (go_at_call 88; refine HO.out.mono ?_; rintro e w1 ⟨rfl, rfl⟩) | (go_at_call 89; refine HC.out.mono ?_; rintro e w2 ⟨rfl, hq⟩))
      obtain ⟨A2, c2, w3, hrun, hown2, hb2, _⟩ := append_int (Hown.out.qt hq) (k : Int) (by omega) (by have := Hbr.out.size; have := (hq.below w.heap.size).size; omega)
      have Hown2 := Lib.hid hown2
      have Hb2 := Lib.hid (Hbr.out.trans ((hq.below _).trans hb2))
      clear hown2 hb2
      go_wp2_with (at_builtin; refine wpList_append_run rfl _ _ _ rfl rfl rfl hrun ?_)
      go_roundw
      case rel => exact ⟨k + 1, A2, c2, by omega, by go_num, by rw [HS.out.1], by rw [HS.out.2]; simp, by rw [HS.out.2]; simpa using Hown2.out, Hb2.out⟩
      case measure => simp [intOf]; omega
  ·have hkn : k = N := by omega
   have HF := Lib.hid (show corrsL r k = ofN (corrsR r) by rw [hkn, HN.out]; rfl)
   have Hown := Lib.hid hown
   have Hbr := Lib.hid hbr
   clear hown hbr hkn
   go_wp2
   rw [Exit.noGoto_ret]
   go_ret
   exact ⟨L, c, by rw [← HF.out]; rfl, by rw [← HF.out]; exact Hown.out, Hbr.out⟩
end Go.Proofs.YthnimhnlnddnoaaGreatDoor
namespace Go.Proofs.YthnimhnlnddnoaaGreatDoor
open Go.RowKit Go.Shelf
def cmpI (x y : Int) : Int := if x < y then -1 else if y < x then 1 else 0
theorem nan_any (x : Int) (w : World) : Calls Tryz.prog 120 #[.int .i64 x] w fun e w' => e = .returned (.bool false) ∧ w' = w := by
 go_enter Tryz.func120, Tryz.ntmps120
 go_wp2
 go_ret
 exact ⟨rfl, rfl⟩
theorem cmp_any (x y : Int) (w : World) : Calls Tryz.prog 90 #[.int .i64 x, .int .i64 y] w fun e w' => e = .returned (.int .i64 (cmpI x y)) ∧ w' = w := by
 by_cases h1 : x < y
 ·have HR := Lib.hid (show cmpI x y = -1 by unfold cmpI; rw [if_pos h1])
  go_enter Tryz.func90, Tryz.ntmps90
  go_wp2_with (go_at_call 120; refine (nan_any _ _).mono ?_; rintro e w' ⟨rfl, rfl⟩)
  go_ret
  exact ⟨by rw [HR.out]; rfl, rfl⟩
 ·by_cases h2 : y < x
  ·have HR := Lib.hid (show cmpI x y = 1 by unfold cmpI; rw [if_neg h1, if_pos h2])
   go_enter Tryz.func90, Tryz.ntmps90
   go_wp2_with (go_at_call 120; refine (nan_any _ _).mono ?_; rintro e w' ⟨rfl, rfl⟩)
   go_ret
   exact ⟨by rw [HR.out]; rfl, rfl⟩
  ·have HR := Lib.hid (show cmpI x y = 0 by unfold cmpI; rw [if_neg h1, if_neg h2])
   go_enter Tryz.func90, Tryz.ntmps90
   go_wp2_with (go_at_call 120; refine (nan_any _ _).mono ?_; rintro e w' ⟨rfl, rfl⟩)
   go_ret
   exact ⟨by rw [HR.out]; rfl, rfl⟩
theorem cmpL_step {l m : List Int} {k : Nat} (hl : k < l.length) (hm : k < m.length) : cmpL (l.drop k) (m.drop k) = if cmpI (l[k]?.getD 0) (m[k]?.getD 0) = 0 then cmpL (l.drop (k + 1)) (m.drop (k + 1)) else cmpI (l[k]?.getD 0) (m[k]?.getD 0) := by
 rw [List.drop_eq_getElem_cons hl, List.drop_eq_getElem_cons hm, cmpL, List.getElem?_eq_getElem hl, List.getElem?_eq_getElem hm]
 simp only [Option.getD_some]
 unfold cmpI
 by_cases h1 : l[k] < m[k]
 ·rw [if_pos h1, if_pos h1, if_neg (by omega)]
 ·rw [if_neg h1, if_neg h1]
  by_cases h2 : m[k] < l[k]
  ·rw [if_pos h2, if_pos h2, if_neg (by omega)]
  ·rw [if_neg h2, if_neg h2, if_pos rfl]
theorem cmpL_right {l m : List Int} {k : Nat} (hl : k < l.length) (hm : m.length ≤ k) : cmpL (l.drop k) (m.drop k) = 1 := by
 rw [List.drop_eq_getElem_cons hl, List.drop_eq_nil_of_le hm]
 rfl
theorem cmpL_left {l m : List Int} (hm : l.length < m.length) : cmpL (l.drop l.length) (m.drop l.length) = -1 := by
 rw [List.drop_eq_getElem_cons hm, List.drop_eq_nil_of_le (Nat.le_refl _)]
 rfl
theorem cmpL_same {l m : List Int} (hm : m.length ≤ l.length) : cmpL (l.drop l.length) (m.drop l.length) = 0 := by
 rw [List.drop_eq_nil_of_le hm, List.drop_eq_nil_of_le (Nat.le_refl _)]
 rfl
theorem compare_any {B B' : Nat} {w : World} {v v' : Value} {l m : List Int} (hv : Rd IntAt 1 B w v l) (hv' : Rd IntAt 1 B' w v' m) :
  Calls Tryz.prog 54 #[v, v'] w fun e w' => e = .returned (.int .i64 (cmpL l m)) ∧ w' = w := by
 obtain ⟨A, cap, rfl, h1, h2, _⟩ := id hv
 obtain ⟨A', cap', rfl, h3, h4, _⟩ := id hv'
 have HV := Lib.hid hv
 have HV' := Lib.hid hv'
 clear hv hv'
 go_enter Tryz.func54, Tryz.ntmps54
 go_wp2
 go_loop [11] (fun i => ∃ k : Nat, k ≤ l.length ∧ i = .int .i64 k ∧ cmpL l m = cmpL (l.drop k) (m.drop k)) (fun i => l.length - (intOf i).toNat)
 case atStart => exact ⟨0, Nat.zero_le _, rfl, rfl⟩
 case round =>
  obtain ⟨k, hk, rfl, he⟩ := hrel
  have HE := Lib.hid he
  clear he
  by_cases hlt : k < l.length
  ·obtain ⟨ad, rfl, _, e1⟩ := HV.out.int hlt
   by_cases hlt2 : k < m.length
   ·obtain ⟨ad2, rfl, _, e2⟩ := HV'.out.int hlt2
    have HS := Lib.hid (HE.out.trans (cmpL_step hlt hlt2))
    have hlt3 : ((m.length : Int) ≤ (k : Int)) = False := by simp; omega
    clear HE
    generalize l[k]?.getD 0 = x at *
    generalize m[k]?.getD 0 = y at *
    have HC := Lib.hid (cmp_any x y w)
    generalize cmpI x y = c at *
    by_cases hc : c = 0
    ·have HR := Lib.hid (HS.out.trans (if_pos hc))
     have hz : (c != 0) = false := by rw [hc]; rfl
     clear hc
     go_wp2_with (go_at_call 90; refine HC.out.mono ?_; rintro e w' ⟨rfl, rfl⟩)
     go_round
     case rel => exact ⟨k + 1, by omega, by go_num, HR.out⟩
     case measure => simp [intOf]; omega
    ·have HR := Lib.hid (HS.out.trans (if_neg hc))
     have hz : (c != 0) = true := by simpa using hc
     clear hc
     go_wp2_with (go_at_call 90; refine HC.out.mono ?_; rintro e w' ⟨rfl, rfl⟩)
     go_ret
     exact ⟨by rw [HR.out]; rfl, rfl⟩
   ·have HR := Lib.hid (HE.out.trans (cmpL_right hlt (by omega)))
    generalize l[k]?.getD 0 = x at *
    go_wp2
    go_ret
    exact ⟨by rw [HR.out]; rfl, rfl⟩
  ·have hkn : k = l.length := by omega
   subst hkn
   by_cases hlt2 : l.length < m.length
   ·have HR := Lib.hid (HE.out.trans (cmpL_left hlt2))
    go_wp2
    go_ret
    exact ⟨by rw [HR.out]; rfl, rfl⟩
   ·have HR := Lib.hid (HE.out.trans (cmpL_same (by omega)))
    go_wp2
    go_ret
    exact ⟨by rw [HR.out]; rfl, rfl⟩
theorem cmpSets_any {a b : Nat} (ha : a < 512) (hb : b < 512) (w : World) (hd : DbT w) :
  Calls Tryz.prog 53 #[.int .i64 a, .int .i64 b] w fun e w' => e = .returned (.int .i64 (cmpF a b)) ∧ Below w.heap.size w w' := by
 have H1 := Lib.hid (rlist_any ha w hd)
 have H2 := Lib.hid (fun (X : World) (h : Below w.heap.size w X) => rlist_any hb X (hd.below h))
 have HF := Lib.hid (show cmpF a b = cmpL (listF a) (listF b) from rfl)
 clear hd
 generalize listF a = l at *
 generalize listF b = m at *
 go_enter Tryz.func53, Tryz.ntmps53
 go_wp2_with (first | (go_at_call 54; refine (compare_any ((h1.below hb2).rd) h2.rd).mono ?_; rintro e w' ⟨rfl, rfl⟩) | (go_at_call 50; with_reducible refine Calls.mono H1.out ?_; rintro e w1 ⟨A1, c1, rfl, h1, hb1⟩) | (go_at_call 50; with_reducible refine Calls.mono (H2.out _ hb1) ?_; rintro e w2 ⟨A2, c2, rfl, h2, hb2⟩))
 go_ret
 exact ⟨by rw [HF.out]; rfl, hb1.trans (hb2.mono hb1.size)⟩
theorem ofN_at {l : List Nat} {k : Nat} (hk : k < l.length) : (ofN l)[k]?.getD 0 = ((l.getD k 0 : Nat) : Int) := by
 unfold ofN
 rw [List.getElem?_map, List.getElem?_eq_getElem hk, getD_at hk]
 rfl
theorem firstK_one (l : List Nat) : firstK l 1 = l.getD 0 0 := by simp [firstK]
theorem firstK_next {l : List Nat} {k : Nat} (hk : k ≠ 0) : firstK l (k + 1) = if cmpF (l.getD k 0) (firstK l k) < 0 then l.getD k 0 else firstK l k := by
 rw [firstK]
 by_cases h : cmpF (l.getD k 0) (firstK l k) < 0
 ·rw [if_pos (.inr h), if_pos h]
 ·rw [if_neg (by intro h2; rcases h2 with h2 | h2; exact hk h2; exact h h2), if_neg h]
theorem first_any {B : Nat} {w : World} {v : Value} {l : List Nat} (hv : Rd IntAt 1 B w v (ofN l)) (hl : ∀ s ∈ l, s < 512) (hB : B ≤ w.heap.size) (hd : DbT w) :
  Calls Tryz.prog 51 #[v, .func (.func 53) #[] #[]] w fun e w' => e = .returned (.int .i64 (firstF l)) ∧ Below w.heap.size w w' := by
 obtain ⟨A, cap, rfl, h1, h2, _⟩ := id hv
 have HV := Lib.hid hv
 have hln := ofN_len l
 rw [hln] at h1 ⊢
 have HLN := Lib.hid hln
 have HD := Lib.hid hd
 have HL := Lib.hid (fun (k : Nat) (hk : k < l.length) => hl _ (getD_mem hk 0))
 have HM := Lib.hid (fun (k : Nat) (h1 : 1 ≤ k) (hk : k ≤ l.length) => hl _ (firstK_mem l k h1 hk))
 clear hv hd hl hln
 go_enter Tryz.func51, Tryz.ntmps51
 go_wp2
 go_loopw [4, 9] (fun b i wr => ∃ k : Nat, k ≤ l.length ∧ i = .int .i64 k ∧ b = .int .i64 (firstK l k) ∧ Below w.heap.size w wr) (fun _ i _ => l.length - (intOf i).toNat)
 case atStart => exact ⟨0, Nat.zero_le _, rfl, rfl, Below.refl _ _⟩
 case round =>
  obtain ⟨k, hk, rfl, rfl, hbr⟩ := hrel
  have Hbr := Lib.hid hbr
  by_cases hlt : k < l.length
  ·have hv := HV.out.below (hbr.mono hB)
   rw [HLN.out] at hv
   obtain ⟨ad, rfl, _, e1⟩ := hv.int (by rw [HLN.out]; exact hlt)
   rw [ofN_at hlt] at e1
   have hs := HL.out k hlt
   clear hv hbr
   by_cases h0 : k = 0
   ·have HR := Lib.hid (show firstK l (k + 1) = l.getD k 0 by rw [h0]; exact firstK_one l)
    have hz : ((k : Int) == 0) = true := by rw [h0]; rfl
    clear h0
    generalize firstK l k = f at *
    generalize l.getD k 0 = s at *
    go_wp2
    go_roundw
    case rel => exact ⟨k + 1, by omega, by go_num, by rw [HR.out], Hbr.out⟩
    case measure => simp [intOf]; omega
   ·have HR := Lib.hid (firstK_next (l := l) h0)
    have hf := HM.out k (by omega) hk
    have hz : ((k : Int) == 0) = false := by simp; omega
    clear h0
    generalize firstK l k = f at *
    generalize l.getD k 0 = s at *
    have HC := Lib.hid (cmpSets_any hs hf wr (HD.out.below Hbr.out))
    generalize cmpF s f = c at *
    by_cases hc : c < 0
    ·have HR2 := Lib.hid (HR.out.trans (if_pos hc))
     go_wp2_with (go_at_call 53; refine HC.out.mono ?_; rintro e w1 ⟨rfl, hb1⟩)
     go_roundw
     case rel => exact ⟨k + 1, by omega, by go_num, by rw [HR2.out], Hbr.out.trans (hb1.mono Hbr.out.size)⟩
     case measure => simp [intOf]; omega
    ·have HR2 := Lib.hid (HR.out.trans (if_neg hc))
     go_wp2_with (go_at_call 53; refine HC.out.mono ?_; rintro e w1 ⟨rfl, hb1⟩)
     go_roundw
     case rel => exact ⟨k + 1, by omega, by go_num, by rw [HR2.out], Hbr.out.trans (hb1.mono Hbr.out.size)⟩
     case measure => simp [intOf]; omega
  ·have hkn : k = l.length := by omega
   have HR := Lib.hid (show firstF l = firstK l k by rw [hkn]; rfl)
   clear hkn hbr
   go_wp2
   go_ret
   exact ⟨by rw [HR.out]; rfl, Hbr.out⟩
end Go.Proofs.YthnimhnlnddnoaaGreatDoor
namespace Go.Proofs.YthnimhnlnddnoaaGreatDoor
open Go.RowKit Go.Shelf
theorem LkN.of_open {B b : Nat} {w w' : World} {v : Value} {r : List RvR} (hs : Rd RvAt 4 B w v r) (hB : B ≤ w.heap.size) (hL : LookAt w' b v r) (hb : Below w.heap.size w w') : LkN r b v w' :=
 ⟨⟨B, hs.below (hb.mono hB), Nat.le_trans hB hb.size⟩, hL⟩
theorem pow_512 {n : Nat} (h : n ≤ 9) : 2 ^ n ≤ 512 := Nat.le_trans (Nat.pow_le_pow_right (by omega) h) (by decide)
theorem rfewest_any {B : Nat} {w : World} {v : Value} {r : List RvR} (hs : Rd RvAt 4 B w v r) (hg : RGood r) (hB : B ≤ w.heap.size) (hd : DbT w) :
  Calls Tryz.prog 15 #[v] w (OwnRes w.heap.size 3 (listF (fewR r)) 0 w) := by
 obtain ⟨A, cap, rfl, h5, h6, _⟩ := id hs
 have hlen := hg.len
 have hsp := corrs_spec hlen.2
 have hp := pow_512 hlen.2
 have HO := Lib.hid (ropen_any hs hg hB)
 have HL := Lib.hid (fun (w' : World) (b : Nat) (h : LookAt w' b (.slice A r.length cap) r) (hb : Below w.heap.size w w') => rcorrs_any (LkN.of_open hs hB h hb) hg)
 have HF := Lib.hid (fun (w' : World) (v' : Value) (h : Rd IntAt 1 w'.heap.size w' v' (ofN (corrsR r))) (hb : Below w.heap.size w w') => first_any h (fun s hs => by have := (hsp.2.2 s hs).1; omega) (Nat.le_refl _) (hd.below hb))
 have HS := Lib.hid (fun (w' : World) (hb : Below w.heap.size w w') => rlist_any (s := fewR r) (by have := (few_spec hlen.2).1; omega) w' (hd.below hb))
 have HE := Lib.hid (show fewR r = firstF (corrsR r) from rfl)
 rw [HE.out] at HS ⊢
 clear hs hg hd hsp h5 h6
 generalize firstF (corrsR r) = f at *
 generalize ofN (corrsR r) = cs at *
 go_enter Tryz.func15, Tryz.ntmps15
 go_upto_region 4 with (go_at_call 46; refine HO.out.mono ?_; rintro e w1 ⟨b, rfl, hL, hb, hb1⟩)
 have HC := Lib.hid (HL.out _ _ hL hb1)
 have HB1 := Lib.hid hb1
 clear hL hb1 HO HL
 go_wp2_with (first | (go_at_call 52; refine HC.out.mono ?_; rintro e w2 ⟨A2, c2, rfl, ho2, hb2⟩; replace ho2 := ho2.rd; have HB2 := Lib.hid (HB1.out.trans (hb2.mono HB1.out.size))) | (go_at_call 51; refine (HF.out _ _ ho2 HB2.out).mono ?_; rintro e w3 ⟨rfl, hb3⟩; have HB3 := Lib.hid (HB2.out.trans (hb3.mono HB2.out.size))) | (go_at_call 50; refine (HS.out _ HB3.out).mono ?_; rintro e w4 ⟨A4, c4, rfl, ho4, hb4⟩))
 go_ret2
 exact ⟨A4, c4, rfl, ho4.mono HB3.out.size, HB3.out.trans (hb4.mono HB3.out.size)⟩
theorem bits_and_nat (a b : Nat) (ha : a < 512) (hb : b < 512) : bits .and .i64 a b = ((a &&& b : Nat) : Int) := by
 show IntKind.i64.wrap ((BitVec.ofInt 64 (a : Int) &&& BitVec.ofInt 64 (b : Int)).toNat : Int) = _
 simp only [BitVec.ofInt_natCast]
 rw [BitVec.toNat_and, BitVec.toNat_ofNat, BitVec.toNat_ofNat, Nat.mod_eq_of_lt (by omega), Nat.mod_eq_of_lt (by omega)]
 have h : a &&& b < 512 := Nat.lt_of_le_of_lt Nat.and_le_left ha
 exact IntWalk.i64_in ((a &&& b : Nat) : Int) (by omega)
theorem bits_or_nat (a b : Nat) (ha : a < 512) (hb : b < 512) : bits .or .i64 a b = ((a ||| b : Nat) : Int) := by
 show IntKind.i64.wrap ((BitVec.ofInt 64 (a : Int) ||| BitVec.ofInt 64 (b : Int)).toNat : Int) = _
 simp only [BitVec.ofInt_natCast]
 rw [BitVec.toNat_or, BitVec.toNat_ofNat, BitVec.toNat_ofNat, Nat.mod_eq_of_lt (by omega), Nat.mod_eq_of_lt (by omega)]
 have h : a ||| b < 512 := Nat.or_lt_two_pow (n := 9) ha hb
 exact IntWalk.i64_in ((a ||| b : Nat) : Int) (by omega)
theorem wrap_full {n : Nat} (hn : n ≤ 9) : wrap64 (wrap64 (2 ^ n) - 1) = ((2 ^ n - 1 : Nat) : Int) := by
 have h1 := pow_pos2 n
 have h2 := pow_512 hn
 rw [wrap_pow n hn, IntWalk.wrap64_in _ (by omega)]
 omega
theorem mustF_lt {r : List RvR} (h9 : r.length ≤ 9) : ∀ k, k ≤ (corrsR r).length → (mustF r k).1 < 512 ∧ (mustF r k).2 < 512
 | 0, _ => by
  have := pow_512 h9
  have := pow_pos2 r.length
  exact ⟨by show 2 ^ r.length - 1 < 512; omega, by show 0 < 512; omega⟩
 | k + 1, hk => by
  obtain ⟨h1, h2⟩ := mustF_lt h9 k (by omega)
  have h3 := ((corrs_spec h9).2.2 _ (getD_mem (show k < (corrsR r).length by omega) 0)).1
  have := pow_512 h9
  rw [mustF_step (by omega)]
  exact ⟨Nat.lt_of_le_of_lt Nat.and_le_left h1, Nat.or_lt_two_pow (n := 9) h2 (by omega)⟩
theorem rmust_any {B : Nat} {w : World} {v : Value} {r : List RvR} (hs : Rd RvAt 4 B w v r) (hg : RGood r) (hB : B ≤ w.heap.size) (hd : DbT w) :
  Calls Tryz.prog 38 #[v] w fun e w' => ∃ A1 c1 A2 c2, e = .returned (.tuple #[.slice A1 (listF (mustF r (corrsR r).length).1).length c1, .slice A2 (listF (mustF r (corrsR r).length).2).length c2, .int .i64 0]) ∧
   Own w.heap.size 3 w' (.slice A1 (listF (mustF r (corrsR r).length).1).length c1) (listF (mustF r (corrsR r).length).1) ∧ Own w.heap.size 3 w' (.slice A2 (listF (mustF r (corrsR r).length).2).length c2) (listF (mustF r (corrsR r).length).2) ∧ Below w.heap.size w w' := by
 obtain ⟨A, cap, rfl, h5, h6, _⟩ := id hs
 have hlen := hg.len
 have hsp := corrs_spec hlen.2
 have hp := pow_512 hlen.2
 have HO := Lib.hid (ropen_any hs hg hB)
 have HL := Lib.hid (fun (w' : World) (b : Nat) (h : LookAt w' b (.slice A r.length cap) r) (hb : Below w.heap.size w w') => rcorrs_any (LkN.of_open hs hB h hb) hg)
 have HD := Lib.hid (fun (w' : World) (hb : Below w.heap.size w w') => hd.below hb)
 have HP := Lib.hid hsp
 clear hs hg hd hsp h5 h6
 go_enter Tryz.func38, Tryz.ntmps38
 go_upto_region 4 with (go_at_call 46; refine HO.out.mono ?_; rintro e w1 ⟨b, rfl, hL, hb, hb1⟩)
 have HC := Lib.hid (HL.out _ _ hL hb1)
 have HB1 := Lib.hid hb1
 clear hL hb1 HO HL
 go_upto_region 6 with (go_at_call 52; refine HC.out.mono ?_; rintro e w2 ⟨A2, c2, rfl, ho2, hb2⟩)
 rw [wrap_full hlen.2]
 have hcl := corrs_spec hlen.2
 have HRD := Lib.hid ho2.rd
 have HLN := Lib.hid (ofN_len (corrsR r))
 rw [HLN.out]
 have hb2s := HB1.out.size
 have HB2 := Lib.hid (HB1.out.trans (hb2.mono hb2s))
 have hc5 := hcl.2.1
 have HCE := Lib.hid (fun (k : Nat) (hk : k < (corrsR r).length) => (hcl.2.2 _ (getD_mem hk 0)).1)
 have HML := Lib.hid (mustF_lt hlen.2)
 have HMS := Lib.hid (fun (k : Nat) (hk : k < (corrsR r).length) => mustF_step hk)
 have HM0 := Lib.hid (show mustF r 0 = (2 ^ r.length - 1, 0) from rfl)
 clear hcl ho2 hb2 hb2s
 go_loopw [6, 7, 25] (fun av sv i wr => ∃ k : Nat, k ≤ (corrsR r).length ∧ i = .int .i64 k ∧ av = .int .i64 (mustF r k).1 ∧ sv = .int .i64 (mustF r k).2 ∧ Qt w2 wr) (fun _ _ i _ => (corrsR r).length - (intOf i).toNat)
 case atStart => exact ⟨0, Nat.zero_le _, rfl, by rw [HM0.out], by rw [HM0.out]; rfl, Qt.refl _⟩
 case round =>
  obtain ⟨k, hk, rfl, rfl, rfl, hq⟩ := hrel
  have Hq := Lib.hid hq
  clear hq
  obtain ⟨m1, m2⟩ := HML.out k hk
  by_cases hlt : k < (corrsR r).length
  ·have hrd := HRD.out.qt Hq.out
   rw [HLN.out] at hrd
   obtain ⟨ad, rfl, _, e1⟩ := hrd.int (by rw [HLN.out]; exact hlt)
   rw [ofN_at hlt] at e1
   have hs := HCE.out k hlt
   have HS := Lib.hid (HMS.out k hlt)
   clear hrd
   generalize (corrsR r).getD k 0 = s at *
   generalize (mustF r k).1 = a at *
   generalize (mustF r k).2 = c at *
   have ba := bits_and_nat a s m1 (by omega)
   have bo := bits_or_nat c s m2 (by omega)
   go_wp2
   go_roundw
   case rel => exact ⟨k + 1, by omega, by go_num, by rw [HS.out], by rw [HS.out], Hq.out⟩
   case measure => simp [intOf]; omega
  ·have hkn : k = (corrsR r).length := by omega
   have HK := Lib.hid (show mustF r (corrsR r).length = mustF r k by rw [← hkn])
   clear hkn
   have HBr := Lib.hid (HB2.out.trans (Hq.out.below _))
   have H1 := Lib.hid (rlist_any m1 wr (HD.out _ HBr.out))
   have H2 := Lib.hid (fun (X : World) (hb : Below wr.heap.size wr X) => rlist_any m2 X (HD.out _ (HBr.out.trans (hb.mono HBr.out.size))))
   go_wp2_with (first | (go_at_call 50; with_reducible refine Calls.mono H1.out ?_; rintro e w3 ⟨A3, c3, rfl, ho3, hb3⟩) | (go_at_call 50; with_reducible refine Calls.mono (H2.out _ hb3) ?_; rintro e w4 ⟨A4, c4, rfl, ho4, hb4⟩))
   go_ret3
   refine ⟨A3, c3, A4, c4, ?_, ?_, ?_, HBr.out.trans ((hb3.mono HBr.out.size).trans (hb4.mono (Nat.le_trans HBr.out.size hb3.size)))⟩
   ·rw [HK.out]; rfl
   ·rw [HK.out]; exact (ho3.below hb4).mono HBr.out.size
   ·rw [HK.out]; exact ho4.mono (Nat.le_trans HBr.out.size hb3.size)
end Go.Proofs.YthnimhnlnddnoaaGreatDoor
