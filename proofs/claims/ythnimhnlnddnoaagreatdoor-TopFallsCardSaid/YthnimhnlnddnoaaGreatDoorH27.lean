/- Parts of the proof of TpP: Tk8, Lns, Rdd1, Rdd2. -/
import Derived.Test.YthnimhnlnddnoaaGreatDoorH25
import Derived.Test.YthnimhnlnddnoaaGreatDoorH26
import Derived.WalkKit
import Derived.Deep.Quiet
import Derived.Test.YthnimhnlnddnoaaGreatDoorH21
import Derived.Test.YthnimhnlnddnoaaGreatDoorH14
import Derived.Lib.IndexLaws
import Derived.Recover
import Derived.RecoverIn
import Derived.Lib.SplitLaws
set_option linter.unusedSimpArgs false
set_option linter.unusedVariables false
set_option maxRecDepth 100000
set_option maxHeartbeats 8000000
namespace Go.Proofs.YthnimhnlnddnoaaGreatDoor
open Go.RowKit
theorem ne_list {x : ByteArray} {l : List UInt8} (h : ¬ x = ⟨l.toArray⟩) : (x.toList == l) = false := by
 rw [ByteArray.toList_eq]
 refine beq_false_of_ne fun e => h ?_
 obtain ⟨⟨d⟩⟩ := x
 simp at e
 rw [e]
theorem take_none_any {w : World} {base H gw cw : Nat} {vp vn : Value} {s : ShR} {ws : List ByteArray} (h : TakeIn base H gw cw vp vn s ws w) (h1 : ¬ wd ws 0 = wSheet) (h2 : ¬ wd ws 0 = wPoint) (h3 : ¬ wd ws 0 = wLake) (h4 : ¬ wd ws 0 = wSpot) (h5 : ¬ wd ws 0 = wContour) (h6 : ¬ wd ws 0 = wSlope) :
  Calls Tryz.prog 67 #[.pointer (some ⟨H, 0, none⟩), .slice (some ⟨gw, 0, none⟩) ws.length cw] w fun e w' => TakeQ base H vp vn s ws w e w' := by
 obtain ⟨W2, hW2, hT⟩ := takeW_made w H gw cw ws.length
 have x0 := wd_at h.wd (i := 0) (by have := h.one; omega)
 have x0 := (hT.below.cell (cell_lt x0)).trans x0
 have p0 := cellOf hT.b0 0 rfl
 have p1 := cellOf hT.b1 0 rfl
 have HT := Lib.hid hT
 have HS := Lib.hid h
 have HFin := Lib.hid (fin_of h hT)
 have HTk := Lib.hid (show takeF s ws = none by unfold takeF; rw [if_neg h1, if_neg h2, if_neg h3, if_neg (fun e => e.elim h4 h5), if_neg h6])
 have hpos : 0 < ws.length := by have := h.one; omega
 have HE := Lib.hid (show TakeQ base H vp vn s ws w (.panicked chE) W2 from .inr ⟨HTk.out, rfl, HFin.out W2 (Below.refl _ _)⟩)
 unfold wSheet at h1
 unfold wPoint at h2
 unfold wLake at h3
 unfold wSpot at h4
 unfold wContour at h5
 unfold wSlope at h6
 clear hT h HTk HFin
 generalize wd ws 0 = x at *
 have b1 := ne_list h1
 have b2 := ne_list h2
 have b3 := ne_list h3
 have b4 := ne_list h4
 have b5 := ne_list h5
 have b6 := ne_list h6
 go_enter Tryz.func67, Tryz.ntmps67
 go_upto_region 1 with (fail)
 rw [← hW2]
 clear hW2
 go_wp2_with (first | (refine wpList_mkfn2 rfl _ _ rfl (cs := #[.pointer (some ⟨w.heap.size + 1, 0, none⟩), .pointer (some ⟨w.heap.size, 0, none⟩)]) rfl ?_; simp only [Act.put, List.setIfInBounds_toArray, List.set_cons_succ, List.set_cons_zero]) | (go_at_call 70; refine (must_false _).mono ?_; rintro e wm ⟨rfl, hw⟩; subst wm; exact ⟨rfl, HE.out⟩))
theorem take_any {w : World} {base H gw cw : Nat} {vp vn : Value} {s : ShR} {ws : List ByteArray} (h : TakeIn base H gw cw vp vn s ws w) :
  Calls Tryz.prog 67 #[.pointer (some ⟨H, 0, none⟩), .slice (some ⟨gw, 0, none⟩) ws.length cw] w fun e w' => TakeQ base H vp vn s ws w e w' := by
 by_cases h1 : wd ws 0 = wSheet
 ·exact take_sheet_any h h1
 by_cases h2 : wd ws 0 = wPoint
 ·exact take_point_any h h2
 by_cases h3 : wd ws 0 = wLake
 ·exact take_lake_any h h3
 by_cases h4 : wd ws 0 = wSpot
 ·exact take_spot_any h h4
 by_cases h5 : wd ws 0 = wContour
 ·exact take_contour_any h h5
 by_cases h6 : wd ws 0 = wSlope
 ·exact take_slope_any h h6
 exact take_none_any h h1 h2 h3 h4 h5 h6
end Go.Proofs.YthnimhnlnddnoaaGreatDoor
namespace Go.Proofs.YthnimhnlnddnoaaGreatDoor
open Go.RowKit Go.Shelf
attribute [local go_sem] Oper.semAt_some
def nlOf (s : ByteArray) : Int := Lib.indexByte s.data.toList 10
def lineOf (s : ByteArray) : ByteArray := if 0 ≤ nlOf s then s.extract 0 ((nlOf s).toNat + 1) else s
def nextOf (s : ByteArray) : ByteArray := if 0 ≤ nlOf s then s.extract ((nlOf s).toNat + 1) s.size else ByteArray.empty
def restOf : Nat → ByteArray → ByteArray
 | 0, s => s
 | k + 1, s => restOf k (nextOf s)
def linesN : Nat → ByteArray → List ByteArray
 | 0, _ => []
 | f + 1, s => if s.size = 0 then [] else lineOf s :: linesN f (nextOf s)
def linesOf (t : ByteArray) : List ByteArray := linesN t.size t
theorem nlOf_lt {s : ByteArray} (h : 0 ≤ nlOf s) : ∃ n : Nat, nlOf s = n ∧ n < s.size := by
 obtain ⟨n, hn⟩ := Int.eq_ofNat_of_zero_le h
 refine ⟨n, hn, ?_⟩
 have h1 := (Lib.indexByte_some hn).1
 have h2 := (List.getElem?_eq_some_iff.1 h1).1
 simpa using h2
theorem nextOf_size {s : ByteArray} (h : 0 < s.size) : (nextOf s).size < s.size := by
 unfold nextOf
 split
 ·rename_i h0
  obtain ⟨n, hn, hlt⟩ := nlOf_lt h0
  rw [ByteArray.size_extract, hn]
  omega
 ·simpa using h
theorem restOf_succ (k : Nat) (s : ByteArray) : restOf (k + 1) s = nextOf (restOf k s) := by
 induction k generalizing s with
 | zero => rfl
 | succ k ih => rw [restOf, ih, restOf]
theorem linesN_spec (f : Nat) (s : ByteArray) (h : s.size ≤ f) : (∀ k, k < (linesN f s).length → 0 < (restOf k s).size ∧ (linesN f s)[k]? = some (lineOf (restOf k s))) ∧ (restOf (linesN f s).length s).size = 0 := by
 induction f generalizing s with
 | zero => exact ⟨fun k hk => by simp [linesN] at hk, by simpa [linesN, restOf] using h⟩
 | succ f ih =>
  unfold linesN
  by_cases h0 : s.size = 0
  ·rw [if_pos h0]
   exact ⟨fun k hk => by simp at hk, h0⟩
  ·rw [if_neg h0]
   obtain ⟨h1, h2⟩ := ih (nextOf s) (by have := nextOf_size (s := s) (by omega); omega)
   refine ⟨fun k hk => ?_, h2⟩
   cases k with
   | zero => exact ⟨by show 0 < s.size; omega, rfl⟩
   | succ k => exact h1 k (by simpa using hk)
theorem restOf_small {k : Nat} {s : ByteArray} {n : Nat} (h : s.size ≤ n) : (restOf k s).size ≤ n := by
 induction k generalizing s with
 | zero => exact h
 | succ k ih =>
  refine ih ?_
  unfold nextOf
  split
  ·rw [ByteArray.size_extract]; omega
  ·simp
theorem lineOf_small {s : ByteArray} : (lineOf s).size ≤ s.size := by
 unfold lineOf
 split
 ·rw [ByteArray.size_extract]; omega
 ·exact Nat.le_refl _
theorem linesOf_small {t x : ByteArray} (h : x ∈ linesOf t) : x.size ≤ t.size := by
 obtain ⟨k, hk, rfl⟩ := List.getElem_of_mem h
 obtain ⟨h1, _⟩ := linesN_spec t.size t (Nat.le_refl _)
 have := (h1 k hk).2
 unfold linesOf at hk ⊢
 rw [List.getElem?_eq_getElem hk, Option.some.injEq] at this
 rw [this]
 exact Nat.le_trans lineOf_small (restOf_small (Nat.le_refl _))
theorem linesN_len (f : Nat) (s : ByteArray) : (linesN f s).length ≤ f := by
 induction f generalizing s with
 | zero => simp [linesN]
 | succ f ih =>
  unfold linesN
  split
  ·simp
  ·have := ih (nextOf s)
   simp
   omega
structure LnS (bx : Nat) (w w' : World) : Prop where
 os : w'.os = w.os
 tape : w'.tape = w.tape
 output : w'.output = w.output
 size : w.heap.size ≤ w'.heap.size
 block : ∀ k, k < w.heap.size → k ≠ bx → w'.heap[k]? = w.heap[k]?
 m0 : ∃ s f, w.heap[bx]? = some (.cells #[.string s] 9 f)
def LnK (bx : Nat) (w w' : World) : Prop := ∀ cs f, w.heap[bx]? = some (.cells cs 9 f) → w'.heap[bx]? = some (.cells cs 9 f)
theorem LnS.set_ {bx : Nat} {w w1 : World} {s : ByteArray} (hb : Below w.heap.size w w1) (h : w.heap[bx]? = some (.cells #[.string s] 9)) (v : Value) : LnS bx w (w1.setCell ⟨bx, 0, none⟩ v) :=
 ⟨hb.os, hb.tape, hb.output, by rw [World.size_setCell]; exact hb.size, fun k hk hne => (Below.heap_setCell _ _ _ _ hne).trans (hb.block k hk), s, _, h⟩
theorem box_set {bx : Nat} {w w1 : World} {s : ByteArray} (hb : Below w.heap.size w w1) (h : w.heap[bx]? = some (.cells #[.string s] 9)) (s' : ByteArray) : (w1.setCell ⟨bx, 0, none⟩ (.string s')).heap[bx]? = some (.cells #[.string s'] 9) :=
 (row3 ((hb.block _ (lt_of_block h)).trans h) 0 _).trans (by simp)
def sizeAt (bx : Nat) (w : World) : Nat := match w.cell? ⟨bx, 0, none⟩ with | some (.string s) => s.size | _ => 0
theorem sizeAt_eq {bx : Nat} {w : World} {s : ByteArray} (h : w.heap[bx]? = some (.cells #[.string s] 9)) : sizeAt bx w = s.size := by
 unfold sizeAt
 rw [cellOf h 0 (v := .string s) rfl]
theorem lines_iter (t : ByteArray) (ht : t.size ≤ 1000000) (bx : Nat) : ∀ (l : Nat) (Y : Nat → World → Prop) (ZP : List PanicEntry → World → Prop) (W : World),
  (∀ k A B, Y k A → LnS bx A B → Y k B) →
  (∀ k A, k < (linesOf t).length → Y k A → YieldAt Fence.wide 0 Tryz.prog l #[.string ((linesOf t)[k]?.getD ByteArray.empty)] A fun e B => (e = .returned (.bool true) ∧ Y (k + 1) B ∧ LnK bx A B) ∨ (∃ c, e = .panicked c ∧ ZP c B)) →
  Y 0 W → W.heap[bx]? = some (.cells #[.string t] 9) → CallsIn Fence.wide 0 Tryz.prog 105 (#[.func (.yield l) #[] #[]] ++ #[.pointer (some ⟨bx, 0, none⟩)]) W fun e B => (∃ v, e = .returned v ∧ Y (linesOf t).length B) ∨ (∃ c, e = .panicked c ∧ ZP c B) := by
 intro L Y ZP W hS hR h0 hbx
 refine callsIn_wide.2 ?_
 show Calls Tryz.prog 105 #[.func (.yield L) #[] #[], .pointer (some ⟨bx, 0, none⟩)] W _
 obtain ⟨hsp, hend⟩ := linesN_spec t.size t (Nat.le_refl _)
 rw [show linesN t.size t = linesOf t from rfl] at hsp hend
 have HSp := Lib.hid hsp
 have HEn := Lib.hid hend
 have HS := Lib.hid hS
 have HR := Lib.hid hR
 have H0 := Lib.hid h0
 have HB := Lib.hid hbx
 clear hsp hend hS hR h0 hbx
 go_enter Tryz.func105, Tryz.ntmps105
 go_wp2
 go_loopw [4] (fun _ wr => ∃ k : Nat, k ≤ (linesOf t).length ∧ Y k wr ∧ wr.heap[bx]? = some (.cells #[.string (restOf k t)] 9)) (fun _ wr => sizeAt bx wr)
 case atStart => exact ⟨0, Nat.zero_le _, H0.out, HB.out⟩
 case round =>
  clear H0 HB
  obtain ⟨k, hk, hY, hB⟩ := hrel
  have hsz := restOf_small (k := k) ht
  have hsa := sizeAt_eq hB
  have hfr : wr.frozen? ⟨bx, 0, none⟩ = false := by simp [World.frozen?, hB]
  have hc := cellOf hB 0 (v := .string (restOf k t)) rfl
  by_cases hlt : k < (linesOf t).length
  ·obtain ⟨hpos, hline⟩ := HSp.out k hlt
   have hnx := restOf_succ k t
   have hdn := nextOf_size hpos
   have HIB := Lib.hid (Tryz.strings_IndexByte (restOf k t) 10 wr)
   rw [show Lib.indexByte (restOf k t).data.toList (10 : Int).toNat.toUInt8 = nlOf (restOf k t) from rfl] at HIB
   have HRd := Lib.hid (fun A => HR.out k A hlt)
   have hel : (linesOf t)[k]?.getD ByteArray.empty = lineOf (restOf k t) := by rw [hline]; rfl
   rw [hel] at HRd
   have HY := Lib.hid hY
   have HB := Lib.hid hB
   have HNx := Lib.hid hnx
   have HDn := Lib.hid hdn
   have HSa := Lib.hid hsa
   have Hpos := Lib.hid hpos
   clear hline hel hY hB hnx hdn hsa
   have hposb : decide (0 < (restOf k t).size) = true := decide_eq_true hpos
   generalize hr : restOf k t = r at *
   have hlen : ((r.size : Int) > 0) := by omega
   by_cases hn : 0 ≤ nlOf r
   ·obtain ⟨n, hne, hnlt⟩ := nlOf_lt hn
    have HLo := Lib.hid (show lineOf r = r.extract 0 (n + 1) by unfold lineOf; rw [if_pos hn, hne]; rfl)
    have HNo := Lib.hid (show nextOf r = r.extract (n + 1) r.size by unfold nextOf; rw [if_pos hn, hne]; rfl)
    rw [hne] at HIB
    have hwn : IntKind.i64.wrap ((n : Int) + 1) = ((n + 1 : Nat) : Int) := IntWalk.i64_in _ (by omega)
    have hw0 : IntKind.i64.wrap (n : Int) = n := IntWalk.i64_in _ (by omega)
    have hn1 : n + 1 ≤ r.size := hnlt
    clear hn hne hr hnlt
    go_upto_region 4 with (go_at_call 106; refine HIB.out.mono ?_; rintro e w3 ⟨rfl, hw3⟩; subst w3)
    have C1 := Aft.cell hc
    refine region_quiet_tail (C := fun w' => ∃ x : Aft wr, w' = x.1) 9 (by kernel_rfl) (by kernel_rfl) ⟨⟨wr.drew, (Below.refl _ _).drew⟩, rfl⟩ ?_
    simp only [List.take_succ_cons, List.take_zero, List.drop_succ_cons, List.drop_zero]
    repeat (first | go_big_quiet_step (fail) | quiet_step (fail))
    refine wpQuiet_nil ?_
    rintro wx ⟨⟨_, hbx⟩, rfl⟩
    have kx := (hbx.block _ (lt_of_block HB.out)).trans HB.out
    have cx := cellOf kx 0 (v := .string r) rfl
    have fx : wx.frozen? ⟨bx, 0, none⟩ = false := by simp [World.frozen?, kx]
    have HKx := Lib.hid kx
    have HBx := Lib.hid hbx
    clear C1 hc hfr hbx kx
    go_upto_region 6 with (fail)
    obtain ⟨wq, hwq⟩ : ∃ wq, wq = wx.setCell ⟨bx, 0, none⟩ (.string (r.extract (n + 1) r.size)) := ⟨_, rfl⟩
    rw [← hwq]
    have HQ := Lib.hid (show wq.heap[bx]? = some (.cells #[.string (restOf (k + 1) t)] 9) by rw [HNx.out, HNo.out, hwq]; exact box_set HBx.out HB.out _)
    have HYq := Lib.hid (HS.out k wr wq HY.out (by rw [hwq]; exact LnS.set_ HBx.out HB.out _))
    rw [HLo.out] at HRd
    have HYl := Lib.hid (HRd.out _ HYq.out)
    clear hwq cx fx HKx HBx
    obtain ⟨fn, tmps, assign, body, hy, hRR⟩ := HYl.out
    have HRR := Lib.hid hRR
    clear hRR
    refine (wpIn_wide (n := 0)).1 ?_
    gi_wp2
    refine ⟨rfl, HRR.out.mono ?_⟩
    rintro e W' (⟨rfl, hY', hK⟩ | ⟨c, rfl, hZ⟩)
    ·gi_wp2
     go_wp2
     go_roundw
     case rel => exact ⟨k + 1, by omega, hY', hK _ _ HQ.out⟩
     case measure => rw [sizeAt_eq (hK _ _ HQ.out), HSa.out, HNx.out]; exact HDn.out
    ·exact ⟨rfl, .inr ⟨c, rfl, hZ⟩⟩
   ·have HLo := Lib.hid (show lineOf r = r by unfold lineOf; rw [if_neg hn])
    have HNo := Lib.hid (show nextOf r = ⟨#[]⟩ by unfold nextOf; rw [if_neg hn]; rfl)
    have hnb : decide (nlOf r ≥ 0) = false := decide_eq_false hn
    have hnb2 : decide (0 ≤ nlOf r) = false := decide_eq_false hn
    generalize nlOf r = m at *
    clear hr
    go_upto_region 6 with (go_at_call 106; refine HIB.out.mono ?_; rintro e w3 ⟨rfl, hw3⟩; subst w3)
    obtain ⟨wq, hwq⟩ : ∃ wq, wq = wr.setCell ⟨bx, 0, none⟩ (.string ⟨#[]⟩) := ⟨_, rfl⟩
    rw [← hwq]
    have HQ := Lib.hid (show wq.heap[bx]? = some (.cells #[.string (restOf (k + 1) t)] 9) by rw [HNx.out, HNo.out, hwq]; exact box_set (Below.refl _ _) HB.out _)
    have HYq := Lib.hid (HS.out k wr wq HY.out (by rw [hwq]; exact LnS.set_ (Below.refl _ _) HB.out _))
    rw [HLo.out] at HRd
    have HYl := Lib.hid (HRd.out _ HYq.out)
    clear hwq hc hfr
    obtain ⟨fn, tmps, assign, body, hy, hRR⟩ := HYl.out
    have HRR := Lib.hid hRR
    clear hRR
    refine (wpIn_wide (n := 0)).1 ?_
    gi_wp2
    refine ⟨rfl, HRR.out.mono ?_⟩
    rintro e W' (⟨rfl, hY', hK⟩ | ⟨c, rfl, hZ⟩)
    ·gi_wp2
     go_wp2
     go_roundw
     case rel => exact ⟨k + 1, by omega, hY', hK _ _ HQ.out⟩
     case measure => rw [sizeAt_eq (hK _ _ HQ.out), HSa.out, HNx.out]; exact HDn.out
    ·exact ⟨rfl, .inr ⟨c, rfl, hZ⟩⟩
  ·obtain rfl : k = (linesOf t).length := by omega
   have he := HEn.out
   have heb : decide (0 < (restOf (linesOf t).length t).size) = false := decide_eq_false (by omega)
   have HY := Lib.hid hY
   clear hY hB hsa hsz hlt hk
   generalize restOf (linesOf t).length t = r at *
   go_wp2
   go_end0
   exact .inl ⟨_, rfl, HY.out⟩
theorem lines_any (t : ByteArray) (w : World) :
  Calls Tryz.prog 66 #[.string t] w fun e w' => e = .returned (.func (.func 105) #[] #[.pointer (some ⟨w.heap.size, 0, none⟩)]) ∧ w' = w.alloc (.cells #[.string t] 9) := by
 go_enter Tryz.func66, Tryz.ntmps66
 go_wp2
 go_ret
 exact ⟨rfl, rfl⟩
end Go.Proofs.YthnimhnlnddnoaaGreatDoor
namespace Go.Proofs.YthnimhnlnddnoaaGreatDoor
open Go.RowKit
theorem catch_idle (p q : Addr) (w : World) : CallsDIn Fence.wide 0 Tryz.prog 65 #[.pointer (some p), .pointer (some q)] .returning w fun e u' w' => e = .returned (.tuple #[]) ∧ u' = .returning ∧ w' = w := by
 refine callsDIn_of_wpSIn Tryz.func65 rfl trivial fun c₀ cs hu => ?_
 apply wpSIn_seq
 apply wpSIn_region
 simp [wpOpsSIn, go_sem, recoverD, hu, Tryz.ntmps65, Exit.thenS, Fence.wide]
 apply wpSIn_seq
 apply wpSIn_region
 simp [wpOpsSIn, go_sem, Exit.thenS]
 refine wpSIn_cond (t := false) (by simp [Act.eval, Array.replicate]) ?_
 simp only [Bool.false_eq_true, if_false]
 refine wpSIn_of_wpIn rfl (wpIn_skip ?_)
 cases c₀
 simp_all [bodyPostS, results, Tryz.results65]
theorem ta26 (w : World) : (Instr.typeAssert (.iface 26 (.int .i64 6)) 20 26 false).run Tryz.prog w = .ok (.int .i64 6) w := by kernel_rfl
structure CtI (H : Nat) (w : World) (a : Int) (vp vn ve : Value) (L : Nat → Bool) (vs : Nat → Value) (X : World) : Prop where
 bel : Below H w X
 f0 : L 0 = true → vs 0 = .agg #[.int .i64 0, .slice none 0 0, .slice none 0 0]
 f1 : L 1 = true → vs 1 = .iface 26 (.int .i64 6)
 f2 : L 2 = true → vs 2 = .int .i64 6
 rH : X.heap[H]? = some (.cells (if L 3 = true then #[.int .i64 0, .slice none 0 0, .slice none 0 0] else #[.int .i64 a, vp, vn]) 38)
 rE : X.heap[H + 1]? = some (.cells (if L 4 = true then #[.int .i64 6] else #[ve]) 26)
theorem catch_line {H : Nat} {w : World} {a : Int} {vp vn ve : Value} (hH : w.heap[H]? = some (.cells #[.int .i64 a, vp, vn] 38)) (hE : w.heap[H + 1]? = some (.cells #[ve] 26)) :
  CallsDIn Fence.wide 0 Tryz.prog 65 #[.pointer (some ⟨H, 0, none⟩), .pointer (some ⟨H + 1, 0, none⟩)] (.panicking chE) w fun e u' w' =>
   e = .returned (.tuple #[]) ∧ u' = .panicking [{ v := .iface 26 (.int .i64 6), recovered := true }] ∧ w'.heap[H]? = some (.cells #[.int .i64 0, .slice none 0 0, .slice none 0 0] 38) ∧ w'.heap[H + 1]? = some (.cells #[.int .i64 6] 26) ∧ Below H w w' := by
 refine callsDIn_of_wpSIn Tryz.func65 rfl trivial fun c₀ cs hu => ?_
 unfold chE at hu
 apply wpSIn_seq
 apply wpSIn_region
 simp [wpOpsSIn, go_sem, recoverD, hu, Tryz.ntmps65, Exit.thenS, Fence.wide]
 apply wpSIn_seq
 apply wpSIn_region
 simp [wpOpsSIn, go_sem, Exit.thenS]
 refine wpSIn_cond (t := true) (by simp [Act.eval, Array.replicate]) ?_
 simp only [if_true]
 refine wpSIn_of_wpIn rfl ?_
 refine (wpIn_wide (n := 0)).2 ?_
 have ht := fun w : World => ta26 w
 have HH := Lib.hid hH
 have HE := Lib.hid hE
 clear hH hE
 refine wp_region_ghost (CtI H w a vp vn ve) (by kernel_rfl) (by kernel_rfl) ?_ ?_ ?_
 ·exact ⟨(Below.refl _ _).drew, fun h => (by cases h), fun h => (by cases h), fun h => (by cases h), HH.out, HE.out⟩
 ·refine ⟨?_, ?_, ?_, ?_, ?_, trivial⟩
  all_goals
   intro L vs X b hL hw hcl hI hf
  ·exact wp_of_run (v := .agg #[.int .i64 0, .slice none 0 0, .slice none 0 0]) (w' := X) (by unfold execOp; go_simp) (⟨hI.bel, fun _ => rfl, hI.f1, hI.f2, hI.rH, hI.rE⟩)
  ·have e2 : b.tmps[2]?.getD undef = .iface 26 (.int .i64 6) := hf.old 2 (by kernel_rfl)
   exact wp_of_run (v := .iface 26 (.int .i64 6)) (w' := X) (by unfold execOp; go_simp) (⟨hI.bel, hI.f0, fun _ => rfl, hI.f2, hI.rH, hI.rE⟩)
  ·have e7 := hf.got hw 1 7 (.iface 26 (.int .i64 6)) rfl (by kernel_rfl) (by simp) hI.f1
   exact wp_of_run (v := .int .i64 6) (w' := X) (by unfold execOp; go_simp) (⟨hI.bel, hI.f0, hI.f1, fun _ => rfl, hI.rH, hI.rE⟩)
  ·have h0 : L 0 = true := done_of hw 0 (by kernel_rfl)
   have e0 : b.tmps[0]?.getD undef = .pointer (some ⟨H, 0, none⟩) := hf.old 0 (by kernel_rfl)
   have e6 : b.tmps[6]?.getD undef = .agg #[.int .i64 0, .slice none 0 0, .slice none 0 0] := (hf.new 0 6 rfl h0 (by simp)).trans (hI.f0 h0)
   have hr := hI.rH
   rw [hL] at hr
   replace hr : X.heap[H]? = some (.cells #[.int .i64 a, vp, vn] 38) := hr
   refine wp_store_row 38 (.tmp 0) (.tmp 6) rfl H #[.int .i64 0, .slice none 0 0, .slice none 0 0] (eval_tmp e0) (eval_tmp e6) 38 _ hr (by kernel_rfl) rfl (by simp [Value.oneCell']) ⟨_, rfl, ?_⟩
   refine ⟨hI.bel.trans (setRow_below _ (Nat.le_refl _)), hI.f0, hI.f1, hI.f2, ?_, ?_⟩
   ·rw [show updB L 3 3 = true from rfl]
    exact setRow_heap _ _ _ _ _ _ hr
   ·exact (setRow_other _ _ _ _ (by omega)).trans hI.rE
  ·have h2 : L 2 = true := done_of hw 2 (by kernel_rfl)
   have h3 : L 3 = true := done_of hw 3 (by kernel_rfl)
   have e1 : b.tmps[1]?.getD undef = .pointer (some ⟨H + 1, 0, none⟩) := hf.old 1 (by kernel_rfl)
   have e8 : b.tmps[8]?.getD undef = .int .i64 6 := (hf.new 2 8 rfl h2 (by simp)).trans (hI.f2 h2)
   have hr := hI.rE
   rw [hL] at hr
   replace hr : X.heap[H + 1]? = some (.cells #[ve] 26) := hr
   have c0 := cellOf hr 0 (v := ve) rfl
   have f0 : X.frozen? ⟨H + 1, 0, none⟩ = false := by simp [World.frozen?, hr]
   refine wp_of_skip (w' := X.setCell ⟨H + 1, 0, none⟩ (.int .i64 6)) (by unfold execOp; go_simp) ?_
   refine ⟨hI.bel.setCell (Nat.le_succ _) _, hI.f0, hI.f1, hI.f2, ?_, ?_⟩
   ·exact (Below.heap_setCell _ _ _ _ (by show H ≠ H + 1; omega)).trans hI.rH
   ·rw [show updB L 4 4 = true from rfl]
    exact (row3 hr 0 _).trans (by simp)
 ·intro vs X hI
  simp [fill, slotOf, Act.put]
  have r1 := hI.rH
  have r2 := hI.rE
  cases c₀
  simp only at hu
  subst hu
  simp [bodyPostS, results, Tryz.results65]
  exact ⟨r1, r2, hI.bel⟩
end Go.Proofs.YthnimhnlnddnoaaGreatDoor
namespace Go.Proofs.YthnimhnlnddnoaaGreatDoor
open Go.RowKit Go.Shelf
def trimL (x : ByteArray) : ByteArray := ⟨(Lib.trimSuffix x.data.toList [10]).toArray⟩
def wordsOf (x : ByteArray) : List ByteArray := Lib.splitB ⟨#[32]⟩ 0 (Lib.countB (trimL x) ⟨#[32]⟩) (trimL x)
def endF (t : ByteArray) : Option ShR → ShR × Int
 | none => (zeroS, 6)
 | some s => if errOf s = 0 ∧ (⟨(textB s).toArray⟩ : ByteArray) = t then (s, 0) else (zeroS, 6)
def readF (t : ByteArray) : ShR × Int := if 1500 < t.size then (zeroS, 3) else endF t (takesF zeroS ((linesOf t).map wordsOf))
theorem trimL_size (x : ByteArray) : (trimL x).size ≤ x.size := by
 have h : (trimL x).size = (Lib.trimSuffix x.data.toList [10]).length := by unfold trimL; rfl
 rw [h]
 unfold Lib.trimSuffix
 split
 ·rw [List.length_take]
  have : x.data.toList.length = x.size := by simp
  omega
 ·simp
theorem splitB_mem (sep : ByteArray) (save : Nat) : ∀ (k : Nat) (s : ByteArray), ∀ x ∈ Lib.splitB sep save k s, x.size ≤ s.size := by
 intro k
 induction k with
 | zero => intro s x hx; simp [Lib.splitB] at hx; rw [hx]; exact Nat.le_refl _
 | succ k ih =>
  intro s x hx
  unfold Lib.splitB at hx
  split at hx
  ·simp at hx; rw [hx]; exact Nat.le_refl _
  ·rcases List.mem_cons.1 hx with rfl | h
   ·rw [ByteArray.size_extract]; omega
   ·have := ih _ x h
    rw [ByteArray.size_extract] at this
    omega
theorem wordsOf_len (x : ByteArray) : (wordsOf x).length = Lib.countB (trimL x) ⟨#[32]⟩ + 1 := Lib.splitB_all _ (by decide) 0 _ _ rfl
theorem wordsOf_few (x : ByteArray) : 1 ≤ (wordsOf x).length ∧ (wordsOf x).length ≤ x.size + 1 := by
 rw [wordsOf_len]
 have := Lib.countB_le ⟨#[32]⟩ (by decide) _ (trimL x) (Nat.le_refl _)
 have := trimL_size x
 omega
theorem wordsOf_small {x y : ByteArray} (h : y ∈ wordsOf x) : y.size ≤ x.size := Nat.le_trans (splitB_mem _ _ _ _ _ h) (trimL_size x)
theorem takesF_snoc (l : List (List ByteArray)) (ws : List ByteArray) (s : ShR) : takesF s (l ++ [ws]) = (takesF s l).bind fun t => takeF t ws := by
 induction l generalizing s with
 | nil => simp [takesF]
 | cons x l ih =>
  simp only [List.cons_append, takesF]
  cases takeF s x with
  | none => rfl
  | some t => simpa using ih t
def upToF (t : ByteArray) (k : Nat) : Option ShR := takesF zeroS (((linesOf t).map wordsOf).take k)
theorem upToF_succ {t : ByteArray} {k : Nat} (hk : k < (linesOf t).length) : upToF t (k + 1) = (upToF t k).bind fun s => takeF s (wordsOf ((linesOf t)[k]?.getD ByteArray.empty)) := by
 unfold upToF
 rw [List.take_add_one, List.getElem?_map, List.getElem?_eq_getElem hk, Option.map_some, Option.toList_some, takesF_snoc]
 rfl
theorem upToF_none {t : ByteArray} {k j : Nat} (h : upToF t k = none) (hj : k ≤ j) : upToF t j = none := by
 induction j with
 | zero => (have : k = 0 := by omega); subst this; exact h
 | succ j ih =>
  by_cases e : k = j + 1
  ·subst e; exact h
  ·have := ih (by omega)
   by_cases hl : j < (linesOf t).length
   ·rw [upToF_succ hl, this]; rfl
   ·unfold upToF at this ⊢
    rw [List.take_of_length_le (by simp; omega)] at this ⊢
    exact this
theorem upToF_all (t : ByteArray) : upToF t (linesOf t).length = takesF zeroS ((linesOf t).map wordsOf) := by
 unfold upToF
 rw [List.take_of_length_le (by simp)]
structure Few (k : Nat) (s : ShR) : Prop where
 len : s.pts.length + s.notes.length ≤ k
 small : ∀ p ∈ s.pts, p.size ≤ 100000
theorem Few.next {k : Nat} {s t : ShR} {ws : List ByteArray} (h : Few k s) (hw : ∀ x ∈ ws, x.size ≤ 100000) (he : takeF s ws = some t) : Few (k + 1) t := by
 refine ⟨Nat.le_trans (takeF_len he) (by have := h.len; omega), ?_⟩
 unfold takeF at he
 split at he
 ·split at he
  ·simp only [Option.map_eq_some_iff] at he
   obtain ⟨v, _, rfl⟩ := he
   exact h.small
  ·cases he
 ·split at he
  ·split at he
   ·simp only [Option.some.injEq] at he
    subst he
    intro p hp
    simp only [addP, List.mem_append, List.mem_singleton] at hp
    rcases hp with hp | rfl
    ·exact h.small p hp
    ·exact wd_small hw 1
   ·cases he
  ·split at he
   ·split at he
    ·simp only [Option.bind_eq_some_iff, Option.map_eq_some_iff] at he
     obtain ⟨_, _, _, _, rfl⟩ := he
     exact h.small
    ·cases he
   ·split at he
    ·split at he
     ·simp only [Option.bind_eq_some_iff, Option.map_eq_some_iff] at he
      obtain ⟨_, _, _, _, _, _, rfl⟩ := he
      exact h.small
     ·cases he
    ·split at he
     ·split at he
      ·simp only [Option.bind_eq_some_iff, Option.map_eq_some_iff] at he
       obtain ⟨_, _, _, _, _, _, _, _, rfl⟩ := he
       exact h.small
      ·cases he
     ·cases he
structure RdJ (w0 : World) (base H : Nat) (t : ByteArray) (k : Nat) (W : World) : Prop where
 s : ∃ s vp vn, upToF t k = some s ∧ Few k s ∧ SheetAt base W H vp vn s
 er : W.heap[H + 1]? = some (.cells #[.int .i64 0] 26)
 b0 : Below w0.heap.size w0 W
 le : base ≤ W.heap.size
structure RdX (w0 : World) (H : Nat) (t : ByteArray) (W : World) : Prop where
 none_ : upToF t (linesOf t).length = none
 rH : ∃ a vp vn, W.heap[H]? = some (.cells #[.int .i64 a, vp, vn] 38)
 er : W.heap[H + 1]? = some (.cells #[.int .i64 0] 26)
 b0 : Below w0.heap.size w0 W
theorem Own.keepD {α : Type} {At : World → Addr → α → Prop} {sz : Nat} [E : Enc α At sz] {base : Nat} {e : TypeId} {w w' : World} {v : Value} {xs : List α} (h : Own base e w v xs) (hk : ∀ (b : Nat) (cs : Array Value) (f : Nat × Nat), base ≤ b → w.heap[b]? = some (.cells cs e f) → w'.heap[b]? = some (.cells cs e f)) : Own base e w' v xs := by
 rcases h with ⟨hl, h0 | ⟨g, cap, cur, rfl, hbb, hh, r⟩⟩
 ·exact ⟨hl, .inl h0⟩
 ·exact ⟨hl, .inr ⟨g, cap, cur, rfl, hbb, hk _ _ _ hbb hh, r⟩⟩
theorem RdJ.book {w0 : World} {base H B : Nat} {t : ByteArray} {k : Nat} {W W' : World} (h : RdJ w0 base H t k W) (hb : Book B W W') (hB : w0.heap.size ≤ B) : RdJ w0 base H t k W' := by
 obtain ⟨s, vp, vn, h1, h2, h3⟩ := h.s
 exact ⟨⟨s, vp, vn, h1, h2, ⟨hb.data _ _ h3.row rfl, h3.pts.keepD fun b cs f _ hh => hb.data _ _ hh rfl, h3.nts.keepD fun b cs f _ hh => hb.data _ _ hh rfl⟩⟩, hb.data _ _ h.er rfl, h.b0.trans (hb.below.mono hB), Nat.le_trans h.le hb.below.size⟩
theorem RdJ.lns {w0 : World} {base H bx : Nat} {t : ByteArray} {k : Nat} {W W' : World} (h : RdJ w0 base H t k W) (hs : LnS bx W W') (hbx : w0.heap.size ≤ bx) (h1 : bx < base) (h2 : bx ≠ H) (h3 : bx ≠ H + 1) : RdJ w0 base H t k W' := by
 obtain ⟨s, vp, vn, e1, e2, e3⟩ := h.s
 have kp : ∀ (b : Nat) (o : Obj), b ≠ bx → W.heap[b]? = some o → W'.heap[b]? = some o := fun b o hne ho => (hs.block b (lt_of_block ho) hne).trans ho
 refine ⟨⟨s, vp, vn, e1, e2, ⟨kp _ _ (Ne.symm h2) e3.row, e3.pts.keepD fun b cs f hb hh => kp _ _ (by omega) hh, e3.nts.keepD fun b cs f hb hh => kp _ _ (by omega) hh⟩⟩, kp _ _ (Ne.symm h3) h.er, h.b0.trans ⟨hs.os, hs.tape, hs.output, Nat.le_trans h.b0.size hs.size |> fun _ => by have := hs.size; have := h.b0.size; omega, fun j hj => hs.block j (by have := h.b0.size; omega) (by omega)⟩, Nat.le_trans h.le hs.size⟩
theorem LnS.nc {bx : Nat} {w w' : World} (h : LnS bx w w') : NC w w' := fun b o ho hd => by
 refine (h.block b (lt_of_block ho) fun e => ?_).trans ho
 subst e
 obtain ⟨s, f, hs⟩ := h.m0
 rw [hs] at ho
 cases ho
 cases hd
theorem words_rd (W : World) (ws : List ByteArray) (hn : ws.length ≤ 100000) : Rd StrAt 1 (W.alloc (.cells (ws.map Value.string).toArray 9)).heap.size (W.alloc (.cells (ws.map Value.string).toArray 9)) (.slice (some ⟨W.heap.size, 0, none⟩) ws.length ws.length) ws := by
 refine ⟨_, _, rfl, Nat.le_refl _, by omega, fun i x hx => ⟨_, rfl, by simp, ?_⟩⟩
 rw [add_none, Nat.zero_add, Nat.mul_one]
 exact (cell_of_row _ _ i _ _ _ (heap_alloc_new W _)).trans (by simp [hx])
theorem take_step {w0 W : World} {t : ByteArray} {k : Nat} (hJ : RdJ w0 (w0.heap.size + 3) w0.heap.size t k W) (hk : k < (linesOf t).length) (hgl : Glob w0) (ht : t.size ≤ 1500) {x : ByteArray} (hx : (linesOf t)[k]?.getD ByteArray.empty = x) :
  Calls Tryz.prog 67 #[.pointer (some ⟨w0.heap.size, 0, none⟩), .slice (some ⟨W.heap.size, 0, none⟩) (wordsOf x).length (wordsOf x).length] (W.alloc (.cells ((wordsOf x).map Value.string).toArray 9)) fun e W' =>
   (e = .returned (.tuple #[]) ∧ NC W W' ∧ RdJ w0 (w0.heap.size + 3) w0.heap.size t (k + 1) W' ∧ LnK (w0.heap.size + 2) W W') ∨ (e = .panicked chE ∧ NC W W' ∧ RdX w0 w0.heap.size t W') := by
 have hxs : x.size ≤ 1500 := by
  rw [← hx, List.getElem?_eq_getElem hk]
  exact Nat.le_trans (linesOf_small (List.getElem_mem hk)) ht
 have hlen := wordsOf_few x
 obtain ⟨s, vp, vn, hs, hf, hsh⟩ := hJ.s
 have hb1 : Below W.heap.size W (W.alloc (.cells ((wordsOf x).map Value.string).toArray 9)) := (Below.refl _ _).alloc (Nat.le_refl _) _
 have hlines : (linesOf t).length ≤ 1500 := Nat.le_trans (linesN_len _ _) ht
 have hIn : TakeIn (w0.heap.size + 3) w0.heap.size W.heap.size (wordsOf x).length vp vn s (wordsOf x) (W.alloc (.cells ((wordsOf x).map Value.string).toArray 9)) :=
  ⟨hsh.below hb1, words_rd W _ (by omega), hgl.below (hJ.b0.trans (hb1.mono hJ.b0.size)), by omega, Nat.le_trans hJ.le hb1.size, by have := hf.len; omega, fun y hy => by have := wordsOf_small hy; omega, ⟨hlen.1, by omega⟩, fun e => by
   have := (hsh.pts.ownBlock e).2.1
   omega⟩
 have key : ∀ W', TakeK (w0.heap.size + 3) w0.heap.size (W.alloc (.cells ((wordsOf x).map Value.string).toArray 9)) W' → NC W W' ∧ (∀ j, j < w0.heap.size + 3 → ¬ j = w0.heap.size → W'.heap[j]? = W.heap[j]?) ∧ Below w0.heap.size w0 W' ∧ W.heap.size ≤ W'.heap.size := fun W' hK => by
  have hkeep : ∀ j, j < w0.heap.size + 3 → ¬ j = w0.heap.size → W'.heap[j]? = W.heap[j]? := fun j hj hne => (hK.keep j hj hne).trans (hb1.block j (by have := hJ.le; omega))
  have hsz : W.heap.size ≤ W'.heap.size := Nat.le_trans hb1.size hK.b0.size
  exact ⟨((NC.refl W).of_below hb1).trans hK.nc, hkeep, hJ.b0.trans ⟨hK.b0.os, hK.b0.tape, hK.b0.output, by have := hJ.b0.size; omega, fun j hj => hkeep j (by omega) (by omega)⟩, hsz⟩
 refine (take_any hIn).mono ?_
 rintro e W' (⟨s', h1, rfl, vp', vn', h2, hK⟩ | ⟨h1, rfl, h2, hK⟩)
 ·obtain ⟨k1, k2, k3, k4⟩ := key W' hK
  refine .inl ⟨rfl, k1, ⟨⟨s', vp', vn', ?_, hf.next (fun y hy => by have := wordsOf_small hy; omega) h1, h2⟩, (k2 _ (by omega) (by omega)).trans hJ.er, k3, Nat.le_trans hJ.le k4⟩, fun cs f hc => (k2 _ (by omega) (by omega)).trans hc⟩
  rw [upToF_succ hk, hs, hx]
  exact h1
 ·obtain ⟨k1, k2, k3, k4⟩ := key W' hK
  refine .inr ⟨rfl, k1, ⟨?_, ⟨_, _, _, h2.row⟩, (k2 _ (by omega) (by omega)).trans hJ.er, k3⟩⟩
  have : upToF t (k + 1) = none := by rw [upToF_succ hk, hs, hx]; exact h1
  exact upToF_none this hk
end Go.Proofs.YthnimhnlnddnoaaGreatDoor
