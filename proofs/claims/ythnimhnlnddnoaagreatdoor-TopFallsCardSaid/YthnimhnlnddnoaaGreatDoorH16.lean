/- Parts of the proof of TpP: Heights, RvZ1, RvZ2, RvBt, RvZ3. -/
import Derived.Test.YthnimhnlnddnoaaGreatDoorH15
import Derived.Test.YthnimhnlnddnoaaGreatDoorH5
import Derived.WalkKit
import Derived.Deep.Quiet
import Derived.Test.YthnimhnlnddnoaaGreatDoorH11
import Derived.Test.YthnimhnlnddnoaaGreatDoorH6
import Derived.Test.YthnimhnlnddnoaaGreatDoorH2
set_option linter.unusedSimpArgs false
set_option linter.unusedVariables false
set_option maxRecDepth 100000
set_option maxHeartbeats 8000000
namespace Go.Proofs.YthnimhnlnddnoaaGreatDoor
open Go.RowKit
def spansL (m : Mat) (n : Nat) : List (Int × Int) := (List.range n).map fun i => (- m i 8, m 8 i)
def heightsF (s : ShR) : List (Int × Int) := if openE s ≠ 0 then [] else spansL (openM s) s.pts.length
theorem spansL_len (m : Mat) (n : Nat) : (spansL m n).length = n := by simp [spansL]
theorem spansL_snoc (m : Mat) (n : Nat) : spansL m (n + 1) = spansL m n ++ [(- m n 8, m 8 n)] := by
 unfold spansL
 rw [List.range_succ, List.map_append]
 rfl
theorem openM_fine {s : ShR} (h : openE s = 0) : Fine (openM s) := by
 by_cases he : errOf s = 0
 ·unfold openM
  rw [if_neg (by simp [he])]
  have hg := good_of_valid he
  exact allM_fine hg.plen.2 hg.notes free_fine
 ·rw [openE_err he] at h
  exact absurd h he
theorem good_of_open {s : ShR} (h : openE s = 0) : Good s := by
 by_cases he : errOf s = 0
 ·exact good_of_valid he
 ·rw [openE_err he] at h
  exact absurd h he
def OwnRes {α : Type} {At : World → Addr → α → Prop} {sz : Nat} [Enc α At sz] (base : Nat) (t : TypeId) (l : List α) (err : Int) (w : World) (e : Ending) (w' : World) : Prop :=
 ∃ A c, e = .returned (.tuple #[.slice A l.length c, .int .i64 err]) ∧ Own base t w' (.slice A l.length c) l ∧ Below base w w'
theorem heights_any {B : Nat} {w : World} {v : Value} {s : ShR} (hs : RdSh B w v s) (hn : Named s) (hB : B ≤ w.heap.size) :
  Calls Tryz.prog 8 #[v] w (OwnRes w.heap.size 42 (heightsF s) (openE s) w) := by
 obtain ⟨vp, vn, rfl, hp, ho⟩ := id hs
 obtain ⟨Ap, cp, rfl, h5, h6, _⟩ := id hp
 obtain ⟨W1, hW1, r1, z1, d1⟩ := box_any w #[.int .i64 s.iv, .slice Ap s.pts.length cp, vn] 38
 have HO := Lib.hid (open_any (hs.below (d1.mono hB)) hn (Nat.le_trans hB d1.size))
 have HB1 := Lib.hid d1
 have HR1 := Lib.hid r1
 have q0 := cellOf r1 0 rfl
 have q1 := cellOf r1 1 rfl
 have q2 := cellOf r1 2 rfl
 clear hp ho hs r1 z1 d1 h5 h6
 by_cases he : openE s = 0
 ·have hg := good_of_open he
  have hpl := hg.plen.2
  have HF := Lib.hid (openM_fine he)
  have HE := Lib.hid he
  rw [he] at HO
  clear he hg
  go_enter Tryz.func8, Tryz.ntmps8
  go_upto_region 1 with (fail)
  rw [← hW1]
  clear hW1
  go_upto_region 2 with (first | (go_at_call 44; refine HO.out.mono ?_; rintro e w3 ⟨rfl, hb3⟩) | (refine wpList_alloc_mat rfl rfl ?_; intro w4 hw4 hm4 hb4 hz4) | (refine wpList_store_mat rfl _ _ rfl rfl rfl hm4 ?_; intro w5 hm5 hg5))
  have hg5 : w4.grownBy w5 (some w3.heap.size) := hg5
  have hm5 : MatAt w5 w3.heap.size 82 (openM s) := hm5
  have z1 := HB1.out.size
  have z3 := hb3.size
  have hlt := lt_of_block HR1.out
  have hb5 : Below W1.heap.size W1 w5 := hb3.trans ((hb4.mono (by omega)).trans (grown_below hg5 (by omega) (by omega)))
  have k5 := (hb5.block _ hlt).trans HR1.out
  have q1 := cellOf k5 1 rfl
  have HB5 := Lib.hid hb5
  have HK5 := Lib.hid k5
  have HM5 := Lib.hid hm5
  have Z1 := Lib.hid z1
  clear k5 hlt hb5 z1 z3 hg5 hm5 hb4 hm4 hw4 hz4 hb3
  go_wp2
  clear q0 q1 q2
  go_loopw [2, 17] (fun lv i wr => ∃ (k : Nat) (A : Option Addr) (c : Nat), k ≤ s.pts.length ∧ i = .int .i64 k ∧ lv = .slice A k c ∧ Own w5.heap.size 42 wr (.slice A k c) (spansL (openM s) k) ∧ Below w5.heap.size w5 wr) (fun _ i _ => s.pts.length - (intOf i).toNat)
  case atStart => exact ⟨0, none, 0, Nat.zero_le _, rfl, rfl, Own.nil _ _ _, Below.refl _ _⟩
  case round =>
   obtain ⟨k, A, c, hk, rfl, rfl, hown, hbr⟩ := hrel
   by_cases hlt : k < s.pts.length
   ·have hmr := HM5.out.below hbr
    have e1 := hmr.cell (i := k) (k := 8) (by omega) (by omega)
    have e2 := hmr.cell (i := 8) (k := k) (by omega) (by omega)
    have p1 := HF.out.ge (i := k) (k := 8) (by omega) (by omega)
    have p2 := HF.out.le k 8 (by omega) (by omega)
    have Hsn := Lib.hid (spansL_snoc (openM s) k)
    have Hll := Lib.hid (spansL_len (openM s) k)
    have Hown := Lib.hid hown
    have Hbr := Lib.hid hbr
    simp only [Nat.reduceMul] at e2
    clear hown hbr hmr
    generalize openM s k 8 = x1 at *
    generalize openM s 8 k = x2 at *
    generalize spansL (openM s) k = l at *
    have s1 : IntKind.i64.wrap (-x1) = -x1 := IntWalk.i64_in _ (by omega)
    go_upto_region 7 with (fail)
    refine region_move_quiet_tail2 (C := fun w' => ∃ n, w' = wr.drewN n) 11 _ rfl rfl (by kernel_rfl) (by kernel_rfl) ⟨1, rfl⟩ ?_
    simp only [List.take_succ_cons, List.take_zero, List.drop_succ_cons, List.drop_zero, Nat.reduceSub]
    repeat (first | go_big_quiet_step (fail) | quiet_step (fail))
    refine wpQuiet_nil ?_
    rintro _ ⟨n1, rfl⟩
    obtain ⟨wq, hwq⟩ : ∃ wq, wq = wr.drewN n1 := ⟨_, rfl⟩
    rw [← hwq]
    have hownq : Own w5.heap.size 42 wq (.slice A k c) l := by rw [hwq]; exact Hown.out.qt ⟨n1, rfl⟩
    have hbq : Below w5.heap.size w5 wq := by rw [hwq]; exact below_drewN Hbr.out n1
    obtain ⟨A2, c2', w2, hrun, hown2, hb2, _⟩ := append_span hownq (-x1, x2) (by rw [Hll.out]; omega) hbq.size
    rw [Hll.out] at hrun hown2
    have Hown2 := Lib.hid hown2
    have Hb2 := Lib.hid (hbq.trans hb2)
    clear hwq hownq hbq hown2 hb2 e1 e2
    go_wp2_with (at_builtin; refine wpList_append_run rfl _ _ _ rfl rfl rfl hrun ?_)
    refine NoPanic.normal ?_
    simp only [Exit.inBlock, Exit.then]
    go_wp2
    go_roundw
    case rel => exact ⟨k + 1, A2, c2', by omega, by go_num, rfl, by rw [Hsn.out]; exact Hown2.out, Hb2.out⟩
    case measure => simp [intOf]; omega
   ·have hkn : k = s.pts.length := by omega
    subst hkn
    have Hown := Lib.hid hown
    have Hbr := Lib.hid hbr
    have hF := Lib.hid (show heightsF s = spansL (openM s) s.pts.length by unfold heightsF; rw [if_neg (by simp [HE.out])])
    have hlen := Lib.hid (spansL_len (openM s) s.pts.length)
    clear hown hbr
    go_wp2
    go_ret2
    refine ⟨A, c, ?_, ?_, ?_⟩
    ·rw [hF.out, hlen.out, HE.out]; rfl
    ·rw [hF.out, hlen.out]
     exact Hown.out.mono (Nat.le_trans HB1.out.size HB5.out.size)
    ·exact HB1.out.trans ((HB5.out.trans (Hbr.out.mono HB5.out.size)).mono Z1.out)
 ·have hne : (openE s != 0) = true := by simp [he]
  have hF := Lib.hid (show heightsF s = [] by unfold heightsF; rw [if_pos he])
  clear he
  go_enter Tryz.func8, Tryz.ntmps8
  go_upto_region 1 with (fail)
  rw [← hW1]
  clear hW1
  go_wp2_with (first | (go_at_call 44; refine HO.out.mono ?_; rintro e w3 ⟨rfl, hb3⟩) | (refine wpList_alloc_mat rfl rfl ?_; intro w4 hw4 hm4 hb4 hz4) | (refine wpList_store_mat rfl _ _ rfl rfl rfl hm4 ?_; intro w5 hm5 hg5))
  have hg5 : w4.grownBy w5 (some w3.heap.size) := hg5
  have z1 := HB1.out.size
  have z3 := hb3.size
  go_ret2
  refine ⟨none, 0, by rw [hF.out]; rfl, by rw [hF.out]; exact Own.nil _ _ _, ?_⟩
  exact HB1.out.trans ((hb3.trans ((hb4.mono (by omega)).trans (grown_below hg5 (by omega) (by omega)))).mono z1)
end Go.Proofs.YthnimhnlnddnoaaGreatDoor
namespace Go.Proofs.YthnimhnlnddnoaaGreatDoor
open Go.RowKit Go.Shelf
theorem rheight_any {B : Nat} {w : World} {b : Nat} {v : Value} {r : List RvR} {f : Nat → Nat → Int} {i : Nat} (hs : Rd RvAt 4 B w v r) (hL : RivAt w b v f) (hi : i < r.length) :
  Calls Tryz.prog 48 #[.pointer (some ⟨b, 0, none⟩), .int .i64 i] w fun e w' => e = .returned (.int .i64 (rvH r i)) ∧ w' = w := by
 obtain ⟨A, cap, rfl, h5, h6, _⟩ := id hs
 obtain ⟨ad, rfl, _, _, _, _, n3⟩ := hs.rv hi
 have p0 := hL.pts
 have HE := Lib.hid (show rvH r i = (r.getD i default).hgt from rfl)
 generalize r.getD i default = x at *
 clear hs hL h5 h6
 go_enter Tryz.func48, Tryz.ntmps48
 go_wp2
 go_ret
 exact ⟨by rw [HE.out]; rfl, rfl⟩
theorem rruns_any {B : Nat} {w : World} {b : Nat} {v : Value} {r : List RvR} {f : Nat → Nat → Int} {i : Nat} (hs : Rd RvAt 4 B w v r) (hL : RivAt w b v f) (hg : RGood r) (hi : i < r.length) (hB : B ≤ w.heap.size) :
  Calls Tryz.prog 47 #[.pointer (some ⟨b, 0, none⟩), .int .i64 i, .func (.func 48) #[.pointer (some ⟨b, 0, none⟩)] #[]] w fun e w' => e = .returned (.bool (runsB r i)) ∧ Below w.heap.size w w' := by
 obtain ⟨A, cap, rfl, h5, h6, _⟩ := id hs
 obtain ⟨ad, rfl, _, n0, n1, n2, n3⟩ := hs.rv hi
 have p0 := hL.pts
 have hdn := hg.down i hi
 have hls := hg.least i hi
 have hh := hg.hgt i hi
 have HE := Lib.hid (show runsB r i = (decide (rvD r i = -1) || decide (rvH r (rvD r i).toNat + rvL r i ≤ rvH r i)) from rfl)
 rw [show rvL r i = (r.getD i default).least from rfl] at hls HE
 have HD := Lib.hid (show rvD r i = (r.getD i default).down from rfl)
 rw [show rvD r i = (r.getD i default).down from rfl] at hdn HE
 obtain ⟨W1, hW1, r1, z1, b1⟩ := box_any w #[.string (r.getD i default).name, .int .i64 (r.getD i default).down, .int .i64 (r.getD i default).least, .int .i64 (r.getD i default).hgt] 51
 have HH := Lib.hid (fun (n j : Nat) (hj : j < r.length) => rheight_any (w := W1.drewN n) (i := j) ((hs.below (b1.mono hB)).qt ⟨n, rfl⟩) (hL.below (below_drewN b1 n)) hj)
 have HB1 := Lib.hid b1
 have HR1 := Lib.hid r1
 have hgt := Lib.hid hg.hgt
 clear hs hL h5 h6 b1 r1 z1 hg
 generalize r.getD i default = x at *
 obtain ⟨nm, dn, ls, hg⟩ := x
 simp only at *
 go_enter Tryz.func47, Tryz.ntmps47
 go_upto_region 2 with (fail)
 rw [← hW1]
 clear hW1
 have c1 := cellOf HR1.out 1 (v := .int .i64 dn) rfl
 have c2 := cellOf HR1.out 2 (v := .int .i64 ls) rfl
 by_cases hd : dn = -1
 ·subst hd
  go_quiet (fail)
  go_wp2
  go_ret
  exact ⟨ret_bool (by rw [HE.out]; simp), below_drewN HB1.out _⟩
 ·obtain ⟨d, hd2⟩ := Int.eq_ofNat_of_zero_le (show 0 ≤ dn by omega)
  subst hd2
  have hdl : d < r.length := by omega
  have hh2 := hgt.out d hdl
  have H1 := Lib.hid (fun n => HH.out n i hi)
  have H2 := Lib.hid (fun n => HH.out n d hdl)
  have hdl2 : ((d : Int) == -1) = false := by simp
  have HE2 := Lib.hid (show decide (rvH r ((d : Int)).toNat + ls ≤ rvH r i) = decide (rvH r d + ls ≤ rvH r i) by rw [Int.toNat_natCast])
  generalize rvH r i = h1 at *
  generalize rvH r d = h2 at *
  go_quiet ((go_at_call 48; first | (with_reducible exact Calls.quiet_of_same (H1.out _)) | (with_reducible exact Calls.quiet_of_same (H2.out _))))
  go_wp2
  go_ret
  exact ⟨ret_bool (by rw [HE.out, HE2.out]; simp), below_drewN HB1.out _⟩
def badK (r : List RvR) (k : Nat) : List Int := idxL k fun i => !runsB r i
theorem badK_succ (r : List RvR) (k : Nat) : badK r (k + 1) = if runsB r k = false then badK r k ++ [(k : Int)] else badK r k := by
 unfold badK
 rw [idxL_succ]
 simp
theorem badK_len (r : List RvR) (k : Nat) : (badK r k).length ≤ k := idxL_len _ _
theorem rbad_any {B : Nat} {w : World} {v : Value} {r : List RvR} (hs : Rd RvAt 4 B w v r) (hg : RGood r) (hB : B ≤ w.heap.size) :
  Calls Tryz.prog 11 #[v] w (OwnRes w.heap.size 3 (badR r) 0 w) := by
 obtain ⟨A, cap, rfl, h5, h6, _⟩ := id hs
 have hlen := hg.len
 have HG := Lib.hid hg
 have HS := Lib.hid hs
 have HO := Lib.hid (ropen_any hs hg hB)
 clear hs hg h5 h6
 go_enter Tryz.func11, Tryz.ntmps11
 go_upto_region 4 with (go_at_call 46; refine HO.out.mono ?_; rintro e w1 ⟨b, rfl, hL, hb, hb1⟩)
 have HL := Lib.hid (show RivAt w1 b (.slice A r.length cap) (dropP r r.length) from hL)
 have HB1 := Lib.hid hb1
 clear hL hb1 HO
 go_wp2
 go_loopw [2, 16] (fun lv i wr => ∃ (k : Nat) (L : Option Addr) (c : Nat), k ≤ r.length ∧ i = .int .i64 k ∧ lv = .slice L (badK r k).length c ∧ Own w1.heap.size 3 wr (.slice L (badK r k).length c) (badK r k) ∧ Below w1.heap.size w1 wr) (fun _ i _ => r.length - (intOf i).toNat)
 case atStart => exact ⟨0, none, 0, Nat.zero_le _, rfl, rfl, Own.nil _ _ _, Below.refl _ _⟩
 case round =>
  obtain ⟨k, L, c, hk, rfl, rfl, hown, hbr⟩ := hrel
  by_cases hlt : k < r.length
  ·have hz1 := HB1.out.size
   have hrd := rruns_any (w := wr) (i := k) (HS.out.below ((HB1.out.trans (hbr.mono hz1)).mono hB)) (HL.out.below hbr) HG.out hlt (by have := hbr.size; omega)
   have Hsn := Lib.hid (badK_succ r k)
   have hll := badK_len r k
   have Hown := Lib.hid hown
   have Hbr := Lib.hid hbr
   clear hown hbr
   generalize runsB r k = rb at *
   generalize badK r k = l at *
   have hrd := Lib.hid hrd
   cases rb with
   | true =>
    go_wp2_with (first | (refine wpList_mkfnB rfl 48 _ _ rfl (bs := #[.pointer (some ⟨b, 0, none⟩)]) (cs := #[]) rfl rfl ?_) | (go_at_call 47; refine hrd.out.mono ?_; rintro e w3 ⟨rfl, hb3⟩))
    go_roundw
    case rel => exact ⟨k + 1, L, c, by omega, by go_num, by rw [Hsn.out]; rfl, by rw [Hsn.out]; exact Hown.out.below hb3, Hbr.out.trans (hb3.mono Hbr.out.size)⟩
    case measure => simp [intOf]; omega
   | false =>
    go_upto_region 8 with (first | (refine wpList_mkfnB rfl 48 _ _ rfl (bs := #[.pointer (some ⟨b, 0, none⟩)]) (cs := #[]) rfl rfl ?_) | (go_at_call 47; refine hrd.out.mono ?_; rintro e w3 ⟨rfl, hb3⟩))
    obtain ⟨A2, c2, w2, hrun, hown2, hb2, _⟩ := append_int (Hown.out.below hb3) (k : Int) (by omega) (Nat.le_trans Hbr.out.size hb3.size)
    have Hown2 := Lib.hid hown2
    have Hb2 := Lib.hid (Hbr.out.trans ((hb3.mono Hbr.out.size).trans hb2))
    clear hown2 hb2
    go_wp2_with (at_builtin; refine wpList_append_run rfl _ _ _ rfl rfl rfl hrun ?_)
    go_roundw
    case rel => exact ⟨k + 1, A2, c2, by omega, by go_num, by rw [Hsn.out]; simp, by rw [Hsn.out]; simpa using Hown2.out, Hb2.out⟩
    case measure => simp [intOf]; omega
  ·have hkn : k = r.length := by omega
   subst hkn
   have Hown := Lib.hid hown
   have Hbr := Lib.hid hbr
   clear hown hbr
   go_wp2
   go_ret2
   exact ⟨L, c, rfl, Hown.out.mono HB1.out.size, HB1.out.trans (Hbr.out.mono HB1.out.size)⟩
end Go.Proofs.YthnimhnlnddnoaaGreatDoor
namespace Go.Proofs.YthnimhnlnddnoaaGreatDoor
open Go.RowKit Go.Shelf
structure LkN (r : List RvR) (b : Nat) (v : Value) (w : World) : Prop where
 pts : ∃ B, Rd RvAt 4 B w v r ∧ B ≤ w.heap.size
 riv : RivAt w b v (dropP r r.length)
theorem LkN.below {r : List RvR} {b : Nat} {v : Value} {w w' : World} (h : LkN r b v w) (hb : Below w.heap.size w w') : LkN r b v w' := by
 obtain ⟨⟨B, h1, h2⟩, h3⟩ := h
 exact ⟨⟨B, h1.below (hb.mono h2), Nat.le_trans h2 hb.size⟩, h3.below hb⟩
theorem LkN.qt {r : List RvR} {b : Nat} {v : Value} {w w' : World} (h : LkN r b v w) (hb : Qt w w') : LkN r b v w' := h.below (hb.below _)
theorem LkN.height {r : List RvR} {b : Nat} {v : Value} {w : World} (h : LkN r b v w) {i : Nat} (hi : i < r.length) (n : Nat) :
  Calls Tryz.prog 48 #[.pointer (some ⟨b, 0, none⟩), .int .i64 i] (w.drewN n) fun e w' => e = .returned (.int .i64 (rvH r i)) ∧ w' = w.drewN n := by
 obtain ⟨⟨B, h1, h2⟩, h3⟩ := h
 exact rheight_any (h1.qt ⟨n, rfl⟩) (h3.below (below_drewN (Below.refl _ _) n)) hi
theorem LkN.drop {r : List RvR} {b : Nat} {v : Value} {w : World} (h : LkN r b v w) (h9 : r.length ≤ 9) {i k : Nat} (hi : i < r.length) (hk : k < r.length) : w.cell? ⟨b, 1 + i * 9 + k, none⟩ = some (.int .i64 (dropR r i k)) := by
 have := h.riv.cell (i := i) (k := k) (by omega) (by omega)
 unfold dropP at this
 rwa [if_pos ⟨hi, hk⟩] at this
theorem LkN.slice {r : List RvR} {b : Nat} {v : Value} {w : World} (h : LkN r b v w) : ∃ A c, v = .slice A r.length c := by
 obtain ⟨⟨B, ⟨A, c, h1, _⟩, _⟩, _⟩ := h
 exact ⟨A, c, h1⟩
def outK (r : List RvR) (i k : Nat) : Bool := decide (rvH r i < dropR r i k) || decide (9000 - rvH r i < dropR r k i)
theorem outR_true {r : List RvR} {i k : Nat} (hk : k < r.length) (h : outK r i k = true) : outR r i = true := List.any_eq_true.2 ⟨k, by simpa using hk, h⟩
theorem outR_false {r : List RvR} {i : Nat} (h : ∀ k, k < r.length → outK r i k = false) : outR r i = false := by
 unfold outR
 rw [List.any_eq_false]
 intro k hk
 have := h k (by simpa using hk)
 unfold outK at this
 simp [this]
theorem rout_is {w : World} {b : Nat} {v : Value} {r : List RvR} {i : Nat} (hL : LkN r b v w) (hg : RGood r) (hi : i < r.length) :
  Calls Tryz.prog 75 #[.pointer (some ⟨b, 0, none⟩), .int .i64 i] w fun e w' => e = .returned (.bool (outR r i)) ∧ Qt w w' := by
 obtain ⟨A, cap, rfl⟩ := hL.slice
 have p0 := hL.riv.pts
 have hlen := hg.len
 have hh := hg.hgt i hi
 have HL := Lib.hid hL
 have HG := Lib.hid hg
 clear hL hg
 go_enter Tryz.func75, Tryz.ntmps75
 go_wp2
 clear p0
 go_loopw [11] (fun j wr => ∃ k : Nat, k ≤ r.length ∧ j = .int .i64 k ∧ (∀ q, q < k → outK r i q = false) ∧ Qt w wr) (fun j _ => r.length - (intOf j).toNat)
 case atStart => exact ⟨0, Nat.zero_le _, rfl, fun _ h => absurd h (by omega), Qt.refl _⟩
 case round =>
  obtain ⟨k, hk, rfl, hno, hq⟩ := hrel
  have Hno := Lib.hid hno
  clear hno
  by_cases hlt : k < r.length
  ·have hLr := HL.out.qt hq
   have e1 := hLr.drop hlen.2 hi hlt
   have e2 := hLr.drop hlen.2 hlt hi
   have Hh := Lib.hid (fun n => hLr.height hi n)
   have b1 := drop_ge HG.out (i := k) hi
   have b2 := drop_ge HG.out (i := i) hlt
   have b3 := drop_le HG.out (i := k) hi
   have b4 := drop_le HG.out (i := i) hlt
   have HP := Lib.hid (show outK r i k = (decide (rvH r i < dropR r i k) || decide (9000 - rvH r i < dropR r k i)) from rfl)
   have HT := Lib.hid (fun h => outR_true (i := i) hlt h)
   have Hq := Lib.hid hq
   have b1 := b1.1
   have b2 := b2.1
   have hi9 : i < 9 := by omega
   have hk9 : k < 9 := by omega
   clear hLr hq
   generalize rvH r i = h1 at *
   generalize dropR r i k = d1 at *
   generalize dropR r k i = d2 at *
   by_cases t1 : h1 < d1
   ·have HR := Lib.hid (HT.out (by rw [HP.out]; simp [t1]))
    go_upto_region 4 with (fail)
    go_quiet ((go_at_call 48; exact Calls.quiet_of_same (Hh.out _)))
    go_wp2
    go_ret
    exact ⟨ret_bool HR.out.symm, Hq.out.drewN _⟩
   ·by_cases t2 : 9000 - h1 < d2
    ·have HR := Lib.hid (HT.out (by rw [HP.out]; simp [t1, t2]))
     go_upto_region 4 with (fail)
     go_quiet ((go_at_call 48; exact Calls.quiet_of_same (Hh.out _)))
     go_wp2
     go_ret
     exact ⟨ret_bool HR.out.symm, Hq.out.drewN _⟩
    ·have HR := Lib.hid (show outK r i k = false by rw [HP.out]; simp [t1, t2])
     go_upto_region 4 with (fail)
     go_quiet ((go_at_call 48; exact Calls.quiet_of_same (Hh.out _)))
     go_wp2
     go_roundw
     case rel => exact ⟨k + 1, by omega, by go_num, fun q hq => by
      by_cases e : q < k
      ·exact Hno.out q e
      ·obtain rfl : q = k := by omega
       exact HR.out, Hq.out.drewN _⟩
     case measure => simp [intOf]; omega
  ·have HR := Lib.hid (outR_false (r := r) (i := i) fun q hq => Hno.out q (by omega))
   go_wp2
   go_ret
   exact ⟨ret_bool HR.out.symm, hq⟩
theorem confl_neg {r : List RvR} {i k : Nat} (h1 : dropR r i k = -1) (h2 : dropR r k i = -1) : conflR r i k = false := by unfold conflR; rw [if_pos h1]; simp [h2]
theorem confl_back {r : List RvR} {i k n : Nat} (h1 : dropR r i k = -1) (h2 : dropR r k i = (n : Int)) : conflR r i k = decide (rvH r k - rvH r i < n) := by unfold conflR; rw [if_pos h1, h2]; simp
theorem confl_fwd {r : List RvR} {i k n : Nat} (h1 : dropR r i k = (n : Int)) : conflR r i k = decide (rvH r i - rvH r k < n) := by unfold conflR; rw [if_neg (by omega), h1]
theorem drop_nat {r : List RvR} (hg : RGood r) {i k : Nat} (hi : i < r.length) : dropR r i k = -1 ∨ ∃ n : Nat, dropR r i k = n := by
 by_cases h : dropR r i k = -1
 ·exact .inl h
 ·exact .inr ⟨_, (Int.toNat_of_nonneg ((drop_ge hg hi).2 h)).symm⟩
theorem rconfl_any {w : World} {b : Nat} {v : Value} {r : List RvR} {i k : Nat} (hL : LkN r b v w) (hg : RGood r) (hi : i < r.length) (hk : k < r.length) :
  Calls Tryz.prog 78 #[.pointer (some ⟨b, 0, none⟩), .int .i64 i, .int .i64 k] w fun e w' => e = .returned (.bool (conflR r i k)) ∧ Qt w w' := by
 have hlen := hg.len
 have e1 := hL.drop hlen.2 hi hk
 have e2 := hL.drop hlen.2 hk hi
 have h1 := hg.hgt i hi
 have h2 := hg.hgt k hk
 have Hi := Lib.hid (fun n => hL.height hi n)
 have Hk := Lib.hid (fun n => hL.height hk n)
 have b3 := drop_le hg (i := k) hi
 have b4 := drop_le hg (i := i) hk
 have hi9 : i < 9 := by omega
 have hk9 : k < 9 := by omega
 rcases drop_nat hg (k := k) hi with hd | ⟨n, hd⟩
 ·rcases drop_nat hg (k := i) hk with hd2 | ⟨n, hd2⟩
  ·have HR := Lib.hid (confl_neg hd hd2)
   rw [hd] at e1
   rw [hd2] at e2
   clear hd hd2 hL hg b3 b4
   go_enter Tryz.func78, Tryz.ntmps78
   go_upto_region 3 with (fail)
   go_quiet (fail)
   go_wp2
   go_ret
   exact ⟨ret_bool HR.out.symm, ⟨_, rfl⟩⟩
  ·have HR := Lib.hid (confl_back hd hd2)
   rw [hd] at e1
   rw [hd2] at e2 b4
   clear hd hd2 hL hg b3
   have ht : ((n : Int) != -1) = true := by simp
   generalize rvH r i = x1 at *
   generalize rvH r k = x2 at *
   go_enter Tryz.func78, Tryz.ntmps78
   go_upto_region 3 with (fail)
   go_quiet ((go_at_call 48; first | (with_reducible exact Calls.quiet_of_same (Hi.out _)) | (with_reducible exact Calls.quiet_of_same (Hk.out _))))
   go_wp2
   go_ret
   exact ⟨ret_bool HR.out.symm, ⟨_, rfl⟩⟩
 ·have HR := Lib.hid (confl_fwd hd)
  rw [hd] at e1 b3
  clear hd hL hg b4 e2
  have ht : ((n : Int) != -1) = true := by simp
  generalize rvH r i = x1 at *
  generalize rvH r k = x2 at *
  go_enter Tryz.func78, Tryz.ntmps78
  go_upto_region 3 with (fail)
  go_quiet ((go_at_call 48; first | (with_reducible exact Calls.quiet_of_same (Hi.out _)) | (with_reducible exact Calls.quiet_of_same (Hk.out _))))
  go_wp2
  go_ret
  exact ⟨ret_bool HR.out.symm, ⟨_, rfl⟩⟩
end Go.Proofs.YthnimhnlnddnoaaGreatDoor
namespace Go.Proofs.YthnimhnlnddnoaaGreatDoor
open Go.RowKit
theorem all_lt {n : Nat} {p : Nat → Bool} (h : (List.range n).all p = true) {i : Nat} (hi : i < n) : p i = true := List.all_eq_true.1 h i (by simpa using hi)
theorem bit_tab : ((List.range 512).all fun s => (List.range 9).all fun k => bits .and .i64 ((s : Int) / 2 ^ k) 1 == if s.testBit k then 1 else 0) = true := by kernel_rfl
theorem bit_at {s k : Nat} (hs : s < 512) (hk : k < 9) : bits .and .i64 ((s : Int) / 2 ^ k) 1 = if s.testBit k then 1 else 0 := by simpa using all_lt (all_lt bit_tab hs) hk
theorem low_tab : ((List.range 512).all fun s => s == 0 || (bits .and .i64 (s : Int) ((s : Int) - 1) == ((s &&& (s - 1) : Nat) : Int) && decide (s &&& (s - 1) < s) && (match listF s with | [] => false | x :: l => listF (s &&& (s - 1)) == l && decide (x < 9) && decide (0 ≤ x)))) = true := by kernel_rfl
end Go.Proofs.YthnimhnlnddnoaaGreatDoor
namespace Go.Proofs.YthnimhnlnddnoaaGreatDoor
open Go.RowKit Go.Shelf
def corP (r : List RvR) (s i : Nat) : Bool := bitR s i || (!outR r i && (List.range i).all fun k => bitR s k || !conflR r i k)
theorem corr_all {r : List RvR} {s : Nat} (h : ∀ i, i < r.length → corP r s i = true) : corrR r s = true := by
 unfold corrR
 rw [List.all_eq_true]
 intro i hi
 exact h i (by simpa using hi)
theorem corr_not {r : List RvR} {s i : Nat} (hi : i < r.length) (h : corP r s i = false) : corrR r s = false := by
 unfold corrR
 rw [List.all_eq_false]
 exact ⟨i, by simpa using hi, by unfold corP at h; simp [h]⟩
theorem corP_bit {r : List RvR} {s i : Nat} (h : s.testBit i = true) : corP r s i = true := by unfold corP bitR; rw [h]; rfl
theorem corP_out {r : List RvR} {s i : Nat} (h : s.testBit i = false) (ho : outR r i = true) : corP r s i = false := by unfold corP bitR; rw [h, ho]; rfl
theorem corP_confl {r : List RvR} {s i k : Nat} (h : s.testBit i = false) (hk : k < i) (h2 : s.testBit k = false) (hc : conflR r i k = true) : corP r s i = false := by
 have : ((List.range i).all fun k => bitR s k || !conflR r i k) = false := by
  rw [List.all_eq_false]
  exact ⟨k, by simpa using hk, by simp [bitR, h2, hc]⟩
 unfold corP
 rw [this]
 simp [bitR, h]
theorem corP_fine {r : List RvR} {s i : Nat} (ho : outR r i = false) (h : ∀ k, k < i → s.testBit k = true ∨ conflR r i k = false) : corP r s i = true := by
 have : ((List.range i).all fun k => bitR s k || !conflR r i k) = true := by
  rw [List.all_eq_true]
  intro k hk
  rcases h k (by simpa using hk) with h | h
  ·simp [bitR, h]
  ·simp [h]
 unfold corP
 rw [this, ho]
 simp
theorem rcorrects_any {w : World} {b : Nat} {v : Value} {r : List RvR} {s : Nat} (hL : LkN r b v w) (hg : RGood r) (hs : s < 512) :
  Calls Tryz.prog 89 #[.pointer (some ⟨b, 0, none⟩), .int .i64 s] w fun e w' => e = .returned (.bool (corrR r s)) ∧ Qt w w' := by
 obtain ⟨A, cap, rfl⟩ := hL.slice
 have p0 := hL.riv.pts
 have hlen := hg.len
 have HL := Lib.hid hL
 have HG := Lib.hid hg
 clear hL hg
 go_enter Tryz.func89, Tryz.ntmps89
 go_wp2
 clear p0
 go_loopw [12] (fun j wr => ∃ k : Nat, k ≤ r.length ∧ j = .int .i64 k ∧ (∀ q, q < k → corP r s q = true) ∧ Qt w wr) (fun j _ => r.length - (intOf j).toNat)
 case atStart => exact ⟨0, Nat.zero_le _, rfl, fun _ h => absurd h (by omega), Qt.refl _⟩
 case round =>
  obtain ⟨k, hk, rfl, hno, hq⟩ := hrel
  have Hno := Lib.hid hno
  have Hq := Lib.hid hq
  clear hno hq
  by_cases hlt : k < r.length
  ·have hk9 : k < 9 := by omega
   have hb := bit_at hs hk9
   cases hbk : s.testBit k with
   | true =>
    have HP := Lib.hid (corP_bit (r := r) hbk)
    rw [hbk, if_pos rfl] at hb
    clear hbk
    go_wp2
    go_roundw
    case rel => exact ⟨k + 1, by omega, by go_num, fun q hq => by
      by_cases e : q < k
      ·exact Hno.out q e
      ·obtain rfl : q = k := by omega
       exact HP.out, Hq.out⟩
    case measure => simp [intOf]; omega
   | false =>
    have HBK := Lib.hid hbk
    rw [hbk, if_neg (by simp)] at hb
    clear hbk
    have HO := Lib.hid (rout_is (HL.out.qt Hq.out) HG.out hlt)
    cases ho : outR r k with
    | true =>
     have HR := Lib.hid (corr_not hlt (corP_out HBK.out ho))
     rw [ho] at HO
     clear ho
     go_wp2_with (go_at_call 75; refine HO.out.mono ?_; rintro e w1 ⟨rfl, hq1⟩)
     go_ret
     exact ⟨ret_bool HR.out.symm, Hq.out.trans hq1⟩
    | false =>
     have HOF := Lib.hid ho
     rw [ho] at HO
     clear ho
     go_upto_region 7 with (go_at_call 75; refine HO.out.mono ?_; rintro e w1 ⟨rfl, hq1⟩)
     have Hq1 := Lib.hid (Hq.out.trans hq1)
     clear hq1 Hq HO
     go_wp2
     go_loopw [24] (fun j wi => ∃ q : Nat, q ≤ k ∧ j = .int .i64 q ∧ (∀ p, p < q → s.testBit p = true ∨ conflR r k p = false) ∧ Qt w wi) (fun j _ => k - (intOf j).toNat)
     case atStart => exact ⟨0, Nat.zero_le _, rfl, fun _ h => absurd h (by omega), Hq1.out⟩
     case round =>
      clear Hq1
      obtain ⟨q, hqk, rfl, hin, hq⟩ := hrel
      have Hin := Lib.hid hin
      have Hq := Lib.hid hq
      clear hin hq hb
      by_cases hlq : q < k
      ·have hb := bit_at hs (show q < 9 by omega)
       cases hbq : s.testBit q with
       | true =>
        have HBQ := Lib.hid hbq
        rw [hbq, if_pos rfl] at hb
        clear hbq
        go_wp2
        go_roundw
        case rel => exact ⟨q + 1, by omega, by go_num, fun p hp => by
          by_cases e : p < q
          ·exact Hin.out p e
          ·obtain rfl : p = q := by omega
           exact .inl HBQ.out, Hq.out⟩
        case measure => simp [intOf]; omega
       | false =>
        have HBQ := Lib.hid hbq
        rw [hbq, if_neg (by simp)] at hb
        clear hbq
        have HC := Lib.hid (rconfl_any (HL.out.qt Hq.out) HG.out hlt (show q < r.length by omega))
        cases hc : conflR r k q with
        | true =>
         have HR := Lib.hid (corr_not hlt (corP_confl HBK.out hlq HBQ.out hc))
         rw [hc] at HC
         clear hc
         go_wp2_with (go_at_call 78; refine HC.out.mono ?_; rintro e w2 ⟨rfl, hq2⟩)
         go_ret
         exact ⟨ret_bool HR.out.symm, Hq.out.trans hq2⟩
        | false =>
         have HCF := Lib.hid hc
         rw [hc] at HC
         clear hc
         go_wp2_with (go_at_call 78; refine HC.out.mono ?_; rintro e w2 ⟨rfl, hq2⟩)
         go_roundw
         case rel => exact ⟨q + 1, by omega, by go_num, fun p hp => by
           by_cases e : p < q
           ·exact Hin.out p e
           ·obtain rfl : p = q := by omega
            exact .inr HCF.out, Hq.out.trans hq2⟩
         case measure => simp [intOf]; omega
      ·have HR := Lib.hid (corP_fine (r := r) (s := s) HOF.out fun p hp => Hin.out p (by omega))
       go_wp2
       go_roundw
       case rel => exact ⟨k + 1, by omega, by go_num, fun q hq => by
         by_cases e : q < k
         ·exact Hno.out q e
         ·obtain rfl : q = k := by omega
          exact HR.out, Hq.out⟩
       case measure => simp [intOf]; omega
  ·have HR := Lib.hid (corr_all (r := r) (s := s) fun q hq => Hno.out q (by omega))
   go_wp2
   go_ret
   exact ⟨ret_bool HR.out.symm, Hq.out⟩
end Go.Proofs.YthnimhnlnddnoaaGreatDoor
