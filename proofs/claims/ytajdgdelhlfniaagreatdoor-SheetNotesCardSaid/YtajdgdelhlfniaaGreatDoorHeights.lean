/- Walks of the layer sheet: Heights. -/
import Derived.Test.YtajdgdelhlfniaaGreatDoorGAll
import Derived.Test.YtajdgdelhlfniaaGreatDoorAppend
import Derived.WalkKit
import Derived.Deep.Quiet
set_option linter.unusedSimpArgs false
set_option linter.unusedVariables false
namespace Go.Proofs.YtajdgdelhlfniaaGreatDoor
open Go.RowKit

/-- between which heights the first n points are, by bounds -/
def spansL (m : Mat) (n : Nat) : List (Int × Int) := (List.range n).map fun i => (- m i 8, m 8 i)
def heightsF (s : ShR) : List (Int × Int) := if openE s ≠ 0 then [] else spansL (openM s) s.pts.length
theorem spansL_len (m : Mat) (n : Nat) : (spansL m n).length = n := by simp [spansL]
theorem spansL_snoc (m : Mat) (n : Nat) : spansL m (n + 1) = spansL m n ++ [(- m n 8, m 8 n)] := by
  unfold spansL
  rw [List.range_succ, List.map_append]
  rfl
theorem openM_fine {s : ShR} (h : openE s = 0) : Fine (openM s) := by
  by_cases he : errOf s = 0
  · unfold openM
    rw [if_neg (by simp [he])]
    have hg := good_of_valid he
    exact allM_fine hg.plen.2 hg.notes free_fine
  · rw [openE_err he] at h
    exact absurd h he
theorem good_of_open {s : ShR} (h : openE s = 0) : Good s := by
  by_cases he : errOf s = 0
  · exact good_of_valid he
  · rw [openE_err he] at h
    exact absurd h he
/-- what a function returns: a list of its own, and an error -/
def OwnRes {α : Type} {At : World → Addr → α → Prop} {sz : Nat} [Enc α At sz] (base : Nat) (t : TypeId) (l : List α) (err : Int) (w : World) (e : Ending) (w' : World) : Prop :=
  ∃ A c, e = .returned (.tuple #[.slice A l.length c, .int .i64 err]) ∧ Own base t w' (.slice A l.length c) l ∧ Below base w w'

set_option maxRecDepth 100000 in
set_option maxHeartbeats 4000000 in
theorem heights_any {B : Nat} {w : World} {v : Value} {s : ShR} (hs : RdSh B w v s) (hn : Named s) (hB : B ≤ w.heap.size) :
    Calls Tryz.prog 23 #[v] w (OwnRes w.heap.size 40 (heightsF s) (openE s) w) := by
  obtain ⟨vp, vn, rfl, hp, ho⟩ := id hs
  obtain ⟨Ap, cp, rfl, h5, h6, _⟩ := id hp
  obtain ⟨W1, hW1, r1, z1, d1⟩ := box_any w #[.int .i64 s.iv, .slice Ap s.pts.length cp, vn] 25
  have HO := Lib.hid (open_any (hs.below (d1.mono hB)) hn (Nat.le_trans hB d1.size))
  have HB1 := Lib.hid d1
  have HR1 := Lib.hid r1
  have q0 := cellOf r1 0 rfl
  have q1 := cellOf r1 1 rfl
  have q2 := cellOf r1 2 rfl
  clear hp ho hs r1 z1 d1 h5 h6
  by_cases he : openE s = 0
  · have hg := good_of_open he
    have hpl := hg.plen.2
    have HF := Lib.hid (openM_fine he)
    have HE := Lib.hid he
    rw [he] at HO
    clear he hg
    go_enter Tryz.func23, Tryz.ntmps23
    go_upto_region 1 with (fail)
    rw [← hW1]
    clear hW1
    go_upto_region 2 with (first | (go_at_call 68; refine HO.out.mono ?_; rintro e w3 ⟨rfl, hb3⟩) | (refine wpList_alloc_mat rfl rfl ?_; intro w4 hw4 hm4 hb4 hz4) | (refine wpList_store_mat rfl _ _ rfl rfl rfl hm4 ?_; intro w5 hm5 hg5))
    have hg5 : w4.grownBy w5 (some w3.heap.size) := hg5
    have hm5 : MatAt w5 w3.heap.size 93 (openM s) := hm5
    have z1 := HB1.out.size
    have z3 := hb3.size
    have hlt := lt_of_block HR1.out
    have hb5 : Below W1.heap.size W1 w5 := hb3.trans ((hb4.mono (by omega)).trans (grown_below hg5 (by omega) (by omega)))
    have k5 := (hb5.block _ hlt).trans HR1.out
    have q1 := cellOf k5 1 rfl
    have HB5 := Lib.hid hb5
    have HK5 := Lib.hid k5
    have HM5 := Lib.hid hm5
    have Z1 := Lib.hid z1
    clear k5 hlt hb5 z1 z3 hg5 hm5 hb4 hm4 hw4 hz4 hb3
    go_wp2
    clear q0 q1 q2
    go_loopw [2, 17] (fun lv i wr => ∃ (k : Nat) (A : Option Addr) (c : Nat), k ≤ s.pts.length ∧ i = .int .i64 k ∧ lv = .slice A k c ∧ Own w5.heap.size 40 wr (.slice A k c) (spansL (openM s) k) ∧ Below w5.heap.size w5 wr) (fun _ i _ => s.pts.length - (intOf i).toNat)
    case atStart => exact ⟨0, none, 0, Nat.zero_le _, rfl, rfl, Own.nil _ _ _, Below.refl _ _⟩
    case round =>
      obtain ⟨k, A, c, hk, rfl, rfl, hown, hbr⟩ := hrel
      by_cases hlt : k < s.pts.length
      · have hmr := HM5.out.below hbr
        have e1 := hmr.cell (i := k) (k := 8) (by omega) (by omega)
        have e2 := hmr.cell (i := 8) (k := k) (by omega) (by omega)
        have p1 := HF.out.ge (i := k) (k := 8) (by omega) (by omega)
        have p2 := HF.out.le k 8 (by omega) (by omega)
        have Hsn := Lib.hid (spansL_snoc (openM s) k)
        have Hll := Lib.hid (spansL_len (openM s) k)
        have Hown := Lib.hid hown
        have Hbr := Lib.hid hbr
        simp only [Nat.reduceMul] at e2
        clear hown hbr hmr
        generalize openM s k 8 = x1 at *
        generalize openM s 8 k = x2 at *
        generalize spansL (openM s) k = l at *
        have s1 : IntKind.i64.wrap (-x1) = -x1 := IntWalk.i64_in _ (by omega)
        go_upto_region 7 with (fail)
        refine region_move_quiet_tail2 (C := fun w' => ∃ n, w' = wr.drewN n) 11 _ rfl rfl (by kernel_rfl) (by kernel_rfl) ⟨1, rfl⟩ ?_
        simp only [List.take_succ_cons, List.take_zero, List.drop_succ_cons, List.drop_zero, Nat.reduceSub]
        repeat (first | go_big_quiet_step (fail) | quiet_step (fail))
        refine wpQuiet_nil ?_
        rintro _ ⟨n1, rfl⟩
        obtain ⟨wq, hwq⟩ : ∃ wq, wq = wr.drewN n1 := ⟨_, rfl⟩
        rw [← hwq]
        have hownq : Own w5.heap.size 40 wq (.slice A k c) l := by rw [hwq]; exact Hown.out.qt ⟨n1, rfl⟩
        have hbq : Below w5.heap.size w5 wq := by rw [hwq]; exact below_drewN Hbr.out n1
        obtain ⟨A2, c2', w2, hrun, hown2, hb2, _⟩ := append_span hownq (-x1, x2) (by rw [Hll.out]; omega) hbq.size
        rw [Hll.out] at hrun hown2
        have Hown2 := Lib.hid hown2
        have Hb2 := Lib.hid (hbq.trans hb2)
        clear hwq hownq hbq hown2 hb2 e1 e2
        go_wp2_with (at_builtin; refine wpList_append_run rfl _ _ _ rfl rfl rfl hrun ?_)
        refine NoPanic.normal ?_
        simp only [Exit.inBlock, Exit.then]
        go_wp2
        go_roundw
        case rel => exact ⟨k + 1, A2, c2', by omega, by go_num, rfl, by rw [Hsn.out]; exact Hown2.out, Hb2.out⟩
        case measure => simp [intOf]; omega
      · have hkn : k = s.pts.length := by omega
        subst hkn
        have Hown := Lib.hid hown
        have Hbr := Lib.hid hbr
        have hF := Lib.hid (show heightsF s = spansL (openM s) s.pts.length by unfold heightsF; rw [if_neg (by simp [HE.out])])
        have hlen := Lib.hid (spansL_len (openM s) s.pts.length)
        clear hown hbr
        go_wp2
        go_ret2
        refine ⟨A, c, ?_, ?_, ?_⟩
        · rw [hF.out, hlen.out, HE.out]; rfl
        · rw [hF.out, hlen.out]
          exact Hown.out.mono (Nat.le_trans HB1.out.size HB5.out.size)
        · exact HB1.out.trans ((HB5.out.trans (Hbr.out.mono HB5.out.size)).mono Z1.out)
  · have hne : (openE s != 0) = true := by simp [he]
    have hF := Lib.hid (show heightsF s = [] by unfold heightsF; rw [if_pos he])
    clear he
    go_enter Tryz.func23, Tryz.ntmps23
    go_upto_region 1 with (fail)
    rw [← hW1]
    clear hW1
    go_wp2_with (first | (go_at_call 68; refine HO.out.mono ?_; rintro e w3 ⟨rfl, hb3⟩) | (refine wpList_alloc_mat rfl rfl ?_; intro w4 hw4 hm4 hb4 hz4) | (refine wpList_store_mat rfl _ _ rfl rfl rfl hm4 ?_; intro w5 hm5 hg5))
    have hg5 : w4.grownBy w5 (some w3.heap.size) := hg5
    have z1 := HB1.out.size
    have z3 := hb3.size
    go_ret2
    refine ⟨none, 0, by rw [hF.out]; rfl, by rw [hF.out]; exact Own.nil _ _ _, ?_⟩
    exact HB1.out.trans ((hb3.trans ((hb4.mono (by omega)).trans (grown_below hg5 (by omega) (by omega)))).mono z1)
end Go.Proofs.YtajdgdelhlfniaaGreatDoor
