/- Parts of the proof of TpP: Highest, Apart, EvL. -/
import Derived.Test.YthnimhnlnddnoaaGreatDoorH16
import Derived.WalkKit
import Derived.Deep.Quiet
import Derived.Test.YthnimhnlnddnoaaGreatDoorH32
set_option linter.unusedSimpArgs false
set_option linter.unusedVariables false
set_option maxRecDepth 100000
set_option maxHeartbeats 8000000
namespace Go.Proofs.YthnimhnlnddnoaaGreatDoor
open Go.RowKit
def topM (m : Mat) (p : Nat) : Nat → Mat × Bool
 | 0 => (m, true)
 | k + 1 => if (topM m p k).2 = true then (bindR p k 0 (topM m p k).1, bindB p k 0 (topM m p k).1) else ((topM m p k).1, false)
theorem topM_yes {m : Mat} {p k : Nat} (h : (topM m p k).2 = true) : topM m p (k + 1) = (bindR p k 0 (topM m p k).1, bindB p k 0 (topM m p k).1) := by
 show (if (topM m p k).2 = true then _ else _) = _
 rw [if_pos h]
theorem topM_no {m : Mat} {p k : Nat} (h : (topM m p k).2 = false) : topM m p (k + 1) = ((topM m p k).1, false) := by
 show (if (topM m p k).2 = true then _ else _) = _
 rw [if_neg (by simp [h])]
theorem topM_fine {m : Mat} (hm : Fine m) {p : Nat} (hp : p < 9) : ∀ k, k ≤ 9 → Fine (topM m p k).1 := by
 intro k
 induction k with
 | zero => intro _; exact hm
 | succ k ih =>
  intro hk
  cases h : (topM m p k).2 with
  | true => rw [topM_yes h]; exact bindR_fine (ih (by omega)) hp (by omega)
  | false => rw [topM_no h]; exact ih (by omega)
def highB (m : Mat) (n p : Nat) : Bool := (topM m p n).2
def highL (m : Mat) (n k : Nat) : List Int := ((List.range k).filter (highB m n)).map fun (i : Nat) => (i : Int)
def highestF (s : ShR) : List Int := if openE s ≠ 0 then [] else highL (openM s) s.pts.length s.pts.length
theorem highL_yes {m : Mat} {n k : Nat} (h : highB m n k = true) : highL m n (k + 1) = highL m n k ++ [(k : Int)] := by
 unfold highL
 rw [List.range_succ, List.filter_append, List.map_append]
 simp [h]
theorem highL_no {m : Mat} {n k : Nat} (h : highB m n k = false) : highL m n (k + 1) = highL m n k := by
 unfold highL
 rw [List.range_succ, List.filter_append, List.map_append]
 simp [h]
theorem highL_le (m : Mat) (n k : Nat) : (highL m n k).length ≤ k := by
 unfold highL
 rw [List.length_map]
 have := List.length_filter_le (highB m n) (List.range k)
 simpa using this
theorem highest_any {B : Nat} {w : World} {v : Value} {s : ShR} (hs : RdSh B w v s) (hn : Named s) (hB : B ≤ w.heap.size) :
  Calls Tryz.prog 25 #[v] w (OwnRes w.heap.size 3 (highestF s) (openE s) w) := by
 obtain ⟨vp, vn, rfl, hp, ho⟩ := id hs
 obtain ⟨Ap, cp, rfl, h5, h6, _⟩ := id hp
 obtain ⟨W1, hW1, r1, z1, d1⟩ := box_any w #[.int .i64 s.iv, .slice Ap s.pts.length cp, vn] 38
 have HO := Lib.hid (open_any (hs.below (d1.mono hB)) hn (Nat.le_trans hB d1.size))
 have HB1 := Lib.hid d1
 have HR1 := Lib.hid r1
 have q0 := cellOf r1 0 rfl
 have q1 := cellOf r1 1 rfl
 have q2 := cellOf r1 2 rfl
 clear hp ho hs r1 z1 d1 h5 h6
 by_cases he : openE s = 0
 ·have hg := good_of_open he
  have hpl := hg.plen.2
  have HF := Lib.hid (openM_fine he)
  have HE := Lib.hid he
  rw [he] at HO
  clear he hg
  go_enter Tryz.func25, Tryz.ntmps25
  go_upto_region 1 with (fail)
  rw [← hW1]
  clear hW1
  go_upto_region 2 with (first | (go_at_call 44; refine HO.out.mono ?_; rintro e w3 ⟨rfl, hb3⟩) | (refine wpList_alloc_mat rfl rfl ?_; intro w4 hw4 hm4 hb4 hz4) | (refine wpList_store_mat rfl _ _ rfl rfl rfl hm4 ?_; intro w5 hm5 hg5))
  have hg5 : w4.grownBy w5 (some w3.heap.size) := hg5
  have hm5 : MatAt w5 w3.heap.size 82 (openM s) := hm5
  have z1 := HB1.out.size
  have z3 := hb3.size
  have hlt := lt_of_block HR1.out
  have hb5 : Below W1.heap.size W1 w5 := hb3.trans ((hb4.mono (by omega)).trans (grown_below hg5 (by omega) (by omega)))
  have k5 := (hb5.block _ hlt).trans HR1.out
  have q1 := cellOf k5 1 rfl
  have HB5 := Lib.hid hb5
  have HK5 := Lib.hid k5
  have HM5 := Lib.hid hm5
  have Z1 := Lib.hid z1
  clear k5 hlt hb5 z1 z3 hg5 hm5 hb4 hm4 hw4 hz4 hb3
  obtain ⟨m, hme⟩ : ∃ m, m = openM s := ⟨_, rfl⟩
  rw [← hme] at HF HM5
  have HMe := Lib.hid hme
  clear hme
  go_wp2
  clear q0 q1 q2
  go_loopw [2, 20] (fun lv i wr => ∃ (k len : Nat) (A : Option Addr) (c : Nat), k ≤ s.pts.length ∧ i = .int .i64 k ∧ len = (highL m s.pts.length k).length ∧ lv = .slice A len c ∧ Own w5.heap.size 3 wr (.slice A len c) (highL m s.pts.length k) ∧ Below w5.heap.size w5 wr) (fun _ i _ => s.pts.length - (intOf i).toNat)
  case atStart => exact ⟨0, 0, none, 0, Nat.zero_le _, rfl, rfl, rfl, Own.nil _ _ _, Below.refl _ _⟩
  case round =>
   obtain ⟨k, len, A, c, hk, rfl, hlen, rfl, hown, hbr⟩ := hrel
   by_cases hlt : k < s.pts.length
   ·have hmr := HM5.out.below hbr
    have hkr := (hbr.block _ (lt_of_block HK5.out)).trans HK5.out
    have Hkr := Lib.hid hkr
    have Hown := Lib.hid hown
    have Hbr := Lib.hid hbr
    have Hlen := Lib.hid hlen
    have hwz : w.heap.size < wr.heap.size := lt_of_block hkr
    clear hown hbr hlen hkr
    go_upto_region 8 with (first | (refine wpList_load_mat rfl _ rfl rfl hmr ?_) | (refine wpList_alloc_mat rfl rfl ?_; intro w6 hw6 hm6 hb6 hz6) | (refine wpList_store_mat rfl _ _ rfl rfl rfl hm6 ?_; intro w7 hm7 hg7))
    have hg7 : w6.grownBy w7 (some wr.heap.size) := hg7
    have hm7 : MatAt w7 wr.heap.size 82 m := hm7
    have hb7 : Below wr.heap.size wr w7 := hb6.trans (grown_below hg7 (Nat.le_refl _) hb6.size)
    have k7 := (hb7.block _ hwz).trans Hkr.out
    have q1 := cellOf k7 1 rfl
    have HB7 := Lib.hid hb7
    have HM7 := Lib.hid hm7
    clear hw6 hm6 hb6 hz6 hg7 hb7 hm7 k7
    go_wp2
    clear q1
    obtain ⟨wo, rfl⟩ : ∃ wo : World, wo = wr := ⟨_, rfl⟩
    go_loopw [7, 27] (fun b i wi => ∃ q : Nat, q ≤ s.pts.length ∧ i = .int .i64 q ∧ b = .bool (topM m k q).2 ∧ MatAt wi wo.heap.size 82 (topM m k q).1 ∧ Below wo.heap.size wo wi) (fun _ i _ => s.pts.length - (intOf i).toNat)
    case atStart => exact ⟨0, Nat.zero_le _, rfl, rfl, HM7.out, HB7.out⟩
    case round =>
     obtain ⟨q, hq, rfl, rfl, hmi, hbi⟩ := hrel
     by_cases hlq : q < s.pts.length
     ·have hfi := topM_fine HF.out (p := k) (by omega) q (by omega)
      have HMi := Lib.hid hmi
      have HBi := Lib.hid hbi
      have hcall := bind_any (f := k) (t := q) (m := 0) hmi (by omega) (by omega) hfi (by omega) (by omega)
      cases hb : (topM m k q).2 with
      | true =>
       have Hst := Lib.hid (topM_yes hb)
       have HC := Lib.hid hcall
       clear hcall hfi hmi hbi hb
       go_wp2_with (go_at_call 60; refine HC.out.mono ?_; rintro e w9 ⟨rfl, hm9, hg9⟩)
       go_roundw
       case rel => exact ⟨q + 1, by omega, by go_num, by rw [Hst.out], by rw [Hst.out]; exact hm9, HBi.out.trans (grown_below hg9 (Nat.le_refl _) HBi.out.size)⟩
       case measure => simp [intOf]; omega
      | false =>
       have Hst := Lib.hid (topM_no hb)
       clear hcall hfi hmi hbi hb
       go_wp2
       go_roundw
       case rel => exact ⟨q + 1, by omega, by go_num, by rw [Hst.out], by rw [Hst.out]; exact HMi.out, HBi.out⟩
       case measure => simp [intOf]; omega
     ·have hqn : q = s.pts.length := by omega
      have HBi := Lib.hid hbi
      have hhb : highB m s.pts.length k = (topM m k q).2 := by rw [hqn]; rfl
      clear hmi hbi
      generalize (topM m k q).2 = b at *
      cases b with
      | true =>
       have Hst := Lib.hid (highL_yes hhb)
       have hle := highL_le m s.pts.length k
       rw [← Hlen.out] at hle
       clear hhb hqn
       have hown2 := Hown.out.below HBi.out
       have hbq := Hbr.out.trans (HBi.out.mono Hbr.out.size)
       generalize hL : highL m s.pts.length k = l at hown2
       obtain ⟨A2, c2', w2, hrun, hown3, hb3, _⟩ := append_int hown2 (k : Int) (by rw [← hL, ← Hlen.out]; omega) hbq.size
       rw [← hL, ← Hlen.out] at hrun hown3
       have Hown3 := Lib.hid hown3
       have Hb3 := Lib.hid (hbq.trans hb3)
       have HL := Lib.hid hL
       clear hown2 hbq hown3 hb3 hL
       go_wp2_with (at_builtin; refine wpList_append_run rfl _ _ _ rfl rfl rfl hrun ?_)
       go_roundw
       case rel => exact ⟨k + 1, len + 1, A2, c2', by omega, by go_num, by rw [Hst.out, List.length_append, ← Hlen.out]; rfl, rfl, by rw [Hst.out]; exact Hown3.out, Hb3.out⟩
       case measure => simp [intOf]; omega
      | false =>
       have Hst := Lib.hid (highL_no hhb)
       clear hhb hqn
       go_wp2
       go_roundw
       case rel => exact ⟨k + 1, len, A, c, by omega, by go_num, by rw [Hst.out]; exact Hlen.out, rfl, by rw [Hst.out]; exact Hown.out.below HBi.out, Hbr.out.trans (HBi.out.mono Hbr.out.size)⟩
       case measure => simp [intOf]; omega
   ·have hkn : k = s.pts.length := by omega
    subst hkn
    have Hown := Lib.hid hown
    have Hbr := Lib.hid hbr
    have Hlen := Lib.hid hlen
    clear hown hbr hlen
    have hF := Lib.hid (show highestF s = highL m s.pts.length s.pts.length by rw [HMe.out]; unfold highestF; rw [if_neg (by simp [HE.out])])
    go_wp2
    go_ret2
    refine ⟨A, c, ?_, ?_, ?_⟩
    ·rw [hF.out, ← Hlen.out, HE.out]; rfl
    ·rw [hF.out, ← Hlen.out]
     exact Hown.out.mono (Nat.le_trans HB1.out.size HB5.out.size)
    ·exact HB1.out.trans ((HB5.out.trans (Hbr.out.mono HB5.out.size)).mono Z1.out)
 ·have hne : (openE s != 0) = true := by simp [he]
  have hF := Lib.hid (show highestF s = [] by unfold highestF; rw [if_pos he])
  clear he
  go_enter Tryz.func25, Tryz.ntmps25
  go_upto_region 1 with (fail)
  rw [← hW1]
  clear hW1
  go_wp2_with (first | (go_at_call 44; refine HO.out.mono ?_; rintro e w3 ⟨rfl, hb3⟩) | (refine wpList_alloc_mat rfl rfl ?_; intro w4 hw4 hm4 hb4 hz4) | (refine wpList_store_mat rfl _ _ rfl rfl rfl hm4 ?_; intro w5 hm5 hg5))
  have hg5 : w4.grownBy w5 (some w3.heap.size) := hg5
  have z1 := HB1.out.size
  have z3 := hb3.size
  go_ret2
  refine ⟨none, 0, by rw [hF.out]; rfl, by rw [hF.out]; exact Own.nil _ _ _, ?_⟩
  exact HB1.out.trans ((hb3.trans ((hb4.mono (by omega)).trans (grown_below hg5 (by omega) (by omega)))).mono z1)
end Go.Proofs.YthnimhnlnddnoaaGreatDoor
namespace Go.Proofs.YthnimhnlnddnoaaGreatDoor
open Go.RowKit
def orderF (lo hi : Int) : Int := if lo = 0 ∧ hi = 0 then 3 else if 0 < lo then 2 else if hi < 0 then 1 else 0
def apartF (s : ShR) (p q : Int) : (Int × Int) × Int × Int :=
 if errOf s ≠ 0 then ((0, 0), 0, errOf s) else if outB 0 ((s.pts.length : Int) - 1) [p, q] = true then ((0, 0), 0, 4)
 else if openE s ≠ 0 then ((0, 0), 0, openE s)
 else ((- openM s p.toNat q.toNat, openM s q.toNat p.toNat), orderF (- openM s p.toNat q.toNat) (openM s q.toNat p.toNat), 0)
def apartV (r : (Int × Int) × Int × Int) : Value := .tuple #[.agg #[.int .i64 r.1.1, .int .i64 r.1.2], .int .i64 r.2.1, .int .i64 r.2.2]
theorem load40 {w : World} {g : Nat} {T : TypeId} {x y : Int} (h : w.heap[g]? = some (.cells #[.int .i64 x, .int .i64 y] T)) : (loadVar 42 ⟨g, 0, none⟩).run Tryz.prog w = .ok (.agg #[.int .i64 x, .int .i64 y]) w :=
 run_loadVar_row w g T 42 _ (0, 0) _ h Tryz.underlying42 rfl (by kernel_rfl)
theorem results26 {w : World} {g : Nat} {x y o r : Int} {tmps : Array Value} (h1 : w.heap[g]? = some (.cells #[.int .i64 x, .int .i64 y] 42)) (t1 : tmps[6]?.getD undef = .pointer (some ⟨g, 0, none⟩)) (t2 : tmps[7]?.getD undef = .int .i64 o) (t3 : tmps[8]?.getD undef = .int .i64 r) :
  (results Tryz.f24 tmps).run Tryz.prog w = .ok (.tuple #[.agg #[.int .i64 x, .int .i64 y], .int .i64 o, .int .i64 r]) w := by
 have hl := load40 h1
 clear h1
 simp [results, Tryz.results24, t1, t2, t3, asAddr, hl]
theorem row2 {w : World} {g : Nat} {a b : Value} (h : w.heap[g]? = some (.cells #[a, b] 42)) (x y : Value) : ((w.setCell ⟨g, 0, none⟩ x).setCell ⟨g, 1, none⟩ y).heap[g]? = some (.cells #[x, y] 42) :=
 heap_setCell_row (heap_setCell_row h x) y
theorem below2 {B g : Nat} {w : World} (hB : B ≤ g) (x y : Value) : Below B w ((w.setCell ⟨g, 0, none⟩ x).setCell ⟨g, 1, none⟩ y) := ((Below.refl _ _).setCell hB x).setCell hB y
theorem apart_any {B : Nat} {w : World} {v : Value} {s : ShR} (p q : Int) (hs : RdSh B w v s) (hn : Named s) (hB : B ≤ w.heap.size) :
  Calls Tryz.prog 24 #[v, .int .i64 p, .int .i64 q] w fun e w' => e = .returned (apartV (apartF s p q)) ∧ Below w.heap.size w w' := by
 obtain ⟨vp, vn, rfl, hp, ho⟩ := id hs
 obtain ⟨Ap, cp, rfl, h5, h6, _⟩ := id hp
 obtain ⟨W1, hW1, r1, z1, d1⟩ := box_any w #[.int .i64 s.iv, .slice Ap s.pts.length cp, vn] 38
 obtain ⟨W2, hW2, r2, z2, d2⟩ := box_any W1 #[.int .i64 0, .int .i64 0] 42
 have c0 : W2.heap[w.heap.size]? = some (.cells #[.int .i64 s.iv, .slice Ap s.pts.length cp, vn] 38) := (d2.block _ (by omega)).trans r1
 have m2 : W2.heap[w.heap.size + 1]? = some (.cells #[.int .i64 0, .int .i64 0] 42) := by have := r2; rwa [z1] at this
 have hb2 : Below w.heap.size w W2 := d1.trans (d2.mono (by omega))
 have C0 := Lib.hid c0
 have M2 := Lib.hid m2
 have HB2 := Lib.hid hb2
 have HC := Lib.hid (fun (W : World) (hb : Below W2.heap.size W2 W) => pcheck_any (w := W) (hs.below ((hb2.trans (hb.mono hb2.size)).mono hB)) hn (Nat.le_trans hB (Nat.le_trans hb2.size hb.size)))
 have HO := Lib.hid (fun (W : World) (hb : Below W2.heap.size W2 W) => open_any (w := W) (hs.below ((hb2.trans (hb.mono hb2.size)).mono hB)) hn (Nat.le_trans hB (Nat.le_trans hb2.size hb.size)))
 have HK : Hid (∀ W : World, Below W2.heap.size W2 W → W.cell? ⟨w.heap.size, 0, none⟩ = some (.int .i64 s.iv) ∧ W.cell? ⟨w.heap.size, 1, none⟩ = some (.slice Ap s.pts.length cp) ∧ W.cell? ⟨w.heap.size, 2, none⟩ = some vn ∧
   W.cell? ⟨w.heap.size + 1, 0, none⟩ = some (.int .i64 0) ∧ W.cell? ⟨w.heap.size + 1, 1, none⟩ = some (.int .i64 0) ∧ W.frozen? ⟨w.heap.size + 1, 0, none⟩ = false ∧ W.frozen? ⟨w.heap.size + 1, 1, none⟩ = false) :=
  Lib.hid fun W hb => by
   have a1 := (hb.block _ (lt_of_block c0)).trans c0
   have a2 := (hb.block _ (lt_of_block m2)).trans m2
   exact ⟨cellOf a1 0 rfl, cellOf a1 1 rfl, cellOf a1 2 rfl, cellOf a2 0 rfl, cellOf a2 1 rfl, by simp [World.frozen?, a2], by simp [World.frozen?, a2]⟩
 unfold checkV at HC
 have heo : errOf s = (check s).2.2 := rfl
 rw [← heo] at HC
 generalize (check s).1 = e1 at *
 generalize (check s).2.1 = e2 at *
 have hbx : Below W2.heap.size W2 W2 := Below.refl _ _
 clear heo hp ho hs r1 z1 d1 r2 z2 d2 c0 m2 hb2 h5 h6
 obtain ⟨q0, q1, q2, g0, g1, f0, f1⟩ := HK.out _ hbx
 by_cases he : errOf s = 0
 ·have HE := Lib.hid he
  have hne : (errOf s != 0) = false := by simp [he]
  have hg := good_of_valid he
  have hpl := hg.plen
  clear he hg
  by_cases ho : outB 0 ((s.pts.length : Int) - 1) [p, q] = true
  ·have hF := Lib.hid (show apartF s p q = ((0, 0), 0, 4) by unfold apartF; rw [if_neg (by simp [HE.out]), if_pos ho])
   go_enter Tryz.func24, Tryz.ntmps24
   go_upto_region 1 with (fail)
   rw [← hW1, ← hW2]
   clear hW1 hW2
   go_wp2_with (first | (go_at_call 58; refine (HC.out _ hbx).mono ?_; rintro e w3 ⟨rfl, hb3⟩; have hbx := hbx.trans (hb3.mono hbx.size); obtain ⟨q0, q1, q2, g0, g1, f0, f1⟩ := HK.out _ hbx) | (go_at_call 59; refine (out2_any _ _ _ _ _).mono ?_; rintro e w4 ⟨rfl, hb4⟩; have hbx := hbx.trans (hb4.mono hbx.size); obtain ⟨q0, q1, q2, g0, g1, f0, f1⟩ := HK.out _ hbx))
   have hr := row2 ((hbx.block _ (lt_of_block M2.out)).trans M2.out) (.int .i64 0) (.int .i64 0)
   refine bodyPost_ret (results26 hr rfl rfl rfl) rfl ⟨by rw [hF.out]; rfl, HB2.out.trans ((hbx.mono HB2.out.size).trans (below2 (Nat.le_succ _) _ _))⟩
  ·have ho : outB 0 ((s.pts.length : Int) - 1) [p, q] = false := by simpa using ho
   obtain ⟨i1, i2⟩ := outB_two_no.1 ho
   have i1 := inB_iff.1 i1
   have i2 := inB_iff.1 i2
   by_cases h0 : openE s = 0
   ·have hF := Lib.hid (show apartF s p q = ((- openM s p.toNat q.toNat, openM s q.toNat p.toNat), orderF (- openM s p.toNat q.toNat) (openM s q.toNat p.toNat), 0) by unfold apartF; rw [if_neg (by simp [HE.out]), if_neg (by simp [ho]), if_neg (by simp [h0])])
    have HFine := Lib.hid (openM_fine h0)
    rw [h0] at HO
    clear h0
    obtain ⟨pn, hpn⟩ := Int.eq_ofNat_of_zero_le i1.1
    obtain ⟨qn, hqn⟩ := Int.eq_ofNat_of_zero_le i2.1
    subst hpn hqn
    simp only [Int.toNat_natCast] at hF
    have lp : pn < 9 := by omega
    have lq : qn < 9 := by omega
    go_enter Tryz.func24, Tryz.ntmps24
    go_upto_region 1 with (fail)
    rw [← hW1, ← hW2]
    clear hW1 hW2
    go_upto_region 7 with (first | (go_at_call 58; refine (HC.out _ hbx).mono ?_; rintro e w3 ⟨rfl, hb3⟩; have hbx := hbx.trans (hb3.mono hbx.size); obtain ⟨q0, q1, q2, g0, g1, f0, f1⟩ := HK.out _ hbx) | (go_at_call 59; refine (out2_any _ _ _ _ _).mono ?_; rintro e w4 ⟨rfl, hb4⟩; have hbx := hbx.trans (hb4.mono hbx.size); obtain ⟨q0, q1, q2, g0, g1, f0, f1⟩ := HK.out _ hbx) | (go_at_call 44; refine (HO.out _ hbx).mono ?_; rintro e w5 ⟨rfl, hb5⟩; have hbx := hbx.trans (hb5.mono hbx.size); have hz5 := hbx.size) | (refine wpList_alloc_mat rfl rfl ?_; intro w6 hw6 hm6 hb6 hz6; have hbx := hbx.trans (hb6.mono hbx.size)) | (refine wpList_store_mat rfl _ _ rfl rfl rfl hm6 ?_; intro w7 hm7 hg7))
    have hg7 : w6.grownBy w7 (some w5.heap.size) := hg7
    have hm7 : MatAt w7 w5.heap.size 82 (openM s) := hm7
    have hbx := hbx.trans (grown_below hg7 hz5 hbx.size)
    obtain ⟨q0, q1, q2, g0, g1, f0, f1⟩ := HK.out _ hbx
    have m1 := hm7.cell lp lq
    have m2 := hm7.cell lq lp
    have p1 := HFine.out.ge lp lq
    have p2 := HFine.out.le pn qn lp lq
    generalize openM s pn qn = x1 at *
    generalize openM s qn pn = x2 at *
    have s1 : IntKind.i64.wrap (-x1) = -x1 := IntWalk.i64_in _ (by omega)
    have HBX := Lib.hid hbx
    have hrow := Lib.hid ((hbx.block _ (lt_of_block M2.out)).trans M2.out)
    have l1 : w.heap.size + 1 < w7.heap.size := lt_of_block hrow.out
    clear hm7 hg7 hbx hb3 hb4 hb5 hb6 hm6 hz5 hw6 hz6
    go_upto_region 9 with (fail)
    refine region_quiet_tail (C := fun w' => ∃ n, w' = w7.drewN n) 12 (by kernel_rfl) (by kernel_rfl) ⟨1, rfl⟩ ?_
    simp only [List.take_succ_cons, List.take_zero, List.drop_succ_cons, List.drop_zero]
    repeat (first | go_big_quiet_step (fail) | quiet_step (fail))
    refine wpQuiet_nil ?_
    rintro _ ⟨n1, rfl⟩
    obtain ⟨W9, hW9⟩ : ∃ W9, ((w7.drewN n1).setCell ⟨w.heap.size + 1, 0, none⟩ (.int .i64 (-x1))).setCell ⟨w.heap.size + 1, 1, none⟩ (.int .i64 x2) = W9 := ⟨_, rfl⟩
    have r9 : W9.heap[w.heap.size + 1]? = some (.cells #[.int .i64 (-x1), .int .i64 x2] 42) := by rw [← hW9]; exact row2 (w := w7.drewN n1) hrow.out _ _
    have hb9 : Below w.heap.size w W9 := by rw [← hW9]; exact HB2.out.trans ((HBX.out.mono HB2.out.size).trans ((below_drewN (Below.refl _ _) n1).trans (below2 (Nat.le_succ _) _ _)))
    have c9 := cellOf r9 0 rfl
    have d9 := cellOf r9 1 rfl
    have fz9 : W9.frozen? ⟨w.heap.size + 1, 0, none⟩ = false := by simp [World.frozen?, r9]
    have fy9 : W9.frozen? ⟨w.heap.size + 1, 1, none⟩ = false := by simp [World.frozen?, r9]
    have R9 := Lib.hid r9
    have HB9 := Lib.hid hb9
    clear r9 hb9
    go_upto_region 10 with (fail)
    clear hW9 m1 m2 g0 g1
    clear p1 p2 s1
    generalize -x1 = y at *
    by_cases y0 : y = 0
    ·subst y0
     by_cases z0 : x2 = 0
     ·subst z0
      have hO := Lib.hid (show orderF 0 0 = 3 from rfl)
      go_wp2
      have hr := row2 R9.out (.int .i64 0) (.int .i64 0)
      refine bodyPost_ret (results26 hr rfl rfl rfl) rfl ⟨by rw [hF.out, hO.out]; rfl, HB9.out.trans (below2 (Nat.le_succ _) _ _)⟩
     ·have zb : (x2 == 0) = false := by simpa using z0
      by_cases o3 : x2 < 0
      ·have hO := Lib.hid (show orderF 0 x2 = 1 by unfold orderF; rw [if_neg (by omega), if_neg (by omega), if_pos o3])
       clear z0
       go_wp2
       have hr := row2 R9.out (.int .i64 0) (.int .i64 x2)
       refine bodyPost_ret (results26 hr rfl rfl rfl) rfl ⟨by rw [hF.out, hO.out]; rfl, HB9.out.trans (below2 (Nat.le_succ _) _ _)⟩
      ·have hO := Lib.hid (show orderF 0 x2 = 0 by unfold orderF; rw [if_neg (by omega), if_neg (by omega), if_neg o3])
       clear z0
       go_wp2
       have hr := row2 R9.out (.int .i64 0) (.int .i64 x2)
       refine bodyPost_ret (results26 hr rfl rfl rfl) rfl ⟨by rw [hF.out, hO.out]; rfl, HB9.out.trans (below2 (Nat.le_succ _) _ _)⟩
    ·have yb : (y == 0) = false := by simpa using y0
     by_cases o2 : 0 < y
     ·have hO := Lib.hid (show orderF y x2 = 2 by unfold orderF; rw [if_neg (by omega), if_pos o2])
      clear y0
      go_wp2
      have hr := row2 R9.out (.int .i64 y) (.int .i64 x2)
      refine bodyPost_ret (results26 hr rfl rfl rfl) rfl ⟨by rw [hF.out, hO.out]; rfl, HB9.out.trans (below2 (Nat.le_succ _) _ _)⟩
     ·by_cases o3 : x2 < 0
      ·have hO := Lib.hid (show orderF y x2 = 1 by unfold orderF; rw [if_neg (by omega), if_neg o2, if_pos o3])
       clear y0
       go_wp2
       have hr := row2 R9.out (.int .i64 y) (.int .i64 x2)
       refine bodyPost_ret (results26 hr rfl rfl rfl) rfl ⟨by rw [hF.out, hO.out]; rfl, HB9.out.trans (below2 (Nat.le_succ _) _ _)⟩
      ·have hO := Lib.hid (show orderF y x2 = 0 by unfold orderF; rw [if_neg (by omega), if_neg o2, if_neg o3])
       clear y0
       go_wp2
       have hr := row2 R9.out (.int .i64 y) (.int .i64 x2)
       refine bodyPost_ret (results26 hr rfl rfl rfl) rfl ⟨by rw [hF.out, hO.out]; rfl, HB9.out.trans (below2 (Nat.le_succ _) _ _)⟩
   ·have h9 : openE s = 9 := by
     rw [openE_ok HE.out] at h0 ⊢
     by_cases hbd : (boundsF s 0).2 = false
     ·rw [if_pos hbd]
     ·rw [if_neg hbd] at h0; exact absurd rfl h0
    have hF := Lib.hid (show apartF s p q = ((0, 0), 0, 9) by unfold apartF; rw [if_neg (by simp [HE.out]), if_neg (by simp [ho]), if_pos h0, h9])
    rw [h9] at HO
    clear h0 h9 i1 i2
    go_enter Tryz.func24, Tryz.ntmps24
    go_upto_region 1 with (fail)
    rw [← hW1, ← hW2]
    clear hW1 hW2
    go_upto_region 7 with (first | (go_at_call 58; refine (HC.out _ hbx).mono ?_; rintro e w3 ⟨rfl, hb3⟩; have hbx := hbx.trans (hb3.mono hbx.size); obtain ⟨q0, q1, q2, g0, g1, f0, f1⟩ := HK.out _ hbx) | (go_at_call 59; refine (out2_any _ _ _ _ _).mono ?_; rintro e w4 ⟨rfl, hb4⟩; have hbx := hbx.trans (hb4.mono hbx.size); obtain ⟨q0, q1, q2, g0, g1, f0, f1⟩ := HK.out _ hbx) | (go_at_call 44; refine (HO.out _ hbx).mono ?_; rintro e w5 ⟨rfl, hb5⟩; have hbx := hbx.trans (hb5.mono hbx.size); have hz5 := hbx.size) | (refine wpList_alloc_mat rfl rfl ?_; intro w6 hw6 hm6 hb6 hz6; have hbx := hbx.trans (hb6.mono hbx.size)) | (refine wpList_store_mat rfl _ _ rfl rfl rfl hm6 ?_; intro w7 hm7 hg7))
    have hg7 : w6.grownBy w7 (some w5.heap.size) := hg7
    have hbx := hbx.trans (grown_below hg7 hz5 hbx.size)
    obtain ⟨q0, q1, q2, g0, g1, f0, f1⟩ := HK.out _ hbx
    have HBX := Lib.hid hbx
    clear hm7 hg7 hbx hb3 hb4 hb5 hb6 hm6 hz5 hw6 hz6
    go_wp2
    have hr := row2 ((HBX.out.block _ (lt_of_block M2.out)).trans M2.out) (.int .i64 0) (.int .i64 0)
    refine bodyPost_ret (results26 hr rfl rfl rfl) rfl ⟨by rw [hF.out]; rfl, HB2.out.trans ((HBX.out.mono HB2.out.size).trans (below2 (Nat.le_succ _) _ _))⟩
 ·have hne : (errOf s != 0) = true := by simp [he]
  have hF := Lib.hid (show apartF s p q = ((0, 0), 0, errOf s) by unfold apartF; rw [if_pos he])
  clear he
  go_enter Tryz.func24, Tryz.ntmps24
  go_upto_region 1 with (fail)
  rw [← hW1, ← hW2]
  clear hW1 hW2
  go_wp2_with (go_at_call 58; refine (HC.out _ hbx).mono ?_; rintro e w3 ⟨rfl, hb3⟩; have hbx := hbx.trans (hb3.mono hbx.size); obtain ⟨q0, q1, q2, g0, g1, f0, f1⟩ := HK.out _ hbx)
  have hr := row2 ((hbx.block _ (lt_of_block M2.out)).trans M2.out) (.int .i64 0) (.int .i64 0)
  refine bodyPost_ret (results26 hr rfl rfl rfl) rfl ⟨by rw [hF.out]; rfl, HB2.out.trans ((hbx.mono HB2.out.size).trans (below2 (Nat.le_succ _) _ _))⟩
end Go.Proofs.YthnimhnlnddnoaaGreatDoor
namespace Go.Proofs.YthnimhnlnddnoaaGreatDoor
def atL (l : List Int) (i k : Nat) : Int := l.getD (9 * i + k) 0
def Rep (b : Mat) (l : List Int) : Prop := ∀ i k, i < 9 → k < 9 → b i k = atL l i k
def bindL (f t : Nat) (m : Int) (l : List Int) : List Int :=
 if atL l f t ≤ m then l else if 0 ≤ m + atL l t f then (List.range 81).map fun n => min (atL l (n / 9) (n % 9)) (atL l (n / 9) f + m + atL l t (n % 9)) else l
def bindLB (f t : Nat) (m : Int) (l : List Int) : Bool := decide (atL l f t ≤ m) || decide (0 ≤ m + atL l t f)
theorem rep_bind {b : Mat} {l : List Int} {f t : Nat} {m : Int} (h : Rep b l) (hf : f < 9) (ht : t < 9) : Rep (bindR f t m b) (bindL f t m l) ∧ bindB f t m b = bindLB f t m l := by
 have h1 := h f t hf ht
 have h2 := h t f ht hf
 refine ⟨?_, by unfold bindB bindLB; rw [h1, h2]⟩
 unfold bindR bindL
 rw [h1, h2]
 split
 ·exact h
 ·split
  ·intro i k hi hk
   unfold bindM
   rw [h i k hi hk, h i f hi hf, h t k ht hk]
   have : 9 * i + k < 81 := by omega
   have e1 : (9 * i + k) / 9 = i := by omega
   have e2 : (9 * i + k) % 9 = k := by omega
   show _ = List.getD _ (9 * i + k) 0
   rw [List.getD_eq_getElem?_getD, List.getElem?_map, List.getElem?_range this]
   simp only [Option.map_some, Option.getD_some, e1, e2]
  ·exact h
def freeL : List Int := (List.range 81).map fun n => if n / 9 = n % 9 ∨ n % 9 = 8 then 0 else 9000
theorem rep_free : Rep freeM freeL := by
 intro i k hi hk
 have : 9 * i + k < 81 := by omega
 have e1 : (9 * i + k) / 9 = i := by omega
 have e2 : (9 * i + k) % 9 = k := by omega
 unfold atL freeL
 rw [List.getD_eq_getElem?_getD, List.getElem?_map, List.getElem?_range this]
 simp only [Option.map_some, Option.getD_some, e1, e2]
 rfl
def withL (iv wd : Int) (l : List Int) (x : NoteR) : List Int × Bool :=
 match bnd iv wd x 0, bnd iv wd x 1 with
 | (f0, t0, m0), (f1, t1, m1) => if bindLB f0 t0 m0 l = false then (bindL f0 t0 m0 l, false) else (bindL f1 t1 m1 (bindL f0 t0 m0 l), bindLB f1 t1 m1 (bindL f0 t0 m0 l))
def PtOK (x : NoteR) : Prop := x.a.toNat < 9 ∧ othN x < 9
theorem bnd_ok {iv wd : Int} {x : NoteR} (h : PtOK x) (k : Nat) : (bnd iv wd x k).1 < 9 ∧ (bnd iv wd x k).2.1 < 9 := by
 cases k with
 | zero => exact ⟨h.2, h.1⟩
 | succ k => exact ⟨h.1, h.2⟩
theorem rep_with {iv wd : Int} {b : Mat} {l : List Int} {x : NoteR} (h : Rep b l) (hx : PtOK x) : Rep (withM iv wd b x).1 (withL iv wd l x).1 ∧ (withM iv wd b x).2 = (withL iv wd l x).2 := by
 have o0 := bnd_ok (iv := iv) (wd := wd) hx 0
 have o1 := bnd_ok (iv := iv) (wd := wd) hx 1
 obtain ⟨r0, e0⟩ := rep_bind (m := (bnd iv wd x 0).2.2) h o0.1 o0.2
 obtain ⟨r1, e1⟩ := rep_bind (m := (bnd iv wd x 1).2.2) r0 o1.1 o1.2
 unfold withM withL
 have b0 : bndB iv wd x b 0 = bindLB (bnd iv wd x 0).1 (bnd iv wd x 0).2.1 (bnd iv wd x 0).2.2 l := e0
 have b1 : bndB iv wd x b 1 = bindLB (bnd iv wd x 1).1 (bnd iv wd x 1).2.1 (bnd iv wd x 1).2.2 (bindL (bnd iv wd x 0).1 (bnd iv wd x 0).2.1 (bnd iv wd x 0).2.2 l) := e1
 have m1 : bndM iv wd x b 1 = bindR (bnd iv wd x 0).1 (bnd iv wd x 0).2.1 (bnd iv wd x 0).2.2 b := rfl
 have m2 : bndM iv wd x b 2 = bindR (bnd iv wd x 1).1 (bnd iv wd x 1).2.1 (bnd iv wd x 1).2.2 (bndM iv wd x b 1) := rfl
 rw [b0, b1, m2, m1]
 simp only
 split
 ·exact ⟨r0, rfl⟩
 ·split
  ·rename_i hb
   exact ⟨r1, hb.symm⟩
  ·rename_i hb
   exact ⟨r1, by simpa using hb⟩
def allL (iv wd : Int) : List NoteR → List Int → List Int × Bool
 | [], l => (l, true)
 | x :: r, l => match withL iv wd l x with
  | (l', true) => allL iv wd r l'
  | (l', false) => (l', false)
theorem rep_all {iv wd : Int} : ∀ {xs : List NoteR} {b : Mat} {l : List Int}, Rep b l → (∀ x ∈ xs, PtOK x) → Rep (allM iv wd xs b).1 (allL iv wd xs l).1 ∧ (allM iv wd xs b).2 = (allL iv wd xs l).2 := by
 intro xs
 induction xs with
 | nil => intro b l h _; exact ⟨h, rfl⟩
 | cons x xs ih =>
  intro b l h hx
  obtain ⟨r, e⟩ := rep_with (iv := iv) (wd := wd) h (hx x (List.mem_cons_self ..))
  rw [allM_cons]
  unfold allL
  rw [e]
  split
  ·rename_i hf
   split
   ·rename_i hw; rw [hw] at hf; cases hf
   ·rename_i hw; rw [hw] at r; exact ⟨r, rfl⟩
  ·rename_i hf
   split
   ·rename_i hw
    rw [hw] at r
    exact ih r fun y hy => hx y (List.mem_cons_of_mem _ hy)
   ·rename_i hw; rw [hw] at hf; exact absurd rfl hf
def tryL (iv : Int) (notes : List NoteR) (left : Bool) : Nat → List Int → Bool → List Int → Bool × List Int → Bool × List Int
 | 0, _, bad, cur, st => if (st.1 && decide (st.2.length ≤ cur.length)) || (left && bad) then st else if bad || left then (true, cur) else st
 | r + 1, b, bad, cur, st =>
  if (st.1 && decide (st.2.length ≤ cur.length)) || (left && bad) then st else if bad then (true, cur)
  else match withL iv 0 b (notes.getD (notes.length - (r + 1)) default) with
  | (b', ok) =>
   if left then tryL iv notes left r b' (!ok) cur (tryL iv notes left r b false (cur ++ [((notes.length - (r + 1) : Nat) : Int)]) st)
   else tryL iv notes left r b false cur (tryL iv notes left r b' (!ok) (cur ++ [((notes.length - (r + 1) : Nat) : Int)]) st)
theorem rep_try {iv : Int} {notes : List NoteR} {left : Bool} (hx : ∀ x ∈ notes, PtOK x) : ∀ (r : Nat) (b : Mat) (l : List Int) (bad : Bool) (cur : List Int) (st : Bool × List Int), r ≤ notes.length → Rep b l → tryS iv notes left r b bad cur st = tryL iv notes left r l bad cur st := by
 intro r
 induction r with
 | zero => intro b l bad cur st _ _; rfl
 | succ r ih =>
  intro b l bad cur st hr h
  have hmem : notes.getD (notes.length - (r + 1)) default ∈ notes := getD_mem (by omega) _
  obtain ⟨r1, e1⟩ := rep_with (iv := iv) (wd := 0) h (hx _ hmem)
  unfold tryS tryL
  rw [e1]
  simp only [ih _ _ _ _ _ (by omega) h, ih _ _ _ _ _ (by omega) r1]
end Go.Proofs.YthnimhnlnddnoaaGreatDoor
