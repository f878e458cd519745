/- Parts of the proof of TpP: CoW. -/
import Derived.Test.YthnimhnlnddnoaaGreatDoorH41
import Derived.Test.YthnimhnlnddnoaaGreatDoorH24
import Derived.WalkKit
import Derived.Deep.Quiet
set_option linter.unusedSimpArgs false
set_option linter.unusedVariables false
set_option maxRecDepth 100000
set_option maxHeartbeats 8000000
namespace Go.Proofs.YthnimhnlnddnoaaGreatDoor
open Go.RowKit Go.Shelf
theorem enter72 : ∀ args w, (callFunc 72 args).run Tryz.prog w = .ok (.enter 72 args) w := enters_of Tryz.func72 (by kernel_rfl) rfl
theorem cost_any {r : List RvR} {lv fx : List Int} {tn h b mb : Nat} {Ar AL AF : Option Addr} {cr cL cF : Nat} (hg : RGood r) (htn : tn < r.length) (hlv : ∀ y ∈ lv, -20000 ≤ y ∧ y ≤ 20000) (hll : lv.length ≤ 100) (hfl : fx.length ≤ 9) :
  ∀ (n at_ : Nat), at_ < r.length → r.length - depth r at_ = n → ∀ (x : Int) (w : World), CosK r lv fx tn h b mb (.slice Ar r.length cr) (.slice AL lv.length cL) (.slice AF fx.length cF) w → mb < w.heap.size → SMap (costC r lv fx tn) w mb →
  Calls Tryz.prog 83 #[.pointer (some ⟨h, 0, none⟩), .agg #[.int .i64 at_, .int .i64 x]] w fun e w' => e = .returned (.int .i64 (costC r lv fx tn at_ x)) ∧ SMap (costC r lv fx tn) w' mb ∧ CF mb w w' := by
 have hlen := hg.len
 intro n
 induction n with
 | zero => intro at_ ha hn; have := depth_lt hg ha; omega
 | succ f ih =>
  intro at_ ha hn x w hK hm hS
  rcases slookup_run hS at_ x with hk | hk
  ·refine (cost_known hK hm hk).mono ?_
   rintro e w' ⟨rfl, hb⟩
   exact ⟨rfl, hS.of_below hb, .of_below hb⟩
  ·obtain ⟨W1, hW1, r1, z1, d1⟩ := box_any w #[.int .i64 at_, .int .i64 x] 136
   have hk1 := (hK.below (d1.mono (by omega))).row
   have q2 := cellOf hk1 2 (v := .map (some mb)) rfl
   have i0 := cellOf r1 0 (v := .int .i64 at_) rfl
   have i1 := cellOf r1 1 (v := .int .i64 x) rfl
   have hl : ∀ n, (Instr.lookup 130 (.map (some mb)) (.agg #[.int .i64 at_, .int .i64 x]) true).run Tryz.prog (W1.drewN n) = .ok (.tuple #[.int .i64 0, .bool false]) (W1.drewN n) := fun n => hk _ (d1.block mb hm)
   have HIB := Lib.hid (show ∀ X, CF mb W1 X → X.heap[w.heap.size]? = some (.cells #[.int .i64 at_, .int .i64 x] 136) from fun X hX => (hX.keep _ (by omega) (by omega)).trans r1)
   have HKX := Lib.hid (show ∀ X, CF mb W1 X → CosK r lv fx tn h b mb (.slice Ar r.length cr) (.slice AL lv.length cL) (.slice AF fx.length cF) X from fun X hX => (hK.below (d1.mono (by omega))).below (hX.below (by omega)))
   have HM1 := Lib.hid (show mb < W1.heap.size by omega)
   have HIBn := Lib.hid (show w.heap.size ≠ mb by omega)
   have HS1 := Lib.hid (hS.of_below d1)
   have HC1 := Lib.hid (show CF mb w W1 from .of_below d1)
   have HG := Lib.hid hg
   have HLV := Lib.hid (fun j (hj : j < lv.length) => hlv _ (getD_mem hj 0))
   have HCE := Lib.hid (costC_eq hg lv fx tn ha x)
   have HIh := Lib.hid (show ∀ q : Nat, q < r.length → rvD r q = at_ → ∀ (y : Int) (X : World), CF mb W1 X → SMap (costC r lv fx tn) X mb →
    Calls Tryz.prog 83 #[.pointer (some ⟨h, 0, none⟩), .agg #[.int .i64 q, .int .i64 y]] X fun e w' => e = .returned (.int .i64 (costC r lv fx tn q y)) ∧ SMap (costC r lv fx tn) w' mb ∧ CF mb X w' from fun q hq hd y X hX hSX => by
     have h1 := depth_down hg hq (by omega)
     rw [hd, show ((at_ : Int)).toNat = at_ from rfl] at h1
     exact ih q hq (by omega) y X ((hK.below (d1.mono (by omega))).below (hX.below (by omega))) hSX.lt hSX)
   have HRW := Lib.hid r1
   have HZ1 := Lib.hid z1
   clear hK hk hk1 hS r1 d1 hlv ih hg z1 hn hm
   go_enter Tryz.func83, Tryz.ntmps83
   go_upto_region 1 with (fail)
   rw [← hW1]
   clear hW1
   go_quiet (fail)
   obtain ⟨w2, hw2⟩ : ∃ X, X = W1.drewN nq := ⟨_, rfl⟩
   have hc2 : CF mb W1 w2 := by rw [hw2]; exact .of_below (below_drewN (Below.refl _ _) nq)
   have hs2 : SMap (costC r lv fx tn) w2 mb := by rw [hw2]; exact HS1.out.of_below (below_drewN (Below.refl _ _) nq)
   rw [← hw2]
   have HC2 := Lib.hid hc2
   have HS2 := Lib.hid hs2
   have hk2 := (HKX.out w2 hc2).row
   clear hw2 hl i0 i1 q2 hs2 hc2
   have q1 := cellOf hk2 1 (v := .slice AL lv.length cL) rfl
   clear hk2
   go_wp2
   clear q1
   go_loopw [7, 31] (fun mv jv wr => ∃ j : Nat, j ≤ lv.length ∧ jv = .int .i64 j ∧ mv = .int .i64 (costM r lv fx tn at_ x j) ∧ SMap (costC r lv fx tn) wr mb ∧ CF mb W1 wr) (fun _ jv _ => lv.length - (intOf jv).toNat)
   case atStart => exact ⟨0, Nat.zero_le _, rfl, rfl, HS2.out, HC2.out⟩
   case round =>
    obtain ⟨j, hj, rfl, rfl, hs, hc⟩ := hrel
    by_cases hlt : j < lv.length
    ·have hKr := HKX.out wr hc
     have hib := HIB.out wr hc
     obtain ⟨adL, rfl, _, eL⟩ := hKr.lvs.int hlt
     have hyb := HLV.out j hlt
     have HMS := Lib.hid (costM_succ r lv fx tn at_ x hlt)
     replace eL : wr.cell? (adL.add j) = some (.int .i64 (lv.getD j 0)) := by rw [List.getD_eq_getElem?_getD]; exact eL
     have hLk := hKr.lk.lk (by have := hs.lt; omega)
     have e1 := hLk.drop hlen.2 ha htn
     have d1 := drop_ge HG.out (i := tn) ha
     have d2 := drop_le HG.out (i := tn) ha
     have d1 := d1.1
     have q0 := cellOf hKr.row 0 (v := .pointer (some ⟨b, 0, none⟩)) rfl
     have q4 := cellOf hKr.row 4 (v := .int .i64 tn) rfl
     have i0 := cellOf hib 0 (v := .int .i64 at_) rfl
     have ha9 : at_ < 9 := by omega
     have ht9 : tn < 9 := by omega
     have HC := Lib.hid hc
     have HS := Lib.hid hs
     have HMB := Lib.hid (costM_bound r lv fx tn at_ x j)
     clear hKr hib hs hc hLk
     rw [show costM r lv fx tn at_ x (j + 1) = costS r lv fx tn at_ x (costM r lv fx tn at_ x j) (lv.getD j 0) from HMS.out] at HMS
     clear HMS
     have HMS := Lib.hid (costM_succ r lv fx tn at_ x hlt)
     generalize costM r lv fx tn at_ x j = m at *
     obtain ⟨y, hy⟩ : ∃ y, y = lv.getD j 0 := ⟨_, rfl⟩
     rw [← hy] at eL hyb HMS
     obtain ⟨d, hd⟩ : ∃ d, d = dropR r at_ tn := ⟨_, rfl⟩
     rw [← hd] at e1 d1 d2
     have HD := Lib.hid hd
     clear hy hd
     go_upto_region 8 with (fail)
     go_quiet (fail)
     obtain ⟨w3, hw3⟩ : ∃ X, X = wr.drewN nq := ⟨_, rfl⟩
     have hc3 : CF mb W1 w3 := by rw [hw3]; exact HC.out.trans (.of_below (below_drewN (Below.refl _ _) nq))
     have hs3 : SMap (costC r lv fx tn) w3 mb := by rw [hw3]; exact HS.out.of_below (below_drewN (Below.refl _ _) nq)
     rw [← hw3]
     clear hw3 eL e1 q0 q4 i0 HC HS
     have hK3 := HKX.out w3 hc3
     have hib3 := HIB.out w3 hc3
     have I0 := Lib.hid (cellOf hib3 0 (v := .int .i64 at_) rfl)
     have I1 := Lib.hid (cellOf hib3 1 (v := .int .i64 x) rfl)
     have H3 := Lib.hid (cellOf hK3.row 3 (v := .slice AF fx.length cF) rfl)
     obtain ⟨fv, hfv⟩ : ∃ v, v = fx.getD at_ 0 := ⟨_, rfl⟩
     obtain ⟨ad9, t3, HFX, HT3, HT3b⟩ : ∃ (ad9 : Addr) (t3 : Bool), Hid (t3 = true → at_ < fx.length ∧ ∃ ad0, AF = some ad0 ∧ ad9 = ad0.add at_ ∧ w3.cell? ad9 = some (.int .i64 fv)) ∧ Hid (decide ((at_ : Int) < (fx.length : Int)) = t3) ∧ Hid (decide (at_ < fx.length) = t3) := by
      by_cases hlf : at_ < fx.length
      ·obtain ⟨ad0, rfl, _, hc0⟩ := hK3.fxs.int hlf
       refine ⟨ad0.add at_, true, Lib.hid fun _ => ⟨hlf, ad0, rfl, rfl, ?_⟩, Lib.hid (by simp; omega), Lib.hid (by simp; omega)⟩
       rw [hfv, List.getD_eq_getElem?_getD]
       exact hc0
      ·exact ⟨⟨0, 0, none⟩, false, Lib.hid fun h => (by cases h), Lib.hid (by simp; omega), Lib.hid (by simp; omega)⟩
     obtain ⟨t1, ht1⟩ : ∃ t, decide (y < x) = t := ⟨_, rfl⟩
     have HT1 := Lib.hid ht1
     obtain ⟨t4, ht4⟩ : ∃ t, (fv != y + d) = t := ⟨_, rfl⟩
     have HT4 := Lib.hid ht4
     obtain ⟨o, ho⟩ : ∃ t, t = outB 0 9000 [y + d] := ⟨_, rfl⟩
     have HO9 := Lib.hid ho
     obtain ⟨s, hs9⟩ : ∃ t, t = (t1 || o) := ⟨_, rfl⟩
     have HS9 := Lib.hid hs9
     obtain ⟨sk, hsk⟩ : ∃ t, t = (s || (t3 && t4)) := ⟨_, rfl⟩
     have HSK := Lib.hid hsk
     have HSS := Lib.hid (show sk = true ↔ skipS r fx tn at_ x y by
      unfold skipS
      rw [← HD.out, ← hfv, hsk, hs9, ho, ← ht1, ← ht4, ← HT3b.out]
      simp only [outB, outP]
      by_cases a1 : y < x <;> by_cases a2 : y + d < 0 <;> by_cases a3 : 9000 < y + d <;> by_cases a4 : at_ < fx.length <;> by_cases a5 : fv = y + d <;> simp [a1, a2, a3, a4, a5])
     have HLn := Lib.hid hfl
     have HC3 := Lib.hid hc3
     have HS3 := Lib.hid hs3
     have HFV := Lib.hid hfv
     clear ht1 ht4 ho hs9 hsk hfv hc3 hs3 hK3 hib3
     go_upto_region 9 with (fail)
     refine wp_region_ghostH (AgI w3 (fun k => ([.int .i64 y, .pointer (some ⟨w.heap.size, 1, none⟩), .int .i64 x, .bool t1, .bool t1, (bif t1 then undef else .int .i64 (y + d)), undef, (bif t1 then undef else .bool o), .bool s, .bool s, (bif s then undef else .pointer (some ⟨w.heap.size, 0, none⟩)), (bif s then undef else .int .i64 at_), (bif s then undef else .pointer (some ⟨h, 0, none⟩)), (bif s then undef else .pointer (some ⟨h, 0, none⟩)), (bif s then undef else .pointer (some ⟨h, 3, none⟩)), (bif s then undef else .slice AF fx.length cF), (bif s then undef else .int .i64 fx.length), (bif s then undef else .bool t3), (bif s then undef else .bool t3), (bif (s || !t3) then undef else .pointer (some ⟨h, 0, none⟩)), (bif (s || !t3) then undef else .pointer (some ⟨h, 0, none⟩)), (bif (s || !t3) then undef else .pointer (some ⟨h, 3, none⟩)), (bif (s || !t3) then undef else .slice AF fx.length cF), (bif (s || !t3) then undef else .pointer (some ⟨w.heap.size, 0, none⟩)), (bif (s || !t3) then undef else .int .i64 at_), (bif (s || !t3) then undef else .pointer (some ad9)), (bif (s || !t3) then undef else .int .i64 fv), (bif (s || !t3) then undef else .int .i64 (y + d)), (bif (s || !t3) then undef else .bool t4), (bif s then undef else .bool (t3 && t4)), .bool sk] : List Value).getD k undef) (fun k => if k = 6 then (bif t1 then none else some (1, #[.int .i64 (y + d)], 3)) else none)) (by kernel_rfl) (by kernel_rfl) ?_ ?_ ?_
     ·exact ⟨(Below.refl _ _).drew, fun _ _ h => (by cases h), fun _ _ _ _ _ h => (by cases h)⟩
     ·refine ⟨?_, ?_, ?_, ?_, ?_, ?_, ?_, ?_, ?_, ?_, ?_, ?_, ?_, ?_, ?_, ?_, ?_, ?_, ?_, ?_, ?_, ?_, ?_, ?_, ?_, ?_, ?_, ?_, ?_, ?_, ?_, trivial⟩
      all_goals
       intro L vs X b0 hL hw hcl hI hf
      ·have e9 := hf.old 9 (by kernel_rfl)
       refine .inl ⟨wanted_plain rfl, ?_⟩
       exact wp_of_run (v := .int .i64 y) (w' := X) (by unfold execOp; go_simp) (hI.next (i := 0) rfl rfl (Below.refl _ _))
      ·have e3 := hf.old 3 (by kernel_rfl)
       refine .inl ⟨wanted_plain rfl, ?_⟩
       exact wp_of_run (v := .pointer (some ⟨w.heap.size, 1, none⟩)) (w' := X) (by unfold execOp; go_simp) (hI.next (i := 1) rfl rfl (Below.refl _ _))
      ·have e53 := hf.got hw 1 53 (.pointer (some ⟨w.heap.size, 1, none⟩)) rfl (by kernel_rfl) (by simp) (hI.rd 1 rfl)
       have qI1 := (hI.bel.cell (cell_lt I1.out)).trans I1.out
       refine .inl ⟨wanted_plain rfl, ?_⟩
       exact wp_of_run (v := .int .i64 x) (w' := X) (by unfold execOp; go_simp) (hI.next (i := 2) rfl rfl (Below.refl _ _))
      ·have e52 := hf.got hw 0 52 (.int .i64 y) rfl (by kernel_rfl) (by simp) (hI.rd 0 rfl)
       have e54 := hf.got hw 2 54 (.int .i64 x) rfl (by kernel_rfl) (by simp) (hI.rd 2 rfl)
       have ht := HT1.out
       refine .inl ⟨wanted_plain rfl, ?_⟩
       exact wp_of_run (v := .bool t1) (w' := X) (by unfold execOp; go_simp) (hI.next (i := 3) rfl rfl (Below.refl _ _))
      ·have e55 := hf.got hw 3 55 (.bool t1) rfl (by kernel_rfl) (by simp) (hI.rd 3 rfl)
       refine .inl ⟨wanted_plain rfl, ?_⟩
       exact wp_of_run (v := .bool t1) (w' := X) (by unfold execOp; go_simp) (hI.next (i := 4) rfl rfl (Below.refl _ _))
      ·have eg := hf.got hw 4 56 (.bool t1) rfl (by kernel_rfl) (by simp) (hI.rd 4 rfl)
       cases t1 with
       | true => exact .inr ⟨wanted_not (k := 4) (d := 56) rfl rfl eg (by simp), hI.skip (i := 5) rfl rfl⟩
       | false =>
        have e10 := hf.old 10 (by kernel_rfl)
        refine .inl ⟨wanted_of rfl (k := 4) (d := 56) rfl eg, ?_⟩
        exact wp_of_run (v := .int .i64 (y + d)) (w' := X) (by unfold execOp; go_simp) (hI.next (i := 5) rfl rfl (Below.refl _ _))
      ·have eg := hf.got hw 4 56 (.bool t1) rfl (by kernel_rfl) (by simp) (hI.rd 4 rfl)
       cases t1 with
       | true => exact .inr ⟨wanted_not (k := 4) (d := 56) rfl rfl eg (by simp), hI.skip (i := 6) rfl rfl⟩
       | false =>
        have e57 := hf.got hw 5 57 ((bif false then undef else .int .i64 (y + d))) rfl (by kernel_rfl) (by simp) (hI.rd 5 rfl)
        simp only [cond_true, cond_false, Bool.or_true, Bool.true_or, Bool.or_false, Bool.false_or, Bool.not_true, Bool.not_false, Bool.and_true, Bool.true_and, Bool.and_false, Bool.false_and] at e57
        refine .inl ⟨wanted_of rfl (k := 4) (d := 56) rfl eg, ?_⟩
        exact wp_of_run (v := .slice (some ⟨X.heap.size, 0, none⟩) 1 1) (w' := X.alloc (.cells #[.int .i64 (y + d)] 3)) (by unfold execOp; go_simp) (hI.made (i := 6) rfl)
      ·have eg := hf.got hw 4 56 (.bool t1) rfl (by kernel_rfl) (by simp) (hI.rd 4 rfl)
       cases t1 with
       | true => exact .inr ⟨wanted_not (k := 4) (d := 56) rfl rfl eg (by simp), hI.skip (i := 7) rfl rfl⟩
       | false =>
        have h6 : L 6 = true := done_of hw 6 (by kernel_rfl)
        obtain ⟨g6, hv6, hg6⟩ := hI.sl 6 1 #[.int .i64 (y + d)] 3 rfl h6
        have e58 : b0.tmps[58]?.getD undef = .slice (some ⟨g6, 0, none⟩) 1 1 := (hf.new 6 58 rfl h6 (by simp)).trans hv6
        refine .inl ⟨wanted_of rfl (k := 4) (d := 56) rfl eg, ?_⟩
        refine wp_of_call (f := 72) (args := #[.int .i64 0, .int .i64 9000, .slice (some ⟨g6, 0, none⟩) 1 1]) (run_call_clo (.func 72) _ _ rfl (c := #[]) rfl enter72 (by simp [eval_tmp e58]; exact ⟨rfl, rfl⟩)) ?_
        refine (rout_any (xs := [y + d]) 0 9000 (lit_rd [y + d] (by simp) rfl rfl hg6) (Nat.le_refl _)).mono ?_
        rintro e wz ⟨rfl, hbz⟩
        exact ⟨_, rfl, hI.next (i := 7) rfl (by show Value.bool _ = Value.bool o; rw [HO9.out]) hbz⟩
      ·have e56 := hf.got hw 4 56 (.bool t1) rfl (by kernel_rfl) (by simp) (hI.rd 4 rfl)
       have e59 := hf.got hw 7 59 (bif t1 then undef else .bool o) rfl (by kernel_rfl) (by simp) (hI.rd 7 rfl)
       have hs := HS9.out
       cases t1 with
       | true =>
        simp only [Bool.true_or] at hs
        subst hs
        refine .inl ⟨wanted_plain rfl, ?_⟩
        exact wp_of_run (v := .bool true) (w' := X) (by unfold execOp; go_simp) (hI.next (i := 8) rfl rfl (Below.refl _ _))
       | false =>
        simp only [Bool.false_or] at hs
        subst hs
        simp only [cond_true, cond_false, Bool.or_true, Bool.true_or, Bool.or_false, Bool.false_or, Bool.not_true, Bool.not_false, Bool.and_true, Bool.true_and, Bool.and_false, Bool.false_and] at e59
        refine .inl ⟨wanted_plain rfl, ?_⟩
        exact wp_of_run (v := .bool s) (w' := X) (by unfold execOp; go_simp) (hI.next (i := 8) rfl rfl (Below.refl _ _))
      ·have e60 := hf.got hw 8 60 (.bool s) rfl (by kernel_rfl) (by simp) (hI.rd 8 rfl)
       refine .inl ⟨wanted_plain rfl, ?_⟩
       exact wp_of_run (v := .bool s) (w' := X) (by unfold execOp; go_simp) (hI.next (i := 9) rfl rfl (Below.refl _ _))
      ·have eg := hf.got hw 9 61 (.bool s) rfl (by kernel_rfl) (by simp) (hI.rd 9 rfl)
       cases s with
       | true => exact .inr ⟨wanted_not (k := 9) (d := 61) rfl rfl eg (by simp), hI.skip (i := 10) rfl rfl⟩
       | false =>
        have e3 := hf.old 3 (by kernel_rfl)
        refine .inl ⟨wanted_of rfl (k := 9) (d := 61) rfl eg, ?_⟩
        exact wp_of_run (v := .pointer (some ⟨w.heap.size, 0, none⟩)) (w' := X) (by unfold execOp; go_simp) (hI.next (i := 10) rfl rfl (Below.refl _ _))
      ·have eg := hf.got hw 9 61 (.bool s) rfl (by kernel_rfl) (by simp) (hI.rd 9 rfl)
       cases s with
       | true => exact .inr ⟨wanted_not (k := 9) (d := 61) rfl rfl eg (by simp), hI.skip (i := 11) rfl rfl⟩
       | false =>
        have e62 := hf.got hw 10 62 ((bif false then undef else .pointer (some ⟨w.heap.size, 0, none⟩))) rfl (by kernel_rfl) (by simp) (hI.rd 10 rfl)
        simp only [cond_true, cond_false, Bool.or_true, Bool.true_or, Bool.or_false, Bool.false_or, Bool.not_true, Bool.not_false, Bool.and_true, Bool.true_and, Bool.and_false, Bool.false_and] at e62
        have qI0 := (hI.bel.cell (cell_lt I0.out)).trans I0.out
        refine .inl ⟨wanted_of rfl (k := 9) (d := 61) rfl eg, ?_⟩
        exact wp_of_run (v := .int .i64 at_) (w' := X) (by unfold execOp; go_simp) (hI.next (i := 11) rfl rfl (Below.refl _ _))
      ·have eg := hf.got hw 9 61 (.bool s) rfl (by kernel_rfl) (by simp) (hI.rd 9 rfl)
       cases s with
       | true => exact .inr ⟨wanted_not (k := 9) (d := 61) rfl rfl eg (by simp), hI.skip (i := 12) rfl rfl⟩
       | false =>
        have e0 := hf.old 0 (by kernel_rfl)
        refine .inl ⟨wanted_of rfl (k := 9) (d := 61) rfl eg, ?_⟩
        exact wp_of_run (v := .pointer (some ⟨h, 0, none⟩)) (w' := X) (by unfold execOp; go_simp) (hI.next (i := 12) rfl rfl (Below.refl _ _))
      ·have eg := hf.got hw 9 61 (.bool s) rfl (by kernel_rfl) (by simp) (hI.rd 9 rfl)
       cases s with
       | true => exact .inr ⟨wanted_not (k := 9) (d := 61) rfl rfl eg (by simp), hI.skip (i := 13) rfl rfl⟩
       | false =>
        have e64 := hf.got hw 12 64 ((bif false then undef else .pointer (some ⟨h, 0, none⟩))) rfl (by kernel_rfl) (by simp) (hI.rd 12 rfl)
        simp only [cond_true, cond_false, Bool.or_true, Bool.true_or, Bool.or_false, Bool.false_or, Bool.not_true, Bool.not_false, Bool.and_true, Bool.true_and, Bool.and_false, Bool.false_and] at e64
        refine .inl ⟨wanted_of rfl (k := 9) (d := 61) rfl eg, ?_⟩
        exact wp_of_run (v := .pointer (some ⟨h, 0, none⟩)) (w' := X) (by unfold execOp; go_simp) (hI.next (i := 13) rfl rfl (Below.refl _ _))
      ·have eg := hf.got hw 9 61 (.bool s) rfl (by kernel_rfl) (by simp) (hI.rd 9 rfl)
       cases s with
       | true => exact .inr ⟨wanted_not (k := 9) (d := 61) rfl rfl eg (by simp), hI.skip (i := 14) rfl rfl⟩
       | false =>
        have e65 := hf.got hw 13 65 ((bif false then undef else .pointer (some ⟨h, 0, none⟩))) rfl (by kernel_rfl) (by simp) (hI.rd 13 rfl)
        simp only [cond_true, cond_false, Bool.or_true, Bool.true_or, Bool.or_false, Bool.false_or, Bool.not_true, Bool.not_false, Bool.and_true, Bool.true_and, Bool.and_false, Bool.false_and] at e65
        refine .inl ⟨wanted_of rfl (k := 9) (d := 61) rfl eg, ?_⟩
        exact wp_of_run (v := .pointer (some ⟨h, 3, none⟩)) (w' := X) (by unfold execOp; go_simp) (hI.next (i := 14) rfl rfl (Below.refl _ _))
      ·have eg := hf.got hw 9 61 (.bool s) rfl (by kernel_rfl) (by simp) (hI.rd 9 rfl)
       cases s with
       | true => exact .inr ⟨wanted_not (k := 9) (d := 61) rfl rfl eg (by simp), hI.skip (i := 15) rfl rfl⟩
       | false =>
        have e66 := hf.got hw 14 66 ((bif false then undef else .pointer (some ⟨h, 3, none⟩))) rfl (by kernel_rfl) (by simp) (hI.rd 14 rfl)
        simp only [cond_true, cond_false, Bool.or_true, Bool.true_or, Bool.or_false, Bool.false_or, Bool.not_true, Bool.not_false, Bool.and_true, Bool.true_and, Bool.and_false, Bool.false_and] at e66
        have qH3 := (hI.bel.cell (cell_lt H3.out)).trans H3.out
        refine .inl ⟨wanted_of rfl (k := 9) (d := 61) rfl eg, ?_⟩
        exact wp_of_run (v := .slice AF fx.length cF) (w' := X) (by unfold execOp; go_simp) (hI.next (i := 15) rfl rfl (Below.refl _ _))
      ·have eg := hf.got hw 9 61 (.bool s) rfl (by kernel_rfl) (by simp) (hI.rd 9 rfl)
       cases s with
       | true => exact .inr ⟨wanted_not (k := 9) (d := 61) rfl rfl eg (by simp), hI.skip (i := 16) rfl rfl⟩
       | false =>
        have e67 := hf.got hw 15 67 (bif false then undef else .slice AF fx.length cF) rfl (by kernel_rfl) (by simp) (hI.rd 15 rfl)
        simp only [cond_true, cond_false, Bool.or_true, Bool.true_or, Bool.or_false, Bool.false_or, Bool.not_true, Bool.not_false, Bool.and_true, Bool.true_and, Bool.and_false, Bool.false_and] at e67
        refine .inl ⟨wanted_of rfl (k := 9) (d := 61) rfl eg, ?_⟩
        exact wp_of_run (v := .int .i64 fx.length) (w' := X) (by unfold execOp; go_simp) (hI.next (i := 16) rfl rfl (Below.refl _ _))
      ·have eg := hf.got hw 9 61 (.bool s) rfl (by kernel_rfl) (by simp) (hI.rd 9 rfl)
       cases s with
       | true => exact .inr ⟨wanted_not (k := 9) (d := 61) rfl rfl eg (by simp), hI.skip (i := 17) rfl rfl⟩
       | false =>
        have e63 := hf.got hw 11 63 (bif false then undef else .int .i64 at_) rfl (by kernel_rfl) (by simp) (hI.rd 11 rfl)
        have e68 := hf.got hw 16 68 (bif false then undef else .int .i64 fx.length) rfl (by kernel_rfl) (by simp) (hI.rd 16 rfl)
        simp only [cond_true, cond_false, Bool.or_true, Bool.true_or, Bool.or_false, Bool.false_or, Bool.not_true, Bool.not_false, Bool.and_true, Bool.true_and, Bool.and_false, Bool.false_and] at e63 e68
        have ht := HT3.out
        have ht2 := HT3b.out
        refine .inl ⟨wanted_of rfl (k := 9) (d := 61) rfl eg, ?_⟩
        exact wp_of_run (v := .bool t3) (w' := X) (by unfold execOp; go_simp) (hI.next (i := 17) rfl rfl (Below.refl _ _))
      ·have eg := hf.got hw 9 61 (.bool s) rfl (by kernel_rfl) (by simp) (hI.rd 9 rfl)
       cases s with
       | true => exact .inr ⟨wanted_not (k := 9) (d := 61) rfl rfl eg (by simp), hI.skip (i := 18) rfl rfl⟩
       | false =>
        have e69 := hf.got hw 17 69 (bif false then undef else .bool t3) rfl (by kernel_rfl) (by simp) (hI.rd 17 rfl)
        simp only [cond_true, cond_false, Bool.or_true, Bool.true_or, Bool.or_false, Bool.false_or, Bool.not_true, Bool.not_false, Bool.and_true, Bool.true_and, Bool.and_false, Bool.false_and] at e69
        refine .inl ⟨wanted_of rfl (k := 9) (d := 61) rfl eg, ?_⟩
        exact wp_of_run (v := .bool t3) (w' := X) (by unfold execOp; go_simp) (hI.next (i := 18) rfl rfl (Below.refl _ _))
      ·have eg := hf.got hw 18 70 (bif s then undef else .bool t3) rfl (by kernel_rfl) (by simp) (hI.rd 18 rfl)
       cases s with
       | true => exact .inr ⟨wanted_not (k := 18) (d := 70) rfl rfl eg (by simp [undef]), hI.skip (i := 19) rfl rfl⟩
       | false =>
        cases t3 with
        | false => exact .inr ⟨wanted_not (k := 18) (d := 70) rfl rfl eg (by simp), hI.skip (i := 19) rfl rfl⟩
        | true =>
         have e0 := hf.old 0 (by kernel_rfl)
         refine .inl ⟨wanted_of rfl (k := 18) (d := 70) rfl eg, ?_⟩
         exact wp_of_run (v := .pointer (some ⟨h, 0, none⟩)) (w' := X) (by unfold execOp; go_simp) (hI.next (i := 19) rfl rfl (Below.refl _ _))
      ·have eg := hf.got hw 18 70 (bif s then undef else .bool t3) rfl (by kernel_rfl) (by simp) (hI.rd 18 rfl)
       cases s with
       | true => exact .inr ⟨wanted_not (k := 18) (d := 70) rfl rfl eg (by simp [undef]), hI.skip (i := 20) rfl rfl⟩
       | false =>
        cases t3 with
        | false => exact .inr ⟨wanted_not (k := 18) (d := 70) rfl rfl eg (by simp), hI.skip (i := 20) rfl rfl⟩
        | true =>
         have e71 := hf.got hw 19 71 ((bif (false || !true) then undef else .pointer (some ⟨h, 0, none⟩))) rfl (by kernel_rfl) (by simp) (hI.rd 19 rfl)
         simp only [cond_true, cond_false, Bool.or_true, Bool.true_or, Bool.or_false, Bool.false_or, Bool.not_true, Bool.not_false, Bool.and_true, Bool.true_and, Bool.and_false, Bool.false_and] at e71
         refine .inl ⟨wanted_of rfl (k := 18) (d := 70) rfl eg, ?_⟩
         exact wp_of_run (v := .pointer (some ⟨h, 0, none⟩)) (w' := X) (by unfold execOp; go_simp) (hI.next (i := 20) rfl rfl (Below.refl _ _))
      ·have eg := hf.got hw 18 70 (bif s then undef else .bool t3) rfl (by kernel_rfl) (by simp) (hI.rd 18 rfl)
       cases s with
       | true => exact .inr ⟨wanted_not (k := 18) (d := 70) rfl rfl eg (by simp [undef]), hI.skip (i := 21) rfl rfl⟩
       | false =>
        cases t3 with
        | false => exact .inr ⟨wanted_not (k := 18) (d := 70) rfl rfl eg (by simp), hI.skip (i := 21) rfl rfl⟩
        | true =>
         have e72 := hf.got hw 20 72 ((bif (false || !true) then undef else .pointer (some ⟨h, 0, none⟩))) rfl (by kernel_rfl) (by simp) (hI.rd 20 rfl)
         simp only [cond_true, cond_false, Bool.or_true, Bool.true_or, Bool.or_false, Bool.false_or, Bool.not_true, Bool.not_false, Bool.and_true, Bool.true_and, Bool.and_false, Bool.false_and] at e72
         refine .inl ⟨wanted_of rfl (k := 18) (d := 70) rfl eg, ?_⟩
         exact wp_of_run (v := .pointer (some ⟨h, 3, none⟩)) (w' := X) (by unfold execOp; go_simp) (hI.next (i := 21) rfl rfl (Below.refl _ _))
      ·have eg := hf.got hw 18 70 (bif s then undef else .bool t3) rfl (by kernel_rfl) (by simp) (hI.rd 18 rfl)
       cases s with
       | true => exact .inr ⟨wanted_not (k := 18) (d := 70) rfl rfl eg (by simp [undef]), hI.skip (i := 22) rfl rfl⟩
       | false =>
        cases t3 with
        | false => exact .inr ⟨wanted_not (k := 18) (d := 70) rfl rfl eg (by simp), hI.skip (i := 22) rfl rfl⟩
        | true =>
         have e73 := hf.got hw 21 73 ((bif (false || !true) then undef else .pointer (some ⟨h, 3, none⟩))) rfl (by kernel_rfl) (by simp) (hI.rd 21 rfl)
         simp only [cond_true, cond_false, Bool.or_true, Bool.true_or, Bool.or_false, Bool.false_or, Bool.not_true, Bool.not_false, Bool.and_true, Bool.true_and, Bool.and_false, Bool.false_and] at e73
         have qH3 := (hI.bel.cell (cell_lt H3.out)).trans H3.out
         refine .inl ⟨wanted_of rfl (k := 18) (d := 70) rfl eg, ?_⟩
         exact wp_of_run (v := .slice AF fx.length cF) (w' := X) (by unfold execOp; go_simp) (hI.next (i := 22) rfl rfl (Below.refl _ _))
      ·have eg := hf.got hw 18 70 (bif s then undef else .bool t3) rfl (by kernel_rfl) (by simp) (hI.rd 18 rfl)
       cases s with
       | true => exact .inr ⟨wanted_not (k := 18) (d := 70) rfl rfl eg (by simp [undef]), hI.skip (i := 23) rfl rfl⟩
       | false =>
        cases t3 with
        | false => exact .inr ⟨wanted_not (k := 18) (d := 70) rfl rfl eg (by simp), hI.skip (i := 23) rfl rfl⟩
        | true =>
         have e3 := hf.old 3 (by kernel_rfl)
         refine .inl ⟨wanted_of rfl (k := 18) (d := 70) rfl eg, ?_⟩
         exact wp_of_run (v := .pointer (some ⟨w.heap.size, 0, none⟩)) (w' := X) (by unfold execOp; go_simp) (hI.next (i := 23) rfl rfl (Below.refl _ _))
      ·have eg := hf.got hw 18 70 (bif s then undef else .bool t3) rfl (by kernel_rfl) (by simp) (hI.rd 18 rfl)
       cases s with
       | true => exact .inr ⟨wanted_not (k := 18) (d := 70) rfl rfl eg (by simp [undef]), hI.skip (i := 24) rfl rfl⟩
       | false =>
        cases t3 with
        | false => exact .inr ⟨wanted_not (k := 18) (d := 70) rfl rfl eg (by simp), hI.skip (i := 24) rfl rfl⟩
        | true =>
         have e75 := hf.got hw 23 75 ((bif (false || !true) then undef else .pointer (some ⟨w.heap.size, 0, none⟩))) rfl (by kernel_rfl) (by simp) (hI.rd 23 rfl)
         simp only [cond_true, cond_false, Bool.or_true, Bool.true_or, Bool.or_false, Bool.false_or, Bool.not_true, Bool.not_false, Bool.and_true, Bool.true_and, Bool.and_false, Bool.false_and] at e75
         have qI0 := (hI.bel.cell (cell_lt I0.out)).trans I0.out
         refine .inl ⟨wanted_of rfl (k := 18) (d := 70) rfl eg, ?_⟩
         exact wp_of_run (v := .int .i64 at_) (w' := X) (by unfold execOp; go_simp) (hI.next (i := 24) rfl rfl (Below.refl _ _))
      ·have eg := hf.got hw 18 70 (bif s then undef else .bool t3) rfl (by kernel_rfl) (by simp) (hI.rd 18 rfl)
       cases s with
       | true => exact .inr ⟨wanted_not (k := 18) (d := 70) rfl rfl eg (by simp [undef]), hI.skip (i := 25) rfl rfl⟩
       | false =>
        cases t3 with
        | false => exact .inr ⟨wanted_not (k := 18) (d := 70) rfl rfl eg (by simp), hI.skip (i := 25) rfl rfl⟩
        | true =>
         have e74 := hf.got hw 22 74 ((bif (false || !true) then undef else .slice AF fx.length cF)) rfl (by kernel_rfl) (by simp) (hI.rd 22 rfl)
         have e76 := hf.got hw 24 76 ((bif (false || !true) then undef else .int .i64 at_)) rfl (by kernel_rfl) (by simp) (hI.rd 24 rfl)
         simp only [cond_true, cond_false, Bool.or_true, Bool.true_or, Bool.or_false, Bool.false_or, Bool.not_true, Bool.not_false, Bool.and_true, Bool.true_and, Bool.and_false, Bool.false_and] at e74 e76
         obtain ⟨hlt9, ad0, rfl, had, hfx⟩ := HFX.out rfl
         have ht := HLn.out
         have had2 := had.symm
         clear had hfx
         refine .inl ⟨wanted_of rfl (k := 18) (d := 70) rfl eg, ?_⟩
         exact wp_of_run (v := .pointer (some ad9)) (w' := X) (by unfold execOp; go_simp) (hI.next (i := 25) rfl rfl (Below.refl _ _))
      ·have eg := hf.got hw 18 70 (bif s then undef else .bool t3) rfl (by kernel_rfl) (by simp) (hI.rd 18 rfl)
       cases s with
       | true => exact .inr ⟨wanted_not (k := 18) (d := 70) rfl rfl eg (by simp [undef]), hI.skip (i := 26) rfl rfl⟩
       | false =>
        cases t3 with
        | false => exact .inr ⟨wanted_not (k := 18) (d := 70) rfl rfl eg (by simp), hI.skip (i := 26) rfl rfl⟩
        | true =>
         have e77 := hf.got hw 25 77 ((bif (false || !true) then undef else .pointer (some ad9))) rfl (by kernel_rfl) (by simp) (hI.rd 25 rfl)
         simp only [cond_true, cond_false, Bool.or_true, Bool.true_or, Bool.or_false, Bool.false_or, Bool.not_true, Bool.not_false, Bool.and_true, Bool.true_and, Bool.and_false, Bool.false_and] at e77
         obtain ⟨-, ad0, -, -, hfx⟩ := HFX.out rfl
         have qFX := (hI.bel.cell (cell_lt hfx)).trans hfx
         refine .inl ⟨wanted_of rfl (k := 18) (d := 70) rfl eg, ?_⟩
         exact wp_of_run (v := .int .i64 fv) (w' := X) (by unfold execOp; go_simp) (hI.next (i := 26) rfl rfl (Below.refl _ _))
      ·have eg := hf.got hw 18 70 (bif s then undef else .bool t3) rfl (by kernel_rfl) (by simp) (hI.rd 18 rfl)
       cases s with
       | true => exact .inr ⟨wanted_not (k := 18) (d := 70) rfl rfl eg (by simp [undef]), hI.skip (i := 27) rfl rfl⟩
       | false =>
        cases t3 with
        | false => exact .inr ⟨wanted_not (k := 18) (d := 70) rfl rfl eg (by simp), hI.skip (i := 27) rfl rfl⟩
        | true =>
         have e10 := hf.old 10 (by kernel_rfl)
         refine .inl ⟨wanted_of rfl (k := 18) (d := 70) rfl eg, ?_⟩
         exact wp_of_run (v := .int .i64 (y + d)) (w' := X) (by unfold execOp; go_simp) (hI.next (i := 27) rfl rfl (Below.refl _ _))
      ·have eg := hf.got hw 18 70 (bif s then undef else .bool t3) rfl (by kernel_rfl) (by simp) (hI.rd 18 rfl)
       cases s with
       | true => exact .inr ⟨wanted_not (k := 18) (d := 70) rfl rfl eg (by simp [undef]), hI.skip (i := 28) rfl rfl⟩
       | false =>
        cases t3 with
        | false => exact .inr ⟨wanted_not (k := 18) (d := 70) rfl rfl eg (by simp), hI.skip (i := 28) rfl rfl⟩
        | true =>
         have e78 := hf.got hw 26 78 ((bif (false || !true) then undef else .int .i64 fv)) rfl (by kernel_rfl) (by simp) (hI.rd 26 rfl)
         have e79 := hf.got hw 27 79 ((bif (false || !true) then undef else .int .i64 (y + d))) rfl (by kernel_rfl) (by simp) (hI.rd 27 rfl)
         simp only [cond_true, cond_false, Bool.or_true, Bool.true_or, Bool.or_false, Bool.false_or, Bool.not_true, Bool.not_false, Bool.and_true, Bool.true_and, Bool.and_false, Bool.false_and] at e78 e79
         have ht := HT4.out
         refine .inl ⟨wanted_of rfl (k := 18) (d := 70) rfl eg, ?_⟩
         exact wp_of_run (v := .bool t4) (w' := X) (by unfold execOp; go_simp) (hI.next (i := 28) rfl rfl (Below.refl _ _))
      ·have eg := hf.got hw 9 61 (.bool s) rfl (by kernel_rfl) (by simp) (hI.rd 9 rfl)
       cases s with
       | true => exact .inr ⟨wanted_not (k := 9) (d := 61) rfl rfl eg (by simp), hI.skip (i := 29) rfl rfl⟩
       | false =>
        have e70 := hf.got hw 18 70 (bif false then undef else .bool t3) rfl (by kernel_rfl) (by simp) (hI.rd 18 rfl)
        have e80 := hf.got hw 28 80 ((bif (false || !t3) then undef else .bool t4)) rfl (by kernel_rfl) (by simp) (hI.rd 28 rfl)
        cases t3 with
        | false =>
         simp only [cond_true, cond_false, Bool.or_true, Bool.true_or, Bool.or_false, Bool.false_or, Bool.not_true, Bool.not_false, Bool.and_true, Bool.true_and, Bool.and_false, Bool.false_and] at e70 e80
         refine .inl ⟨wanted_of rfl (k := 9) (d := 61) rfl eg, ?_⟩
         exact wp_of_run (v := .bool false) (w' := X) (by unfold execOp; go_simp) (hI.next (i := 29) rfl rfl (Below.refl _ _))
        | true =>
         simp only [cond_true, cond_false, Bool.or_true, Bool.true_or, Bool.or_false, Bool.false_or, Bool.not_true, Bool.not_false, Bool.and_true, Bool.true_and, Bool.and_false, Bool.false_and] at e70 e80
         refine .inl ⟨wanted_of rfl (k := 9) (d := 61) rfl eg, ?_⟩
         exact wp_of_run (v := .bool t4) (w' := X) (by unfold execOp; go_simp) (hI.next (i := 29) rfl rfl (Below.refl _ _))
      ·have e61 := hf.got hw 9 61 (.bool s) rfl (by kernel_rfl) (by simp) (hI.rd 9 rfl)
       have e81 := hf.got hw 29 81 ((bif s then undef else .bool (t3 && t4))) rfl (by kernel_rfl) (by simp) (hI.rd 29 rfl)
       have hs := HSK.out
       cases s with
       | true =>
        simp only [Bool.true_or] at hs
        subst hs
        refine .inl ⟨wanted_plain rfl, ?_⟩
        exact wp_of_run (v := .bool true) (w' := X) (by unfold execOp; go_simp) (hI.next (i := 30) rfl rfl (Below.refl _ _))
       | false =>
        simp only [Bool.false_or] at hs
        subst hs
        simp only [cond_true, cond_false, Bool.or_true, Bool.true_or, Bool.or_false, Bool.false_or, Bool.not_true, Bool.not_false, Bool.and_true, Bool.true_and, Bool.and_false, Bool.false_and] at e81
        refine .inl ⟨wanted_plain rfl, ?_⟩
        exact wp_of_run (v := .bool (t3 && t4)) (w' := X) (by unfold execOp; go_simp) (hI.next (i := 30) rfl rfl (Below.refl _ _))
     ·intro vs X hI
      have hbX := hI.bel
      have h30 := hI.rd 30 rfl rfl
      have hc4 := HC3.out.trans (.of_below hbX)
      have hs4 := HS3.out.of_below hbX
      have h30 : vs 30 = .bool sk := h30
      clear hI hbX
      simp [fill, slotOf, Act.put, h30]
      generalize vs 0 = u0
      generalize vs 1 = u1
      generalize vs 2 = u2
      generalize vs 3 = u3
      generalize vs 4 = u4
      generalize vs 5 = u5
      generalize vs 6 = u6
      generalize vs 7 = u7
      generalize vs 8 = u8
      generalize vs 9 = u9
      generalize vs 10 = u10
      generalize vs 11 = u11
      generalize vs 12 = u12
      generalize vs 13 = u13
      generalize vs 14 = u14
      generalize vs 15 = u15
      generalize vs 16 = u16
      generalize vs 17 = u17
      generalize vs 18 = u18
      generalize vs 19 = u19
      generalize vs 20 = u20
      generalize vs 21 = u21
      generalize vs 22 = u22
      generalize vs 23 = u23
      generalize vs 24 = u24
      generalize vs 25 = u25
      generalize vs 26 = u26
      generalize vs 27 = u27
      generalize vs 28 = u28
      generalize vs 29 = u29
      have HS4 := Lib.hid hs4
      have HC4 := Lib.hid hc4
      clear h30 HSK HS9 HT1 HT3 HT3b HT4 HFX I0 I1 H3 hs4
      have hK4 := HKX.out X hc4
      have hib4 := HIB.out X hc4
      cases sk with
      | true =>
       have HCS := Lib.hid (HMS.out.trans (if_pos (HSS.out.1 rfl)))
       clear hK4 hib4 hc4
       go_wp2
       go_roundw
       case rel => exact ⟨j + 1, by omega, by go_num, by rw [HCS.out], HS4.out, HC4.out⟩
       case measure => simp [intOf]; omega
      | false =>
       have hnk : ¬ skipS r fx tn at_ x y := fun h => (by have := HSS.out.2 h; cases this)
       have HCS := Lib.hid (HMS.out.trans (if_neg hnk))
       have y0 : 0 ≤ y + d := by unfold skipS at hnk; rw [← HD.out] at hnk; omega
       have y1 : y + d ≤ 9000 := by unfold skipS at hnk; rw [← HD.out] at hnk; omega
       have hLk4 := hK4.lk.lk (by have := HS4.out.lt; omega)
       have Hh := Lib.hid (fun n => hLk4.height ha n)
       have hh := HG.out.hgt at_ ha
       have q0 := cellOf hK4.row 0 (v := .pointer (some ⟨b, 0, none⟩)) rfl
       have i0 := cellOf hib4 0 (v := .int .i64 at_) rfl
       have HN0 := Lib.hid (show costN r lv fx tn at_ y 0 = max (y + d - rvH r at_) (rvH r at_ - (y + d)) by unfold costN; rw [← HD.out]; rfl)
       have HNB := Lib.hid (fun q => costN_bound HG.out lv fx tn ha (y := y) (by rw [← HD.out]; exact y0) (by rw [← HD.out]; exact y1) q)
       have HNS := Lib.hid (fun q => costN_succ r lv fx tn at_ y q)
       have p4 := hLk4.riv.pts
       have HPT := Lib.hid hK4.lk
       clear hnk hK4 hib4 hLk4 hc4 HMS HSS
       generalize rvH r at_ = own at *
       go_upto_region 10 with (fail)
       go_quiet ((go_at_call 48; exact Calls.quiet_of_same (Hh.out _)))
       have mw : max (y + d - own) (own - (y + d)) ≤ 9000 := by omega
       obtain ⟨w5, hw5⟩ : ∃ Y, Y = X.drewN nq := ⟨_, rfl⟩
       have hc5 : CF mb W1 w5 := by rw [hw5]; exact HC4.out.trans (.of_below (below_drewN (Below.refl _ _) nq))
       have hs5 : SMap (costC r lv fx tn) w5 mb := by rw [hw5]; exact HS4.out.of_below (below_drewN (Below.refl _ _) nq)
       rw [← hw5]
       clear hw5 q0 i0 p4 Hh
       have hK5 := HKX.out w5 hc5
       have q0 := cellOf hK5.row 0 (v := .pointer (some ⟨b, 0, none⟩)) rfl
       have p4 := (hK5.lk.lk (by have := hs5.lt; omega)).riv.pts
       have HC5 := Lib.hid hc5
       have HS5 := Lib.hid hs5
       clear hK5 hc5 hs5 HC4 HS4 HPT
       go_wp2
       clear q0 p4
       go_loopw [12, 105] (fun nv kv w6 => ∃ q : Nat, q ≤ r.length ∧ kv = .int .i64 q ∧ nv = .int .i64 (costN r lv fx tn at_ y q) ∧ SMap (costC r lv fx tn) w6 mb ∧ CF mb W1 w6) (fun _ kv _ => r.length - (intOf kv).toNat)
       case atStart => exact ⟨0, Nat.zero_le _, rfl, by rw [HN0.out], HS5.out, HC5.out⟩
       case round =>
        obtain ⟨q, hq, rfl, rfl, hs6, hc6⟩ := hrel
        by_cases hlq : q < r.length
        ·have hK6 := HKX.out _ hc6
         have hib6 := HIB.out _ hc6
         have hnb := HNB.out q
         have HNq := Lib.hid (HNS.out q)
         have hcb := costC_bound r lv fx tn q y
         have HIq := Lib.hid (HIh.out q hlq)
         obtain ⟨ad, rfl, _, n0, n1, n2, n3⟩ := hK6.lk.pts.rv hlq
         have HRD := Lib.hid (show rvD r q = (r.getD q default).down from rfl)
         generalize r.getD q default = px at *
         obtain ⟨nm, dn, ls, hg4⟩ := px
         simp only at n0 n1 n2 n3 HRD
         obtain ⟨W7, hW7, r7, z7, d7⟩ := box_any _ #[.string nm, .int .i64 dn, .int .i64 ls, .int .i64 hg4] 51
         have HC7 := Lib.hid (hc6.trans (.of_below d7))
         have HS7 := Lib.hid (hs6.of_below d7)
         have m1 := cellOf r7 1 (v := .int .i64 dn) rfl
         have i0 := cellOf (rowX hib6 d7) 0 (v := .int .i64 at_) rfl
         clear hK6 hib6 hs6 hc6 r7 z7 d7
         have HIq2 := Lib.hid (fun hd => HIq.out hd y W7 HC7.out HS7.out)
         clear HIq
         generalize costN r lv fx tn at_ y q = nn at *
         generalize costC r lv fx tn q y = cc at *
         go_upto_region 15 with (fail)
         rw [← hW7]
         clear hW7 n0 n1 n2 n3
         by_cases hdn : dn = at_
         ·have HNq2 := Lib.hid (HNq.out.trans (if_pos (HRD.out.trans hdn)))
          have teq : (dn == (at_ : Int)) = true := by simp [hdn]
          have HCa := Lib.hid (HIq2.out (HRD.out.trans hdn))
          clear hdn
          go_wp2_with (go_at_call 83; refine HCa.out.mono ?_; rintro e w8 ⟨rfl, hs8, hc8⟩)
          go_roundw
          case rel => exact ⟨q + 1, by omega, by go_num, by rw [HNq2.out], hs8, HC7.out.trans hc8⟩
          case measure => simp [intOf]; omega
         ·have HNq2 := Lib.hid (HNq.out.trans (if_neg (fun h => hdn (HRD.out.symm.trans h))))
          have teq : (dn == (at_ : Int)) = false := by simp [hdn]
          clear hdn
          go_wp2
          go_roundw
          case rel => exact ⟨q + 1, by omega, by go_num, by rw [HNq2.out], HS7.out, HC7.out⟩
          case measure => simp [intOf]; omega
        ·have hqn : q = r.length := by omega
         have HS6 := Lib.hid hs6
         have HC6 := Lib.hid hc6
         have HQ := Lib.hid (show costN r lv fx tn at_ y r.length = costN r lv fx tn at_ y q by rw [hqn])
         clear hqn hs6 hc6
         generalize costN r lv fx tn at_ y q = nn at *
         go_wp2
         go_roundw
         case rel => exact ⟨j + 1, by omega, by go_num, by rw [HCS.out, HQ.out], HS6.out, HC6.out⟩
         case measure => simp [intOf]; omega
    ·have hjn : j = lv.length := by omega
     have hKr := HKX.out wr hc
     have hib := HIB.out wr hc
     obtain ⟨es, clk, hup, hes⟩ := supdate_run hs at_ x
     have q2 := cellOf hKr.row 2 (v := .map (some mb)) rfl
     have i0 := cellOf hib 0 (v := .int .i64 at_) rfl
     have i1 := cellOf hib 1 (v := .int .i64 x) rfl
     rw [HCE.out, ← hjn] at hup
     have HCE2 := Lib.hid (show costC r lv fx tn at_ x = costM r lv fx tn at_ x j by rw [HCE.out, hjn])
     have HC := Lib.hid hc
     have HSz := Lib.hid hs.lt
     have HES := Lib.hid hes
     clear hKr hib hs hc hes hjn HCE
     generalize costM r lv fx tn at_ x j = m at *
     have hul : ∀ n, (Instr.mapUpdate 130 (.map (some mb)) (.agg #[.int .i64 at_, .int .i64 x]) (.int .i64 m)).run Tryz.prog (wr.drewN n) = .ok () ((wr.drewN n).putObj mb (.map es clk)) := fun n => hup _ rfl
     clear hup
     go_upto_region 20 with (fail)
     refine region_quiet_tail (C := fun w' => ∃ k, w' = wr.drewN k) 6 (by kernel_rfl) (by kernel_rfl) ⟨1, rfl⟩ ?_
     simp only [List.take_succ_cons, List.take_zero, List.drop_succ_cons, List.drop_zero]
     repeat (first | go_big_quiet_step (fail) | quiet_step (fail))
     refine wpQuiet_nil ?_
     rintro _ ⟨k1, rfl⟩
     have hu := hul k1
     clear hul q2 i0 i1
     go_upto_region 21 with (fail)
     obtain ⟨W9, hW9⟩ : ∃ Y, Y = (wr.drewN k1).putObj mb (.map es clk) := ⟨_, rfl⟩
     have HW9 := Lib.hid hW9
     rw [← hW9]
     clear hW9 hu
     go_wp2
     go_ret
     refine ⟨ret_int HCE2.out.symm, ⟨es, clk, by rw [HW9.out]; exact World.putObj_heap_same (show mb < wr.heap.size from HSz.out), HES.out⟩, HC1.out.trans (HC.out.trans ⟨by rw [HW9.out]; rfl, by rw [HW9.out]; rfl, by rw [HW9.out]; rfl, by rw [HW9.out]; simp, fun k _ hk => by rw [HW9.out]; exact World.putObj_heap_other hk⟩)⟩
end Go.Proofs.YthnimhnlnddnoaaGreatDoor
