/- Walks of the layer sheet: the search of lists of notes, whole. Walks of the layer sheet: Heights. -/
import Derived.Test.YtajdgdelhlfniaaGreatDoorH13
import Derived.WalkKit
import Derived.Deep.Quiet
import Derived.Test.YtajdgdelhlfniaaGreatDoorH11
import Derived.Test.YtajdgdelhlfniaaGreatDoorH12
set_option linter.unusedSimpArgs false
set_option linter.unusedVariables false
namespace Go.Proofs.YtajdgdelhlfniaaGreatDoor
open Go.RowKit

set_option maxRecDepth 100000 in
set_option maxHeartbeats 8000000 in
theorem try_any {B a : Nat} {s : ShR} {vp : Value} {An : Option Addr} {cn : Nat} {left : Bool} (hg : Good s) (hBa : B ≤ a) : ∀ (rem i : Nat) (w : World) (b : Mat) (bad : Bool) (cur : List Int) (st : Bool × List Int),
    i + rem = s.notes.length → RdSh B w (.agg #[.int .i64 s.iv, vp, .slice An s.notes.length cn]) s → TryI a s.iv vp (.slice An s.notes.length cn) left cur st w → Fine b → cur.length ≤ i →
    Calls Tryz.prog 97 #[.int .i64 i, .agg (matC b), .bool bad, .pointer (some ⟨a + 3, 0, none⟩), .pointer (some ⟨a + 4, 0, none⟩), .pointer (some ⟨a + 2, 0, none⟩), .pointer (some ⟨a + 1, 0, none⟩), .pointer (some ⟨a, 0, none⟩), .pointer (some ⟨a + 5, 0, none⟩)] w
      (TryRes a s.iv vp (.slice An s.notes.length cn) left cur (tryS s.iv s.notes left rem b bad cur st) w) := by
  intro rem
  induction rem with
  | zero =>
    intro i w b bad cur st hi hrd hI hb hlen
    have hnl := hg.nlen
    have hin : i = s.notes.length := by omega
    subst hin
    unfold tryS
    cases hc : (st.1 && decide (st.2.length ≤ cur.length)) || (left && bad) with
    | true => rw [if_pos rfl]; exact try_stop _ b hI hc
    | false =>
      rw [if_neg (by simp)]
      cases hbl : bad || left with
      | true =>
        rw [if_pos rfl]
        refine try_best _ b hI hc ?_ (by omega)
        cases bad with
        | true => exact .inl rfl
        | false => exact .inr ⟨by simpa using hbl, rfl⟩
      | false =>
        rw [if_neg (by simp)]
        have hb0 : bad = false := by cases bad <;> simp_all
        have hl0 : left = false := by cases left <;> simp_all
        subst hb0 hl0
        exact try_end b hI (by simpa using hc)
  | succ r ih =>
    intro i w b bad cur st hi hrd hI hb hlen
    have hnl := hg.nlen
    have hlt : i < s.notes.length := by omega
    have hri : s.notes.length - (r + 1) = i := by omega
    rw [tryS, hri]
    cases hc : (st.1 && decide (st.2.length ≤ cur.length)) || (left && bad) with
    | true => rw [if_pos rfl]; exact try_stop _ b hI hc
    | false =>
      rw [if_neg (by simp)]
      cases bad with
      | true => rw [if_pos rfl]; exact try_best _ b hI hc (.inl rfl) (by omega)
      | false =>
        rw [if_neg (by simp)]
        obtain ⟨W1, hW1, r1, z1, d1⟩ := box_any w (matC b) 93
        have hI1 := hI.below d1
        have hT1 := TF.of_below d1 hI.size
        have hrd1 := hrd.keep (w' := W1) (fun p hp => hT1.below.cell (by omega))
        have hasz := hI.size
        have hcall := with_any (w := W1) (b := b) (i := i) hrd1 hg hlt hb ⟨Int.le_refl 0, by omega⟩ (by omega)
        have hwf := withM_fine (iv := s.iv) (wd := 0) (hg.notes _ (getD_mem hlt default)) hg.plen.2 hb
        generalize hwm : withM s.iv 0 b (s.notes.getD i default) = wm at *
        obtain ⟨wb, is⟩ := wm
        simp only at *
        have hm1 : MatAt W1 w.heap.size 93 b := r1
        have HM1 := Lib.hid hm1
        have HI1 := Lib.hid hI1
        have HT1 := Lib.hid hT1
        have HCl := Lib.hid hcall
        have HRd := Lib.hid hrd
        have HIh := Lib.hid ih
        have HWf := Lib.hid hwf
        have HB := Lib.hid hb
        have HZ := Lib.hid hasz
        obtain ⟨A4, A2, c4, c2, hC, _⟩ := hI1.reads
        obtain ⟨s0, s1, s2, f1, f2, f3, f4, f5, _, _, _⟩ := hC
        have hcmp : st.1 = true → ¬ st.2.length ≤ cur.length := fun e => by rw [e] at hc; simpa using (Bool.or_eq_false_iff.1 hc).1
        obtain ⟨found, best⟩ := st
        simp only at *
        clear hwm hc hm1 hI1 hT1 hcall hrd1 hrd ih hwf hb r1 d1 hI hasz hri
        cases left with
        | false =>
          cases found with
          | true =>
            have hcmp := hcmp rfl
            go_enter Tryz.func97, Tryz.ntmps97
            go_upto_region 1 with (fail)
            rw [← hW1]
            clear hW1
            go_upto_region 5 with (fail)
            clear f1 f2 f3 f4 f5
            go_upto_region 6 with (first | (refine wpList_load_mat rfl _ rfl rfl HM1.out ?_) | (go_at_call 77; refine HCl.out.mono ?_; rintro e w2 ⟨rfl, hb2⟩) | (refine wpList_alloc_mat rfl rfl ?_; intro w3 hw3 hm3 hb3 hz3) | (refine wpList_store_mat rfl _ _ rfl rfl rfl hm3 ?_; intro w4 hm4 hg4))
            have hg4 : w3.grownBy w4 (some w2.heap.size) := hg4
            have hm4 : MatAt w4 w2.heap.size 93 wb := hm4
            have y1 := HI1.out.size
            have y2 := hb2.size
            have y3 := hb3.size
            have y4 := lt_of_block HM1.out
            have hb4 : Below W1.heap.size W1 w4 := hb2.trans ((hb3.mono y2).trans (grown_below hg4 y2 (by omega)))
            have hI4 := HI1.out.below hb4
            have hT4 := HT1.out.trans (TF.of_below hb4 y1)
            have hm4a := HM1.out.below hb4
            clear s0 s1 s2 hw3 hm3 hb3 hz3 hg4
            obtain ⟨A4, c4, A5, c5, w5, hcell, hrun, ⟨o5, hc5⟩, hz5, hI6, hT6⟩ := try_push hI4 (i : Int) (by omega)
            obtain ⟨w6, hw6⟩ : ∃ w6, w5.setCell ⟨a + 4, 0, none⟩ (.slice A5 (cur.length + 1) c5) = w6 := ⟨_, rfl⟩
            rw [hw6] at hI6 hT6
            have hT06 := hT4.trans hT6
            have hZ := HZ.out
            have hm6 := hT6.mat (by omega) hm4a
            have hm6b := hT6.mat (by omega) hm4
            have HM6 := Lib.hid hm6
            have HM6b := Lib.hid hm6b
            have HI6 := Lib.hid hI6
            have HT06 := Lib.hid hT06
            have HY4 := Lib.hid (show a + 6 ≤ w2.heap.size by omega)
            clear y1 y2 y3 y4 hb2 hb4 hI4 hT4 hm4a hm4 hI6 hT6 hT06 hm6 hm6b hZ
            go_upto_region 7 with (at_builtin; refine wpList_append_run rfl _ _ _ rfl rfl rfl hrun ?_)
            clear hcell hrun hc5 hz5 hw6
            obtain ⟨_, _, _, _, hC6, _⟩ := HI6.out.reads
            have f1 := hC6.f1
            have f5 := hC6.f5
            clear hC6
            have hcall := HIh.out (i + 1) w6 wb (!is) (cur ++ [(i : Int)]) (true, best) (by omega) (HRd.out.keep (fun p hp => HT06.out.below.cell (by omega))) HI6.out HWf.out (by simp; omega)
            rw [show ((i + 1 : Nat) : Int) = (i : Int) + 1 from rfl] at hcall
            have HC1 := Lib.hid hcall
            clear hcall
            unfold tryP at f5
            go_upto_region 10 with (first | (refine wpList_load_mat rfl _ rfl rfl HM6b.out ?_) | (go_at_call 97; refine HC1.out.mono ?_; rintro e w7 ⟨rfl, hI7, hT7⟩))
            clear f1 f5
            generalize hst1 : tryS s.iv s.notes false r wb (!is) (cur ++ [(i : Int)]) (true, best) = st1 at *
            clear hst1
            obtain ⟨A7, c7, hcell7, hc7, hz7, hI8, hT8⟩ := try_pop hI7
            obtain ⟨w8, hw8⟩ : ∃ w8, w7.setCell ⟨a + 4, 0, none⟩ (.slice A7 cur.length c7) = w8 := ⟨_, rfl⟩
            rw [hw8] at hI8 hT8
            have hT68 := hT7.trans hT8
            have HT08 := Lib.hid (HT06.out.trans hT68)
            have hm8 := hT68.mat (by have := HZ.out; omega) HM6.out
            have hm8b := hT68.mat HY4.out HM6b.out
            have HM8 := Lib.hid hm8
            have HM8b := Lib.hid hm8b
            have HI8 := Lib.hid hI8
            clear hI7 hT7 hI8 hT8 hT68 hm8 hm8b
            go_upto_region 11 with (fail)
            clear hcell7 hc7 hz7 hw8
            obtain ⟨_, _, _, _, hC8, _⟩ := HI8.out.reads
            have f1 := hC8.f1
            have f5 := hC8.f5
            clear hC8
            have hcall := HIh.out (i + 1) w8 b false cur st1 (by omega) (HRd.out.keep (fun p hp => HT08.out.below.cell (by omega))) HI8.out HB.out (by omega)
            rw [show ((i + 1 : Nat) : Int) = (i : Int) + 1 from rfl] at hcall
            have HC2 := Lib.hid hcall
            clear hcall
            unfold tryP at f5
            go_wp2_with (first | (refine wpList_load_mat rfl _ rfl rfl HM8.out ?_) | (go_at_call 97; refine HC2.out.mono ?_; rintro e w9 ⟨rfl, hI9, hT9⟩))
            go_end0
            exact ⟨rfl, hI9, HT08.out.trans hT9⟩
          | false =>
            clear hcmp
            go_enter Tryz.func97, Tryz.ntmps97
            go_upto_region 1 with (fail)
            rw [← hW1]
            clear hW1
            go_upto_region 5 with (fail)
            clear f1 f2 f3 f4 f5
            go_upto_region 6 with (first | (refine wpList_load_mat rfl _ rfl rfl HM1.out ?_) | (go_at_call 77; refine HCl.out.mono ?_; rintro e w2 ⟨rfl, hb2⟩) | (refine wpList_alloc_mat rfl rfl ?_; intro w3 hw3 hm3 hb3 hz3) | (refine wpList_store_mat rfl _ _ rfl rfl rfl hm3 ?_; intro w4 hm4 hg4))
            have hg4 : w3.grownBy w4 (some w2.heap.size) := hg4
            have hm4 : MatAt w4 w2.heap.size 93 wb := hm4
            have y1 := HI1.out.size
            have y2 := hb2.size
            have y3 := hb3.size
            have y4 := lt_of_block HM1.out
            have hb4 : Below W1.heap.size W1 w4 := hb2.trans ((hb3.mono y2).trans (grown_below hg4 y2 (by omega)))
            have hI4 := HI1.out.below hb4
            have hT4 := HT1.out.trans (TF.of_below hb4 y1)
            have hm4a := HM1.out.below hb4
            clear s0 s1 s2 hw3 hm3 hb3 hz3 hg4
            obtain ⟨A4, c4, A5, c5, w5, hcell, hrun, ⟨o5, hc5⟩, hz5, hI6, hT6⟩ := try_push hI4 (i : Int) (by omega)
            obtain ⟨w6, hw6⟩ : ∃ w6, w5.setCell ⟨a + 4, 0, none⟩ (.slice A5 (cur.length + 1) c5) = w6 := ⟨_, rfl⟩
            rw [hw6] at hI6 hT6
            have hT06 := hT4.trans hT6
            have hZ := HZ.out
            have hm6 := hT6.mat (by omega) hm4a
            have hm6b := hT6.mat (by omega) hm4
            have HM6 := Lib.hid hm6
            have HM6b := Lib.hid hm6b
            have HI6 := Lib.hid hI6
            have HT06 := Lib.hid hT06
            have HY4 := Lib.hid (show a + 6 ≤ w2.heap.size by omega)
            clear y1 y2 y3 y4 hb2 hb4 hI4 hT4 hm4a hm4 hI6 hT6 hT06 hm6 hm6b hZ
            go_upto_region 7 with (at_builtin; refine wpList_append_run rfl _ _ _ rfl rfl rfl hrun ?_)
            clear hcell hrun hc5 hz5 hw6
            obtain ⟨_, _, _, _, hC6, _⟩ := HI6.out.reads
            have f1 := hC6.f1
            have f5 := hC6.f5
            clear hC6
            have hcall := HIh.out (i + 1) w6 wb (!is) (cur ++ [(i : Int)]) (false, best) (by omega) (HRd.out.keep (fun p hp => HT06.out.below.cell (by omega))) HI6.out HWf.out (by simp; omega)
            rw [show ((i + 1 : Nat) : Int) = (i : Int) + 1 from rfl] at hcall
            have HC1 := Lib.hid hcall
            clear hcall
            unfold tryP at f5
            go_upto_region 10 with (first | (refine wpList_load_mat rfl _ rfl rfl HM6b.out ?_) | (go_at_call 97; refine HC1.out.mono ?_; rintro e w7 ⟨rfl, hI7, hT7⟩))
            clear f1 f5
            generalize hst1 : tryS s.iv s.notes false r wb (!is) (cur ++ [(i : Int)]) (false, best) = st1 at *
            clear hst1
            obtain ⟨A7, c7, hcell7, hc7, hz7, hI8, hT8⟩ := try_pop hI7
            obtain ⟨w8, hw8⟩ : ∃ w8, w7.setCell ⟨a + 4, 0, none⟩ (.slice A7 cur.length c7) = w8 := ⟨_, rfl⟩
            rw [hw8] at hI8 hT8
            have hT68 := hT7.trans hT8
            have HT08 := Lib.hid (HT06.out.trans hT68)
            have hm8 := hT68.mat (by have := HZ.out; omega) HM6.out
            have hm8b := hT68.mat HY4.out HM6b.out
            have HM8 := Lib.hid hm8
            have HM8b := Lib.hid hm8b
            have HI8 := Lib.hid hI8
            clear hI7 hT7 hI8 hT8 hT68 hm8 hm8b
            go_upto_region 11 with (fail)
            clear hcell7 hc7 hz7 hw8
            obtain ⟨_, _, _, _, hC8, _⟩ := HI8.out.reads
            have f1 := hC8.f1
            have f5 := hC8.f5
            clear hC8
            have hcall := HIh.out (i + 1) w8 b false cur st1 (by omega) (HRd.out.keep (fun p hp => HT08.out.below.cell (by omega))) HI8.out HB.out (by omega)
            rw [show ((i + 1 : Nat) : Int) = (i : Int) + 1 from rfl] at hcall
            have HC2 := Lib.hid hcall
            clear hcall
            unfold tryP at f5
            go_wp2_with (first | (refine wpList_load_mat rfl _ rfl rfl HM8.out ?_) | (go_at_call 97; refine HC2.out.mono ?_; rintro e w9 ⟨rfl, hI9, hT9⟩))
            go_end0
            exact ⟨rfl, hI9, HT08.out.trans hT9⟩
        | true =>
          cases found with
          | true =>
            have hcmp := hcmp rfl
            go_enter Tryz.func97, Tryz.ntmps97
            go_upto_region 1 with (fail)
            rw [← hW1]
            clear hW1
            go_upto_region 5 with (fail)
            clear f1 f2 f3 f4 f5
            go_upto_region 6 with (first | (refine wpList_load_mat rfl _ rfl rfl HM1.out ?_) | (go_at_call 77; refine HCl.out.mono ?_; rintro e w2 ⟨rfl, hb2⟩) | (refine wpList_alloc_mat rfl rfl ?_; intro w3 hw3 hm3 hb3 hz3) | (refine wpList_store_mat rfl _ _ rfl rfl rfl hm3 ?_; intro w4 hm4 hg4))
            have hg4 : w3.grownBy w4 (some w2.heap.size) := hg4
            have hm4 : MatAt w4 w2.heap.size 93 wb := hm4
            have y1 := HI1.out.size
            have y2 := hb2.size
            have y3 := hb3.size
            have y4 := lt_of_block HM1.out
            have hb4 : Below W1.heap.size W1 w4 := hb2.trans ((hb3.mono y2).trans (grown_below hg4 y2 (by omega)))
            have hI4 := HI1.out.below hb4
            have hT4 := HT1.out.trans (TF.of_below hb4 y1)
            have hm4a := HM1.out.below hb4
            clear s0 s1 s2 hw3 hm3 hb3 hz3 hg4
            obtain ⟨A4, c4, A5, c5, w5, hcell, hrun, ⟨o5, hc5⟩, hz5, hI6, hT6⟩ := try_push hI4 (i : Int) (by omega)
            obtain ⟨w6, hw6⟩ : ∃ w6, w5.setCell ⟨a + 4, 0, none⟩ (.slice A5 (cur.length + 1) c5) = w6 := ⟨_, rfl⟩
            rw [hw6] at hI6 hT6
            have hT06 := hT4.trans hT6
            have hZ := HZ.out
            have hm6 := hT6.mat (by omega) hm4a
            have hm6b := hT6.mat (by omega) hm4
            have HM6 := Lib.hid hm6
            have HM6b := Lib.hid hm6b
            have HI6 := Lib.hid hI6
            have HT06 := Lib.hid hT06
            have HY4 := Lib.hid (show a + 6 ≤ w2.heap.size by omega)
            clear y1 y2 y3 y4 hb2 hb4 hI4 hT4 hm4a hm4 hI6 hT6 hT06 hm6 hm6b hZ
            go_upto_region 7 with (at_builtin; refine wpList_append_run rfl _ _ _ rfl rfl rfl hrun ?_)
            clear hcell hrun hc5 hz5 hw6
            obtain ⟨_, _, _, _, hC6, _⟩ := HI6.out.reads
            have f1 := hC6.f1
            have f5 := hC6.f5
            clear hC6
            have hcall := HIh.out (i + 1) w6 b false (cur ++ [(i : Int)]) (true, best) (by omega) (HRd.out.keep (fun p hp => HT06.out.below.cell (by omega))) HI6.out HB.out (by simp; omega)
            rw [show ((i + 1 : Nat) : Int) = (i : Int) + 1 from rfl] at hcall
            have HC1 := Lib.hid hcall
            clear hcall
            unfold tryP at f5
            go_upto_region 10 with (first | (refine wpList_load_mat rfl _ rfl rfl HM6.out ?_) | (go_at_call 97; refine HC1.out.mono ?_; rintro e w7 ⟨rfl, hI7, hT7⟩))
            clear f1 f5
            generalize hst1 : tryS s.iv s.notes true r b false (cur ++ [(i : Int)]) (true, best) = st1 at *
            clear hst1
            obtain ⟨A7, c7, hcell7, hc7, hz7, hI8, hT8⟩ := try_pop hI7
            obtain ⟨w8, hw8⟩ : ∃ w8, w7.setCell ⟨a + 4, 0, none⟩ (.slice A7 cur.length c7) = w8 := ⟨_, rfl⟩
            rw [hw8] at hI8 hT8
            have hT68 := hT7.trans hT8
            have HT08 := Lib.hid (HT06.out.trans hT68)
            have hm8 := hT68.mat (by have := HZ.out; omega) HM6.out
            have hm8b := hT68.mat HY4.out HM6b.out
            have HM8 := Lib.hid hm8
            have HM8b := Lib.hid hm8b
            have HI8 := Lib.hid hI8
            clear hI7 hT7 hI8 hT8 hT68 hm8 hm8b
            go_upto_region 11 with (fail)
            clear hcell7 hc7 hz7 hw8
            obtain ⟨_, _, _, _, hC8, _⟩ := HI8.out.reads
            have f1 := hC8.f1
            have f5 := hC8.f5
            clear hC8
            have hcall := HIh.out (i + 1) w8 wb (!is) cur st1 (by omega) (HRd.out.keep (fun p hp => HT08.out.below.cell (by omega))) HI8.out HWf.out (by omega)
            rw [show ((i + 1 : Nat) : Int) = (i : Int) + 1 from rfl] at hcall
            have HC2 := Lib.hid hcall
            clear hcall
            unfold tryP at f5
            go_wp2_with (first | (refine wpList_load_mat rfl _ rfl rfl HM8b.out ?_) | (go_at_call 97; refine HC2.out.mono ?_; rintro e w9 ⟨rfl, hI9, hT9⟩))
            go_end0
            exact ⟨rfl, hI9, HT08.out.trans hT9⟩
          | false =>
            clear hcmp
            go_enter Tryz.func97, Tryz.ntmps97
            go_upto_region 1 with (fail)
            rw [← hW1]
            clear hW1
            go_upto_region 5 with (fail)
            clear f1 f2 f3 f4 f5
            go_upto_region 6 with (first | (refine wpList_load_mat rfl _ rfl rfl HM1.out ?_) | (go_at_call 77; refine HCl.out.mono ?_; rintro e w2 ⟨rfl, hb2⟩) | (refine wpList_alloc_mat rfl rfl ?_; intro w3 hw3 hm3 hb3 hz3) | (refine wpList_store_mat rfl _ _ rfl rfl rfl hm3 ?_; intro w4 hm4 hg4))
            have hg4 : w3.grownBy w4 (some w2.heap.size) := hg4
            have hm4 : MatAt w4 w2.heap.size 93 wb := hm4
            have y1 := HI1.out.size
            have y2 := hb2.size
            have y3 := hb3.size
            have y4 := lt_of_block HM1.out
            have hb4 : Below W1.heap.size W1 w4 := hb2.trans ((hb3.mono y2).trans (grown_below hg4 y2 (by omega)))
            have hI4 := HI1.out.below hb4
            have hT4 := HT1.out.trans (TF.of_below hb4 y1)
            have hm4a := HM1.out.below hb4
            clear s0 s1 s2 hw3 hm3 hb3 hz3 hg4
            obtain ⟨A4, c4, A5, c5, w5, hcell, hrun, ⟨o5, hc5⟩, hz5, hI6, hT6⟩ := try_push hI4 (i : Int) (by omega)
            obtain ⟨w6, hw6⟩ : ∃ w6, w5.setCell ⟨a + 4, 0, none⟩ (.slice A5 (cur.length + 1) c5) = w6 := ⟨_, rfl⟩
            rw [hw6] at hI6 hT6
            have hT06 := hT4.trans hT6
            have hZ := HZ.out
            have hm6 := hT6.mat (by omega) hm4a
            have hm6b := hT6.mat (by omega) hm4
            have HM6 := Lib.hid hm6
            have HM6b := Lib.hid hm6b
            have HI6 := Lib.hid hI6
            have HT06 := Lib.hid hT06
            have HY4 := Lib.hid (show a + 6 ≤ w2.heap.size by omega)
            clear y1 y2 y3 y4 hb2 hb4 hI4 hT4 hm4a hm4 hI6 hT6 hT06 hm6 hm6b hZ
            go_upto_region 7 with (at_builtin; refine wpList_append_run rfl _ _ _ rfl rfl rfl hrun ?_)
            clear hcell hrun hc5 hz5 hw6
            obtain ⟨_, _, _, _, hC6, _⟩ := HI6.out.reads
            have f1 := hC6.f1
            have f5 := hC6.f5
            clear hC6
            have hcall := HIh.out (i + 1) w6 b false (cur ++ [(i : Int)]) (false, best) (by omega) (HRd.out.keep (fun p hp => HT06.out.below.cell (by omega))) HI6.out HB.out (by simp; omega)
            rw [show ((i + 1 : Nat) : Int) = (i : Int) + 1 from rfl] at hcall
            have HC1 := Lib.hid hcall
            clear hcall
            unfold tryP at f5
            go_upto_region 10 with (first | (refine wpList_load_mat rfl _ rfl rfl HM6.out ?_) | (go_at_call 97; refine HC1.out.mono ?_; rintro e w7 ⟨rfl, hI7, hT7⟩))
            clear f1 f5
            generalize hst1 : tryS s.iv s.notes true r b false (cur ++ [(i : Int)]) (false, best) = st1 at *
            clear hst1
            obtain ⟨A7, c7, hcell7, hc7, hz7, hI8, hT8⟩ := try_pop hI7
            obtain ⟨w8, hw8⟩ : ∃ w8, w7.setCell ⟨a + 4, 0, none⟩ (.slice A7 cur.length c7) = w8 := ⟨_, rfl⟩
            rw [hw8] at hI8 hT8
            have hT68 := hT7.trans hT8
            have HT08 := Lib.hid (HT06.out.trans hT68)
            have hm8 := hT68.mat (by have := HZ.out; omega) HM6.out
            have hm8b := hT68.mat HY4.out HM6b.out
            have HM8 := Lib.hid hm8
            have HM8b := Lib.hid hm8b
            have HI8 := Lib.hid hI8
            clear hI7 hT7 hI8 hT8 hT68 hm8 hm8b
            go_upto_region 11 with (fail)
            clear hcell7 hc7 hz7 hw8
            obtain ⟨_, _, _, _, hC8, _⟩ := HI8.out.reads
            have f1 := hC8.f1
            have f5 := hC8.f5
            clear hC8
            have hcall := HIh.out (i + 1) w8 wb (!is) cur st1 (by omega) (HRd.out.keep (fun p hp => HT08.out.below.cell (by omega))) HI8.out HWf.out (by omega)
            rw [show ((i + 1 : Nat) : Int) = (i : Int) + 1 from rfl] at hcall
            have HC2 := Lib.hid hcall
            clear hcall
            unfold tryP at f5
            go_wp2_with (first | (refine wpList_load_mat rfl _ rfl rfl HM8b.out ?_) | (go_at_call 97; refine HC2.out.mono ?_; rintro e w9 ⟨rfl, hI9, hT9⟩))
            go_end0
            exact ⟨rfl, hI9, HT08.out.trans hT9⟩
end Go.Proofs.YtajdgdelhlfniaaGreatDoor
namespace Go.Proofs.YtajdgdelhlfniaaGreatDoor
open Go.RowKit

/-- between which heights the first n points are, by bounds -/
def spansL (m : Mat) (n : Nat) : List (Int × Int) := (List.range n).map fun i => (- m i 8, m 8 i)
def heightsF (s : ShR) : List (Int × Int) := if openE s ≠ 0 then [] else spansL (openM s) s.pts.length
theorem spansL_len (m : Mat) (n : Nat) : (spansL m n).length = n := by simp [spansL]
theorem spansL_snoc (m : Mat) (n : Nat) : spansL m (n + 1) = spansL m n ++ [(- m n 8, m 8 n)] := by
  unfold spansL
  rw [List.range_succ, List.map_append]
  rfl
theorem openM_fine {s : ShR} (h : openE s = 0) : Fine (openM s) := by
  by_cases he : errOf s = 0
  · unfold openM
    rw [if_neg (by simp [he])]
    have hg := good_of_valid he
    exact allM_fine hg.plen.2 hg.notes free_fine
  · rw [openE_err he] at h
    exact absurd h he
theorem good_of_open {s : ShR} (h : openE s = 0) : Good s := by
  by_cases he : errOf s = 0
  · exact good_of_valid he
  · rw [openE_err he] at h
    exact absurd h he
/-- what a function returns: a list of its own, and an error -/
def OwnRes {α : Type} {At : World → Addr → α → Prop} {sz : Nat} [Enc α At sz] (base : Nat) (t : TypeId) (l : List α) (err : Int) (w : World) (e : Ending) (w' : World) : Prop :=
  ∃ A c, e = .returned (.tuple #[.slice A l.length c, .int .i64 err]) ∧ Own base t w' (.slice A l.length c) l ∧ Below base w w'

set_option maxRecDepth 100000 in
set_option maxHeartbeats 4000000 in
theorem heights_any {B : Nat} {w : World} {v : Value} {s : ShR} (hs : RdSh B w v s) (hn : Named s) (hB : B ≤ w.heap.size) :
    Calls Tryz.prog 23 #[v] w (OwnRes w.heap.size 40 (heightsF s) (openE s) w) := by
  obtain ⟨vp, vn, rfl, hp, ho⟩ := id hs
  obtain ⟨Ap, cp, rfl, h5, h6, _⟩ := id hp
  obtain ⟨W1, hW1, r1, z1, d1⟩ := box_any w #[.int .i64 s.iv, .slice Ap s.pts.length cp, vn] 25
  have HO := Lib.hid (open_any (hs.below (d1.mono hB)) hn (Nat.le_trans hB d1.size))
  have HB1 := Lib.hid d1
  have HR1 := Lib.hid r1
  have q0 := cellOf r1 0 rfl
  have q1 := cellOf r1 1 rfl
  have q2 := cellOf r1 2 rfl
  clear hp ho hs r1 z1 d1 h5 h6
  by_cases he : openE s = 0
  · have hg := good_of_open he
    have hpl := hg.plen.2
    have HF := Lib.hid (openM_fine he)
    have HE := Lib.hid he
    rw [he] at HO
    clear he hg
    go_enter Tryz.func23, Tryz.ntmps23
    go_upto_region 1 with (fail)
    rw [← hW1]
    clear hW1
    go_upto_region 2 with (first | (go_at_call 68; refine HO.out.mono ?_; rintro e w3 ⟨rfl, hb3⟩) | (refine wpList_alloc_mat rfl rfl ?_; intro w4 hw4 hm4 hb4 hz4) | (refine wpList_store_mat rfl _ _ rfl rfl rfl hm4 ?_; intro w5 hm5 hg5))
    have hg5 : w4.grownBy w5 (some w3.heap.size) := hg5
    have hm5 : MatAt w5 w3.heap.size 93 (openM s) := hm5
    have z1 := HB1.out.size
    have z3 := hb3.size
    have hlt := lt_of_block HR1.out
    have hb5 : Below W1.heap.size W1 w5 := hb3.trans ((hb4.mono (by omega)).trans (grown_below hg5 (by omega) (by omega)))
    have k5 := (hb5.block _ hlt).trans HR1.out
    have q1 := cellOf k5 1 rfl
    have HB5 := Lib.hid hb5
    have HK5 := Lib.hid k5
    have HM5 := Lib.hid hm5
    have Z1 := Lib.hid z1
    clear k5 hlt hb5 z1 z3 hg5 hm5 hb4 hm4 hw4 hz4 hb3
    go_wp2
    clear q0 q1 q2
    go_loopw [2, 17] (fun lv i wr => ∃ (k : Nat) (A : Option Addr) (c : Nat), k ≤ s.pts.length ∧ i = .int .i64 k ∧ lv = .slice A k c ∧ Own w5.heap.size 40 wr (.slice A k c) (spansL (openM s) k) ∧ Below w5.heap.size w5 wr) (fun _ i _ => s.pts.length - (intOf i).toNat)
    case atStart => exact ⟨0, none, 0, Nat.zero_le _, rfl, rfl, Own.nil _ _ _, Below.refl _ _⟩
    case round =>
      obtain ⟨k, A, c, hk, rfl, rfl, hown, hbr⟩ := hrel
      by_cases hlt : k < s.pts.length
      · have hmr := HM5.out.below hbr
        have e1 := hmr.cell (i := k) (k := 8) (by omega) (by omega)
        have e2 := hmr.cell (i := 8) (k := k) (by omega) (by omega)
        have p1 := HF.out.ge (i := k) (k := 8) (by omega) (by omega)
        have p2 := HF.out.le k 8 (by omega) (by omega)
        have Hsn := Lib.hid (spansL_snoc (openM s) k)
        have Hll := Lib.hid (spansL_len (openM s) k)
        have Hown := Lib.hid hown
        have Hbr := Lib.hid hbr
        simp only [Nat.reduceMul] at e2
        clear hown hbr hmr
        generalize openM s k 8 = x1 at *
        generalize openM s 8 k = x2 at *
        generalize spansL (openM s) k = l at *
        have s1 : IntKind.i64.wrap (-x1) = -x1 := IntWalk.i64_in _ (by omega)
        go_upto_region 7 with (fail)
        refine region_move_quiet_tail2 (C := fun w' => ∃ n, w' = wr.drewN n) 11 _ rfl rfl (by kernel_rfl) (by kernel_rfl) ⟨1, rfl⟩ ?_
        simp only [List.take_succ_cons, List.take_zero, List.drop_succ_cons, List.drop_zero, Nat.reduceSub]
        repeat (first | go_big_quiet_step (fail) | quiet_step (fail))
        refine wpQuiet_nil ?_
        rintro _ ⟨n1, rfl⟩
        obtain ⟨wq, hwq⟩ : ∃ wq, wq = wr.drewN n1 := ⟨_, rfl⟩
        rw [← hwq]
        have hownq : Own w5.heap.size 40 wq (.slice A k c) l := by rw [hwq]; exact Hown.out.qt ⟨n1, rfl⟩
        have hbq : Below w5.heap.size w5 wq := by rw [hwq]; exact below_drewN Hbr.out n1
        obtain ⟨A2, c2', w2, hrun, hown2, hb2, _⟩ := append_span hownq (-x1, x2) (by rw [Hll.out]; omega) hbq.size
        rw [Hll.out] at hrun hown2
        have Hown2 := Lib.hid hown2
        have Hb2 := Lib.hid (hbq.trans hb2)
        clear hwq hownq hbq hown2 hb2 e1 e2
        go_wp2_with (at_builtin; refine wpList_append_run rfl _ _ _ rfl rfl rfl hrun ?_)
        refine NoPanic.normal ?_
        simp only [Exit.inBlock, Exit.then]
        go_wp2
        go_roundw
        case rel => exact ⟨k + 1, A2, c2', by omega, by go_num, rfl, by rw [Hsn.out]; exact Hown2.out, Hb2.out⟩
        case measure => simp [intOf]; omega
      · have hkn : k = s.pts.length := by omega
        subst hkn
        have Hown := Lib.hid hown
        have Hbr := Lib.hid hbr
        have hF := Lib.hid (show heightsF s = spansL (openM s) s.pts.length by unfold heightsF; rw [if_neg (by simp [HE.out])])
        have hlen := Lib.hid (spansL_len (openM s) s.pts.length)
        clear hown hbr
        go_wp2
        go_ret2
        refine ⟨A, c, ?_, ?_, ?_⟩
        · rw [hF.out, hlen.out, HE.out]; rfl
        · rw [hF.out, hlen.out]
          exact Hown.out.mono (Nat.le_trans HB1.out.size HB5.out.size)
        · exact HB1.out.trans ((HB5.out.trans (Hbr.out.mono HB5.out.size)).mono Z1.out)
  · have hne : (openE s != 0) = true := by simp [he]
    have hF := Lib.hid (show heightsF s = [] by unfold heightsF; rw [if_pos he])
    clear he
    go_enter Tryz.func23, Tryz.ntmps23
    go_upto_region 1 with (fail)
    rw [← hW1]
    clear hW1
    go_wp2_with (first | (go_at_call 68; refine HO.out.mono ?_; rintro e w3 ⟨rfl, hb3⟩) | (refine wpList_alloc_mat rfl rfl ?_; intro w4 hw4 hm4 hb4 hz4) | (refine wpList_store_mat rfl _ _ rfl rfl rfl hm4 ?_; intro w5 hm5 hg5))
    have hg5 : w4.grownBy w5 (some w3.heap.size) := hg5
    have z1 := HB1.out.size
    have z3 := hb3.size
    go_ret2
    refine ⟨none, 0, by rw [hF.out]; rfl, by rw [hF.out]; exact Own.nil _ _ _, ?_⟩
    exact HB1.out.trans ((hb3.trans ((hb4.mono (by omega)).trans (grown_below hg5 (by omega) (by omega)))).mono z1)
end Go.Proofs.YtajdgdelhlfniaaGreatDoor
