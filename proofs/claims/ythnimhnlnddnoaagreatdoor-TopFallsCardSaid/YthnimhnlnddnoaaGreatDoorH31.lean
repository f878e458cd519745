/- Parts of the proof of TpP: Srch3, Srch4. -/
import Derived.Test.YthnimhnlnddnoaaGreatDoorH30
import Derived.WalkKit
import Derived.Deep.Quiet
set_option linter.unusedSimpArgs false
set_option linter.unusedVariables false
set_option maxRecDepth 100000
set_option maxHeartbeats 8000000
namespace Go.Proofs.YthnimhnlnddnoaaGreatDoor
open Go.RowKit
theorem append_int_g {base : Nat} {w : World} {v : Value} {xs : List Int} (h : Own base 3 w v xs) (x : Int) (hn : xs.length ≤ 100000) (hbase : base ≤ w.heap.size) :
  ∃ A c w', (Builtin.append_ #[30, 30] 30 #[v, .slice (some ⟨w.heap.size, 0, none⟩) 1 1]).run Tryz.prog (w.alloc (.cells #[.int .i64 x] 3)) = .ok (.slice A (xs.length + 1) c) w' ∧ Own base 3 w' (.slice A (xs.length + 1) c) (xs ++ [x]) ∧
   (w.alloc (.cells #[.int .i64 x] 3)).grownBy w' v.ownBlock ∧ ((Value.slice A (xs.length + 1) c).ownBlock = v.ownBlock ∨ (Value.slice A (xs.length + 1) c).ownBlock = some (w.heap.size + 1)) := by
 obtain ⟨i, hi, hi2⟩ := Option.map_eq_some_iff.1 (show (Tryz.prog.info? 3).map (fun i => (i.size, i.bytes, i.zero.map (·.cells.size))) = some (1, 8, some 1) by kernel_rfl)
 simp only [Prod.mk.injEq] at hi2
 obtain ⟨hsize, hby, hz0⟩ := hi2
 obtain ⟨z, hz, hzs⟩ := Option.map_eq_some_iff.1 hz0
 have hown : Own base 3 (w.alloc (.cells #[.int .i64 x] 3)) v xs := h.alloc _
 obtain ⟨v', w', hrun, h2, h3, _, h5⟩ := run_append_own_at (P := Tryz.prog) (w.alloc (.cells #[.int .i64 x] 3)) base 30 30 3 i z 1 8 (by kernel_rfl) hi hz hsize hby hzs (by omega) v xs.length (xs.flatMap Enc.enc) hown
  ⟨w.heap.size, 0, none⟩ 1 1 (Enc.enc x) rfl
  (fun j u hu => by
   have hadd : (⟨w.heap.size, 0, none⟩ : Addr).add j = ⟨w.heap.size, j, none⟩ := by unfold Addr.add; split <;> simp_all
   rw [hadd]
   have hu : [Value.int .i64 x][j]? = some u := hu
   exact (cell_of_row _ _ j _ _ _ (heap_alloc_new w _)).trans (by simpa using hu))
  (fun u hu => by simp [Enc.enc] at hu; subst hu; rfl) (by unfold maxLen; omega) (by omega) (by simp; omega)
 have h4 : Own base 3 w' v' (xs ++ [x]) := Own.of_append (n := xs.length + 1) (by simp) (by simpa using h2)
 obtain ⟨A, c, rfl, _, _⟩ := h4.form
 rw [List.length_append, List.length_singleton] at hrun h4 h5
 exact ⟨A, c, w', hrun, h4, h3, by rw [World.size_alloc] at h5; exact h5⟩
theorem Own.owner {α : Type} {At : World → Addr → α → Prop} {sz : Nat} [E : Enc α At sz] {base : Nat} {e : TypeId} {w : World} {v : Value} {xs : List α} (h : Own base e w v xs) {g : Nat} (hg : v.ownBlock = some g) : base ≤ g ∧ ∃ cur, w.heap[g]? = some (.cells cur e) := by
 rcases h with ⟨_, ⟨rfl, _⟩ | ⟨g', cap, cu, rfl, hle, hh, _⟩⟩
 ·cases hg
 ·simp only [Value.ownBlock, Option.some.injEq] at hg
  subst hg
  exact ⟨hle, cu, hh⟩
theorem Own.keep {α : Type} {At : World → Addr → α → Prop} {sz : Nat} [E : Enc α At sz] {base : Nat} {e : TypeId} {w w' : World} {v : Value} {xs : List α} (h : Own base e w v xs) (hk : ∀ g, v.ownBlock = some g → w'.heap[g]? = w.heap[g]?) : Own base e w' v xs := by
 rcases h with ⟨hl, h0 | ⟨g, cap, cur, rfl, hbb, hh, r⟩⟩
 ·exact ⟨hl, .inl h0⟩
 ·exact ⟨hl, .inr ⟨g, cap, cur, rfl, hbb, (hk g rfl).trans hh, r⟩⟩
theorem TF.set4 {a : Nat} {w w' : World} (h : TF a w w') (v : Value) : TF a w (w'.setCell ⟨a + 4, 0, none⟩ v) :=
 ⟨h.os, h.tape, h.output, by simpa [World.setCell] using h.size, fun k h1 h2 h3 h4 => (Below.heap_setCell _ _ _ _ (by show k ≠ a + 4; exact h4)).trans (h.low k h1 h2 h3 h4), fun k o h1 h2 h3 => (Below.heap_setCell _ _ _ _ (by show k ≠ a + 4; omega)).trans (h.hi k o h1 h2 h3)⟩
theorem try_push {a : Nat} {iv : Int} {vp vn : Value} {left : Bool} {cur : List Int} {st : Bool × List Int} {w : World} (h : TryI a iv vp vn left cur st w) (x : Int) (hlen : cur.length ≤ 1000) :
  ∃ A4 c4 A c w5, w.cell? ⟨a + 4, 0, none⟩ = some (.slice A4 cur.length c4) ∧ (Builtin.append_ #[30, 30] 30 #[.slice A4 cur.length c4, .slice (some ⟨w.heap.size, 0, none⟩) 1 1]).run Tryz.prog (w.alloc (.cells #[.int .i64 x] 3)) = .ok (.slice A (cur.length + 1) c) w5 ∧
   (∃ o, w5.cell? ⟨a + 4, 0, none⟩ = some o) ∧ w5.frozen? ⟨a + 4, 0, none⟩ = false ∧ TryI a iv vp vn left (cur ++ [x]) st (w5.setCell ⟨a + 4, 0, none⟩ (.slice A (cur.length + 1) c)) ∧ TF a w (w5.setCell ⟨a + 4, 0, none⟩ (.slice A (cur.length + 1) c)) := by
 have hsz := h.size
 obtain ⟨lv, bv, h4, h2, ho1, ho2, hs⟩ := h.lists
 obtain ⟨A4, c4, rfl, _, _⟩ := ho1.form
 obtain ⟨A, c, w5, hrun, hown, hg, hob⟩ := append_int_g ho1 x (by omega) hsz
 have hga : (w.alloc (.cells #[.int .i64 x] 3)).heap.size = w.heap.size + 1 := by simp
 have low : ∀ k, k < a + 6 → w5.heap[k]? = w.heap[k]? := fun k hk => (hg.block k (by omega) (fun e => by have := (ho1.owner e.symm).1; omega)).trans (Below.heap_alloc w _ k (by omega))
 have hk4 := (low (a + 4) (by omega)).trans h4
 have old : ∀ k, k ≠ a + 4 → (w5.setCell ⟨a + 4, 0, none⟩ (.slice A (cur.length + 1) c)).heap[k]? = w5.heap[k]? := fun k hk => Below.heap_setCell _ _ _ _ (by show k ≠ a + 4; exact hk)
 refine ⟨A4, c4, A, c, w5, cellOf h4 0 rfl, hrun, ⟨_, cellOf hk4 0 rfl⟩, by simp [World.frozen?, hk4], ⟨((old _ (by omega)).trans (low _ (by omega))).trans h.c0, ((old _ (by omega)).trans (low _ (by omega))).trans h.c1, ((old _ (by omega)).trans (low _ (by omega))).trans h.c3, ((old _ (by omega)).trans (low _ (by omega))).trans h.c5,
  .slice A (cur.length + 1) c, bv, heap_setCell_row hk4 _, ((old _ (by omega)).trans (low _ (by omega))).trans h2, hown.other (by show a + 4 < a + 6; omega) _, ?_, fun g hg1 hg2 => ?_⟩, ?_⟩
 ·refine (ho2.keep fun g hg2 => ?_).other (by show a + 4 < a + 6; omega) _
  obtain ⟨_, cu, hcu⟩ := ho2.owner hg2
  exact (hg.block g (by have := lt_of_block hcu; omega) (fun e => hs g e.symm hg2)).trans (Below.heap_alloc w _ g (lt_of_block hcu))
 ·obtain ⟨_, cu, hcu⟩ := ho2.owner hg2
  rcases hob with e | e
  ·rw [e] at hg1
   exact hs g hg1 hg2
  ·rw [e] at hg1
   injection hg1 with hg1
   have := lt_of_block hcu
   omega
 ·refine TF.set4 (w := w) (w' := w5) ⟨hg.os, hg.tape, hg.output, by have := hg.size; omega, fun k hk _ _ _ => low k hk, fun k o hk ho hne => ?_⟩ _
  refine (hg.block k (by have := lt_of_block ho; omega) (fun e => ?_)).trans ((Below.heap_alloc w _ k (lt_of_block ho)).trans ho)
  obtain ⟨_, cu, hcu⟩ := ho1.owner e.symm
  rw [ho] at hcu
  injection hcu with hcu
  exact hne _ _ hcu
theorem try_pop {a : Nat} {iv : Int} {vp vn : Value} {left : Bool} {cur : List Int} {x : Int} {st : Bool × List Int} {w : World} (h : TryI a iv vp vn left (cur ++ [x]) st w) :
  ∃ A4 c4, w.cell? ⟨a + 4, 0, none⟩ = some (.slice A4 (cur.length + 1) c4) ∧ cur.length + 1 ≤ c4 ∧ w.frozen? ⟨a + 4, 0, none⟩ = false ∧ TryI a iv vp vn left cur st (w.setCell ⟨a + 4, 0, none⟩ (.slice A4 cur.length c4)) ∧ TF a w (w.setCell ⟨a + 4, 0, none⟩ (.slice A4 cur.length c4)) := by
 obtain ⟨lv, bv, h4, h2, ho1, ho2, hs⟩ := h.lists
 obtain ⟨A4, c4, rfl, hc4, _⟩ := ho1.form
 rw [List.length_append, List.length_singleton] at h4 ho1 hs hc4
 have old : ∀ k, k ≠ a + 4 → (w.setCell ⟨a + 4, 0, none⟩ (.slice A4 cur.length c4)).heap[k]? = w.heap[k]? := fun k hk => Below.heap_setCell _ _ _ _ (by show k ≠ a + 4; exact hk)
 have ho1' := ho1.take (k := cur.length) (by simp)
 rw [List.take_left' rfl] at ho1'
 refine ⟨A4, c4, cellOf h4 0 rfl, hc4, by simp [World.frozen?, h4], ⟨(old _ (by omega)).trans h.c0, (old _ (by omega)).trans h.c1, (old _ (by omega)).trans h.c3, (old _ (by omega)).trans h.c5, _, bv, heap_setCell_row h4 _, (old _ (by omega)).trans h2,
  ho1'.other (by show a + 4 < a + 6; omega) _, ho2.other (by show a + 4 < a + 6; omega) _, fun g hg1 => hs g (by
   cases A4 with
   | none => cases hg1
   | some ad => exact hg1)⟩, (TF.refl a w).set4 _⟩
end Go.Proofs.YthnimhnlnddnoaaGreatDoor
namespace Go.Proofs.YthnimhnlnddnoaaGreatDoor
open Go.RowKit
theorem try_any {B a : Nat} {s : ShR} {vp : Value} {An : Option Addr} {cn : Nat} {left : Bool} (hg : Good s) (hBa : B ≤ a) : ∀ (rem i : Nat) (w : World) (b : Mat) (bad : Bool) (cur : List Int) (st : Bool × List Int),
  i + rem = s.notes.length → RdSh B w (.agg #[.int .i64 s.iv, vp, .slice An s.notes.length cn]) s → TryI a s.iv vp (.slice An s.notes.length cn) left cur st w → Fine b → cur.length ≤ i →
  Calls Tryz.prog 97 #[.int .i64 i, .agg (matC b), .bool bad, .pointer (some ⟨a + 3, 0, none⟩), .pointer (some ⟨a + 4, 0, none⟩), .pointer (some ⟨a + 2, 0, none⟩), .pointer (some ⟨a + 1, 0, none⟩), .pointer (some ⟨a, 0, none⟩), .pointer (some ⟨a + 5, 0, none⟩)] w
   (TryRes a s.iv vp (.slice An s.notes.length cn) left cur (tryS s.iv s.notes left rem b bad cur st) w) := by
 intro rem
 induction rem with
 | zero =>
  intro i w b bad cur st hi hrd hI hb hlen
  have hnl := hg.nlen
  have hin : i = s.notes.length := by omega
  subst hin
  unfold tryS
  cases hc : (st.1 && decide (st.2.length ≤ cur.length)) || (left && bad) with
  | true => rw [if_pos rfl]; exact try_stop _ b hI hc
  | false =>
   rw [if_neg (by simp)]
   cases hbl : bad || left with
   | true =>
    rw [if_pos rfl]
    refine try_best _ b hI hc ?_ (by omega)
    cases bad with
    | true => exact .inl rfl
    | false => exact .inr ⟨by simpa using hbl, rfl⟩
   | false =>
    rw [if_neg (by simp)]
    have hb0 : bad = false := by cases bad <;> simp_all
    have hl0 : left = false := by cases left <;> simp_all
    subst hb0 hl0
    exact try_end b hI (by simpa using hc)
 | succ r ih =>
  intro i w b bad cur st hi hrd hI hb hlen
  have hnl := hg.nlen
  have hlt : i < s.notes.length := by omega
  have hri : s.notes.length - (r + 1) = i := by omega
  rw [tryS, hri]
  cases hc : (st.1 && decide (st.2.length ≤ cur.length)) || (left && bad) with
  | true => rw [if_pos rfl]; exact try_stop _ b hI hc
  | false =>
   rw [if_neg (by simp)]
   cases bad with
   | true => rw [if_pos rfl]; exact try_best _ b hI hc (.inl rfl) (by omega)
   | false =>
    rw [if_neg (by simp)]
    obtain ⟨W1, hW1, r1, z1, d1⟩ := box_any w (matC b) 82
    have hI1 := hI.below d1
    have hT1 := TF.of_below d1 hI.size
    have hrd1 := hrd.keep (w' := W1) (fun p hp => hT1.below.cell (by omega))
    have hasz := hI.size
    have hcall := with_any (w := W1) (b := b) (i := i) hrd1 hg hlt hb ⟨Int.le_refl 0, by omega⟩ (by omega)
    have hwf := withM_fine (iv := s.iv) (wd := 0) (hg.notes _ (getD_mem hlt default)) hg.plen.2 hb
    generalize hwm : withM s.iv 0 b (s.notes.getD i default) = wm at *
    obtain ⟨wb, is⟩ := wm
    simp only at *
    have hm1 : MatAt W1 w.heap.size 82 b := r1
    have HM1 := Lib.hid hm1
    have HI1 := Lib.hid hI1
    have HT1 := Lib.hid hT1
    have HCl := Lib.hid hcall
    have HRd := Lib.hid hrd
    have HIh := Lib.hid ih
    have HWf := Lib.hid hwf
    have HB := Lib.hid hb
    have HZ := Lib.hid hasz
    obtain ⟨A4, A2, c4, c2, hC, _⟩ := hI1.reads
    obtain ⟨s0, s1, s2, f1, f2, f3, f4, f5, _, _, _⟩ := hC
    have hcmp : st.1 = true → ¬ st.2.length ≤ cur.length := fun e => by rw [e] at hc; simpa using (Bool.or_eq_false_iff.1 hc).1
    obtain ⟨found, best⟩ := st
    simp only at *
    clear hwm hc hm1 hI1 hT1 hcall hrd1 hrd ih hwf hb r1 d1 hI hasz hri
    cases left with
    | false =>
     cases found with
     | true =>
      have hcmp := hcmp rfl
      go_enter Tryz.func97, Tryz.ntmps97
      go_upto_region 1 with (fail)
      rw [← hW1]
      clear hW1
      go_upto_region 5 with (fail)
      clear f1 f2 f3 f4 f5
      go_upto_region 6 with (first | (refine wpList_load_mat rfl _ rfl rfl HM1.out ?_) | (go_at_call 63; refine HCl.out.mono ?_; rintro e w2 ⟨rfl, hb2⟩) | (refine wpList_alloc_mat rfl rfl ?_; intro w3 hw3 hm3 hb3 hz3) | (refine wpList_store_mat rfl _ _ rfl rfl rfl hm3 ?_; intro w4 hm4 hg4))
      have hg4 : w3.grownBy w4 (some w2.heap.size) := hg4
      have hm4 : MatAt w4 w2.heap.size 82 wb := hm4
      have y1 := HI1.out.size
      have y2 := hb2.size
      have y3 := hb3.size
      have y4 := lt_of_block HM1.out
      have hb4 : Below W1.heap.size W1 w4 := hb2.trans ((hb3.mono y2).trans (grown_below hg4 y2 (by omega)))
      have hI4 := HI1.out.below hb4
      have hT4 := HT1.out.trans (TF.of_below hb4 y1)
      have hm4a := HM1.out.below hb4
      clear s0 s1 s2 hw3 hm3 hb3 hz3 hg4
      obtain ⟨A4, c4, A5, c5, w5, hcell, hrun, ⟨o5, hc5⟩, hz5, hI6, hT6⟩ := try_push hI4 (i : Int) (by omega)
      obtain ⟨w6, hw6⟩ : ∃ w6, w5.setCell ⟨a + 4, 0, none⟩ (.slice A5 (cur.length + 1) c5) = w6 := ⟨_, rfl⟩
      rw [hw6] at hI6 hT6
      have hT06 := hT4.trans hT6
      have hZ := HZ.out
      have hm6 := hT6.mat (by omega) hm4a
      have hm6b := hT6.mat (by omega) hm4
      have HM6 := Lib.hid hm6
      have HM6b := Lib.hid hm6b
      have HI6 := Lib.hid hI6
      have HT06 := Lib.hid hT06
      have HY4 := Lib.hid (show a + 6 ≤ w2.heap.size by omega)
      clear y1 y2 y3 y4 hb2 hb4 hI4 hT4 hm4a hm4 hI6 hT6 hT06 hm6 hm6b hZ
      go_upto_region 7 with (at_builtin; refine wpList_append_run rfl _ _ _ rfl rfl rfl hrun ?_)
      clear hcell hrun hc5 hz5 hw6
      obtain ⟨_, _, _, _, hC6, _⟩ := HI6.out.reads
      have f1 := hC6.f1
      have f5 := hC6.f5
      clear hC6
      have hcall := HIh.out (i + 1) w6 wb (!is) (cur ++ [(i : Int)]) (true, best) (by omega) (HRd.out.keep (fun p hp => HT06.out.below.cell (by omega))) HI6.out HWf.out (by simp; omega)
      rw [show ((i + 1 : Nat) : Int) = (i : Int) + 1 from rfl] at hcall
      have HC1 := Lib.hid hcall
      clear hcall
      unfold tryP at f5
      go_upto_region 10 with (first | (refine wpList_load_mat rfl _ rfl rfl HM6b.out ?_) | (go_at_call 97; refine HC1.out.mono ?_; rintro e w7 ⟨rfl, hI7, hT7⟩))
      clear f1 f5
      generalize hst1 : tryS s.iv s.notes false r wb (!is) (cur ++ [(i : Int)]) (true, best) = st1 at *
      clear hst1
      obtain ⟨A7, c7, hcell7, hc7, hz7, hI8, hT8⟩ := try_pop hI7
      obtain ⟨w8, hw8⟩ : ∃ w8, w7.setCell ⟨a + 4, 0, none⟩ (.slice A7 cur.length c7) = w8 := ⟨_, rfl⟩
      rw [hw8] at hI8 hT8
      have hT68 := hT7.trans hT8
      have HT08 := Lib.hid (HT06.out.trans hT68)
      have hm8 := hT68.mat (by have := HZ.out; omega) HM6.out
      have hm8b := hT68.mat HY4.out HM6b.out
      have HM8 := Lib.hid hm8
      have HM8b := Lib.hid hm8b
      have HI8 := Lib.hid hI8
      clear hI7 hT7 hI8 hT8 hT68 hm8 hm8b
      go_upto_region 11 with (fail)
      clear hcell7 hc7 hz7 hw8
      obtain ⟨_, _, _, _, hC8, _⟩ := HI8.out.reads
      have f1 := hC8.f1
      have f5 := hC8.f5
      clear hC8
      have hcall := HIh.out (i + 1) w8 b false cur st1 (by omega) (HRd.out.keep (fun p hp => HT08.out.below.cell (by omega))) HI8.out HB.out (by omega)
      rw [show ((i + 1 : Nat) : Int) = (i : Int) + 1 from rfl] at hcall
      have HC2 := Lib.hid hcall
      clear hcall
      unfold tryP at f5
      go_wp2_with (first | (refine wpList_load_mat rfl _ rfl rfl HM8.out ?_) | (go_at_call 97; refine HC2.out.mono ?_; rintro e w9 ⟨rfl, hI9, hT9⟩))
      go_end0
      exact ⟨rfl, hI9, HT08.out.trans hT9⟩
     | false =>
      clear hcmp
      go_enter Tryz.func97, Tryz.ntmps97
      go_upto_region 1 with (fail)
      rw [← hW1]
      clear hW1
      go_upto_region 5 with (fail)
      clear f1 f2 f3 f4 f5
      go_upto_region 6 with (first | (refine wpList_load_mat rfl _ rfl rfl HM1.out ?_) | (go_at_call 63; refine HCl.out.mono ?_; rintro e w2 ⟨rfl, hb2⟩) | (refine wpList_alloc_mat rfl rfl ?_; intro w3 hw3 hm3 hb3 hz3) | (refine wpList_store_mat rfl _ _ rfl rfl rfl hm3 ?_; intro w4 hm4 hg4))
      have hg4 : w3.grownBy w4 (some w2.heap.size) := hg4
      have hm4 : MatAt w4 w2.heap.size 82 wb := hm4
      have y1 := HI1.out.size
      have y2 := hb2.size
      have y3 := hb3.size
      have y4 := lt_of_block HM1.out
      have hb4 : Below W1.heap.size W1 w4 := hb2.trans ((hb3.mono y2).trans (grown_below hg4 y2 (by omega)))
      have hI4 := HI1.out.below hb4
      have hT4 := HT1.out.trans (TF.of_below hb4 y1)
      have hm4a := HM1.out.below hb4
      clear s0 s1 s2 hw3 hm3 hb3 hz3 hg4
      obtain ⟨A4, c4, A5, c5, w5, hcell, hrun, ⟨o5, hc5⟩, hz5, hI6, hT6⟩ := try_push hI4 (i : Int) (by omega)
      obtain ⟨w6, hw6⟩ : ∃ w6, w5.setCell ⟨a + 4, 0, none⟩ (.slice A5 (cur.length + 1) c5) = w6 := ⟨_, rfl⟩
      rw [hw6] at hI6 hT6
      have hT06 := hT4.trans hT6
      have hZ := HZ.out
      have hm6 := hT6.mat (by omega) hm4a
      have hm6b := hT6.mat (by omega) hm4
      have HM6 := Lib.hid hm6
      have HM6b := Lib.hid hm6b
      have HI6 := Lib.hid hI6
      have HT06 := Lib.hid hT06
      have HY4 := Lib.hid (show a + 6 ≤ w2.heap.size by omega)
      clear y1 y2 y3 y4 hb2 hb4 hI4 hT4 hm4a hm4 hI6 hT6 hT06 hm6 hm6b hZ
      go_upto_region 7 with (at_builtin; refine wpList_append_run rfl _ _ _ rfl rfl rfl hrun ?_)
      clear hcell hrun hc5 hz5 hw6
      obtain ⟨_, _, _, _, hC6, _⟩ := HI6.out.reads
      have f1 := hC6.f1
      have f5 := hC6.f5
      clear hC6
      have hcall := HIh.out (i + 1) w6 wb (!is) (cur ++ [(i : Int)]) (false, best) (by omega) (HRd.out.keep (fun p hp => HT06.out.below.cell (by omega))) HI6.out HWf.out (by simp; omega)
      rw [show ((i + 1 : Nat) : Int) = (i : Int) + 1 from rfl] at hcall
      have HC1 := Lib.hid hcall
      clear hcall
      unfold tryP at f5
      go_upto_region 10 with (first | (refine wpList_load_mat rfl _ rfl rfl HM6b.out ?_) | (go_at_call 97; refine HC1.out.mono ?_; rintro e w7 ⟨rfl, hI7, hT7⟩))
      clear f1 f5
      generalize hst1 : tryS s.iv s.notes false r wb (!is) (cur ++ [(i : Int)]) (false, best) = st1 at *
      clear hst1
      obtain ⟨A7, c7, hcell7, hc7, hz7, hI8, hT8⟩ := try_pop hI7
      obtain ⟨w8, hw8⟩ : ∃ w8, w7.setCell ⟨a + 4, 0, none⟩ (.slice A7 cur.length c7) = w8 := ⟨_, rfl⟩
      rw [hw8] at hI8 hT8
      have hT68 := hT7.trans hT8
      have HT08 := Lib.hid (HT06.out.trans hT68)
      have hm8 := hT68.mat (by have := HZ.out; omega) HM6.out
      have hm8b := hT68.mat HY4.out HM6b.out
      have HM8 := Lib.hid hm8
      have HM8b := Lib.hid hm8b
      have HI8 := Lib.hid hI8
      clear hI7 hT7 hI8 hT8 hT68 hm8 hm8b
      go_upto_region 11 with (fail)
      clear hcell7 hc7 hz7 hw8
      obtain ⟨_, _, _, _, hC8, _⟩ := HI8.out.reads
      have f1 := hC8.f1
      have f5 := hC8.f5
      clear hC8
      have hcall := HIh.out (i + 1) w8 b false cur st1 (by omega) (HRd.out.keep (fun p hp => HT08.out.below.cell (by omega))) HI8.out HB.out (by omega)
      rw [show ((i + 1 : Nat) : Int) = (i : Int) + 1 from rfl] at hcall
      have HC2 := Lib.hid hcall
      clear hcall
      unfold tryP at f5
      go_wp2_with (first | (refine wpList_load_mat rfl _ rfl rfl HM8.out ?_) | (go_at_call 97; refine HC2.out.mono ?_; rintro e w9 ⟨rfl, hI9, hT9⟩))
      go_end0
      exact ⟨rfl, hI9, HT08.out.trans hT9⟩
    | true =>
     cases found with
     | true =>
      have hcmp := hcmp rfl
      go_enter Tryz.func97, Tryz.ntmps97
      go_upto_region 1 with (fail)
      rw [← hW1]
      clear hW1
      go_upto_region 5 with (fail)
      clear f1 f2 f3 f4 f5
      go_upto_region 6 with (first | (refine wpList_load_mat rfl _ rfl rfl HM1.out ?_) | (go_at_call 63; refine HCl.out.mono ?_; rintro e w2 ⟨rfl, hb2⟩) | (refine wpList_alloc_mat rfl rfl ?_; intro w3 hw3 hm3 hb3 hz3) | (refine wpList_store_mat rfl _ _ rfl rfl rfl hm3 ?_; intro w4 hm4 hg4))
      have hg4 : w3.grownBy w4 (some w2.heap.size) := hg4
      have hm4 : MatAt w4 w2.heap.size 82 wb := hm4
      have y1 := HI1.out.size
      have y2 := hb2.size
      have y3 := hb3.size
      have y4 := lt_of_block HM1.out
      have hb4 : Below W1.heap.size W1 w4 := hb2.trans ((hb3.mono y2).trans (grown_below hg4 y2 (by omega)))
      have hI4 := HI1.out.below hb4
      have hT4 := HT1.out.trans (TF.of_below hb4 y1)
      have hm4a := HM1.out.below hb4
      clear s0 s1 s2 hw3 hm3 hb3 hz3 hg4
      obtain ⟨A4, c4, A5, c5, w5, hcell, hrun, ⟨o5, hc5⟩, hz5, hI6, hT6⟩ := try_push hI4 (i : Int) (by omega)
      obtain ⟨w6, hw6⟩ : ∃ w6, w5.setCell ⟨a + 4, 0, none⟩ (.slice A5 (cur.length + 1) c5) = w6 := ⟨_, rfl⟩
      rw [hw6] at hI6 hT6
      have hT06 := hT4.trans hT6
      have hZ := HZ.out
      have hm6 := hT6.mat (by omega) hm4a
      have hm6b := hT6.mat (by omega) hm4
      have HM6 := Lib.hid hm6
      have HM6b := Lib.hid hm6b
      have HI6 := Lib.hid hI6
      have HT06 := Lib.hid hT06
      have HY4 := Lib.hid (show a + 6 ≤ w2.heap.size by omega)
      clear y1 y2 y3 y4 hb2 hb4 hI4 hT4 hm4a hm4 hI6 hT6 hT06 hm6 hm6b hZ
      go_upto_region 7 with (at_builtin; refine wpList_append_run rfl _ _ _ rfl rfl rfl hrun ?_)
      clear hcell hrun hc5 hz5 hw6
      obtain ⟨_, _, _, _, hC6, _⟩ := HI6.out.reads
      have f1 := hC6.f1
      have f5 := hC6.f5
      clear hC6
      have hcall := HIh.out (i + 1) w6 b false (cur ++ [(i : Int)]) (true, best) (by omega) (HRd.out.keep (fun p hp => HT06.out.below.cell (by omega))) HI6.out HB.out (by simp; omega)
      rw [show ((i + 1 : Nat) : Int) = (i : Int) + 1 from rfl] at hcall
      have HC1 := Lib.hid hcall
      clear hcall
      unfold tryP at f5
      go_upto_region 10 with (first | (refine wpList_load_mat rfl _ rfl rfl HM6.out ?_) | (go_at_call 97; refine HC1.out.mono ?_; rintro e w7 ⟨rfl, hI7, hT7⟩))
      clear f1 f5
      generalize hst1 : tryS s.iv s.notes true r b false (cur ++ [(i : Int)]) (true, best) = st1 at *
      clear hst1
      obtain ⟨A7, c7, hcell7, hc7, hz7, hI8, hT8⟩ := try_pop hI7
      obtain ⟨w8, hw8⟩ : ∃ w8, w7.setCell ⟨a + 4, 0, none⟩ (.slice A7 cur.length c7) = w8 := ⟨_, rfl⟩
      rw [hw8] at hI8 hT8
      have hT68 := hT7.trans hT8
      have HT08 := Lib.hid (HT06.out.trans hT68)
      have hm8 := hT68.mat (by have := HZ.out; omega) HM6.out
      have hm8b := hT68.mat HY4.out HM6b.out
      have HM8 := Lib.hid hm8
      have HM8b := Lib.hid hm8b
      have HI8 := Lib.hid hI8
      clear hI7 hT7 hI8 hT8 hT68 hm8 hm8b
      go_upto_region 11 with (fail)
      clear hcell7 hc7 hz7 hw8
      obtain ⟨_, _, _, _, hC8, _⟩ := HI8.out.reads
      have f1 := hC8.f1
      have f5 := hC8.f5
      clear hC8
      have hcall := HIh.out (i + 1) w8 wb (!is) cur st1 (by omega) (HRd.out.keep (fun p hp => HT08.out.below.cell (by omega))) HI8.out HWf.out (by omega)
      rw [show ((i + 1 : Nat) : Int) = (i : Int) + 1 from rfl] at hcall
      have HC2 := Lib.hid hcall
      clear hcall
      unfold tryP at f5
      go_wp2_with (first | (refine wpList_load_mat rfl _ rfl rfl HM8b.out ?_) | (go_at_call 97; refine HC2.out.mono ?_; rintro e w9 ⟨rfl, hI9, hT9⟩))
      go_end0
      exact ⟨rfl, hI9, HT08.out.trans hT9⟩
     | false =>
      clear hcmp
      go_enter Tryz.func97, Tryz.ntmps97
      go_upto_region 1 with (fail)
      rw [← hW1]
      clear hW1
      go_upto_region 5 with (fail)
      clear f1 f2 f3 f4 f5
      go_upto_region 6 with (first | (refine wpList_load_mat rfl _ rfl rfl HM1.out ?_) | (go_at_call 63; refine HCl.out.mono ?_; rintro e w2 ⟨rfl, hb2⟩) | (refine wpList_alloc_mat rfl rfl ?_; intro w3 hw3 hm3 hb3 hz3) | (refine wpList_store_mat rfl _ _ rfl rfl rfl hm3 ?_; intro w4 hm4 hg4))
      have hg4 : w3.grownBy w4 (some w2.heap.size) := hg4
      have hm4 : MatAt w4 w2.heap.size 82 wb := hm4
      have y1 := HI1.out.size
      have y2 := hb2.size
      have y3 := hb3.size
      have y4 := lt_of_block HM1.out
      have hb4 : Below W1.heap.size W1 w4 := hb2.trans ((hb3.mono y2).trans (grown_below hg4 y2 (by omega)))
      have hI4 := HI1.out.below hb4
      have hT4 := HT1.out.trans (TF.of_below hb4 y1)
      have hm4a := HM1.out.below hb4
      clear s0 s1 s2 hw3 hm3 hb3 hz3 hg4
      obtain ⟨A4, c4, A5, c5, w5, hcell, hrun, ⟨o5, hc5⟩, hz5, hI6, hT6⟩ := try_push hI4 (i : Int) (by omega)
      obtain ⟨w6, hw6⟩ : ∃ w6, w5.setCell ⟨a + 4, 0, none⟩ (.slice A5 (cur.length + 1) c5) = w6 := ⟨_, rfl⟩
      rw [hw6] at hI6 hT6
      have hT06 := hT4.trans hT6
      have hZ := HZ.out
      have hm6 := hT6.mat (by omega) hm4a
      have hm6b := hT6.mat (by omega) hm4
      have HM6 := Lib.hid hm6
      have HM6b := Lib.hid hm6b
      have HI6 := Lib.hid hI6
      have HT06 := Lib.hid hT06
      have HY4 := Lib.hid (show a + 6 ≤ w2.heap.size by omega)
      clear y1 y2 y3 y4 hb2 hb4 hI4 hT4 hm4a hm4 hI6 hT6 hT06 hm6 hm6b hZ
      go_upto_region 7 with (at_builtin; refine wpList_append_run rfl _ _ _ rfl rfl rfl hrun ?_)
      clear hcell hrun hc5 hz5 hw6
      obtain ⟨_, _, _, _, hC6, _⟩ := HI6.out.reads
      have f1 := hC6.f1
      have f5 := hC6.f5
      clear hC6
      have hcall := HIh.out (i + 1) w6 b false (cur ++ [(i : Int)]) (false, best) (by omega) (HRd.out.keep (fun p hp => HT06.out.below.cell (by omega))) HI6.out HB.out (by simp; omega)
      rw [show ((i + 1 : Nat) : Int) = (i : Int) + 1 from rfl] at hcall
      have HC1 := Lib.hid hcall
      clear hcall
      unfold tryP at f5
      go_upto_region 10 with (first | (refine wpList_load_mat rfl _ rfl rfl HM6.out ?_) | (go_at_call 97; refine HC1.out.mono ?_; rintro e w7 ⟨rfl, hI7, hT7⟩))
      clear f1 f5
      generalize hst1 : tryS s.iv s.notes true r b false (cur ++ [(i : Int)]) (false, best) = st1 at *
      clear hst1
      obtain ⟨A7, c7, hcell7, hc7, hz7, hI8, hT8⟩ := try_pop hI7
      obtain ⟨w8, hw8⟩ : ∃ w8, w7.setCell ⟨a + 4, 0, none⟩ (.slice A7 cur.length c7) = w8 := ⟨_, rfl⟩
      rw [hw8] at hI8 hT8
      have hT68 := hT7.trans hT8
      have HT08 := Lib.hid (HT06.out.trans hT68)
      have hm8 := hT68.mat (by have := HZ.out; omega) HM6.out
      have hm8b := hT68.mat HY4.out HM6b.out
      have HM8 := Lib.hid hm8
      have HM8b := Lib.hid hm8b
      have HI8 := Lib.hid hI8
      clear hI7 hT7 hI8 hT8 hT68 hm8 hm8b
      go_upto_region 11 with (fail)
      clear hcell7 hc7 hz7 hw8
      obtain ⟨_, _, _, _, hC8, _⟩ := HI8.out.reads
      have f1 := hC8.f1
      have f5 := hC8.f5
      clear hC8
      have hcall := HIh.out (i + 1) w8 wb (!is) cur st1 (by omega) (HRd.out.keep (fun p hp => HT08.out.below.cell (by omega))) HI8.out HWf.out (by omega)
      rw [show ((i + 1 : Nat) : Int) = (i : Int) + 1 from rfl] at hcall
      have HC2 := Lib.hid hcall
      clear hcall
      unfold tryP at f5
      go_wp2_with (first | (refine wpList_load_mat rfl _ rfl rfl HM8b.out ?_) | (go_at_call 97; refine HC2.out.mono ?_; rintro e w9 ⟨rfl, hI9, hT9⟩))
      go_end0
      exact ⟨rfl, hI9, HT08.out.trans hT9⟩
end Go.Proofs.YthnimhnlnddnoaaGreatDoor
