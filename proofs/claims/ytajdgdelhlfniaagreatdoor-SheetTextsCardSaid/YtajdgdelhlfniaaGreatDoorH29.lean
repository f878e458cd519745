/- Walks of the layer sheet: the law's span, note, Sheet, Steep, Gentle, text. What the examples of the layer sheet come to. Plain: whether a sheet fits, by its truths. -/
import Derived.Test.YtajdgdelhlfniaaGreatDoorH28
import Derived.WalkKit
import Derived.Deep.Quiet
import Derived.Test.YtajdgdelhlfniaaGreatDoorH16
set_option linter.unusedSimpArgs false
set_option linter.unusedVariables false
namespace Go.Proofs.YtajdgdelhlfniaaGreatDoor
open Go.RowKit

theorem own_lit {α : Type} {At : World → Addr → α → Prop} {sz : Nat} [E : Enc α At sz] {w : World} {b : Nat} {e : TypeId} (xs : List α) (hn : xs.length ≤ 1000) (h : w.heap[b]? = some (.cells (xs.flatMap E.enc).toArray e)) :
    Own b e w (.slice (some ⟨b, 0, none⟩) xs.length xs.length) xs := by
  refine ⟨flat_len xs, .inr ⟨b, xs.length, (xs.flatMap E.enc).toArray, rfl, Nat.le_refl _, h, Nat.le_refl _, by unfold maxLen; omega, by simp only [List.size_toArray]; rw [flat_len], List.take_of_length_le (by show (xs.flatMap E.enc).length ≤ _; rw [flat_len]; exact Nat.le_refl _)⟩⟩
theorem own_empty_at {α : Type} {At : World → Addr → α → Prop} {sz : Nat} [E : Enc α At sz] {w : World} {g base : Nat} {e : TypeId} (h : w.heap[g]? = some (.cells #[] e)) (hb : base ≤ g) : Own base e w (.slice (some ⟨g, 0, none⟩) 0 0) ([] : List α) :=
  ⟨by simp, .inr ⟨g, 0, #[], rfl, hb, h, Nat.le_refl _, by unfold maxLen; omega, by simp, by simp⟩⟩
theorem flat_notes {w : World} {B : Nat} {A : Option Addr} {n c : Nat} {xs : List NoteR} (h : Rd NoteAt 5 B w (.slice A n c) xs) (ad : Addr) (hA : A = some ad) :
    ∀ j u, (xs.flatMap (Enc.enc (α := NoteR)))[j]? = some u → w.cell? (ad.add j) = some u := by
  intro j u hj
  have hlt := (List.getElem?_eq_some_iff.1 hj).1
  rw [flat_len] at hlt
  have hi : j / 5 < xs.length := by omega
  obtain ⟨A', cap', e, h1, h2, h3⟩ := h
  obtain ⟨ad', e2, hb, ha⟩ := h3 (j / 5) xs[j / 5] (List.getElem?_eq_getElem hi)
  injection e with e e' e''
  subst e
  rw [hA] at e2
  injection e2 with e2
  subst e2
  have hlt4 : j % 5 < 5 := Nat.mod_lt _ (by omega)
  have hfl : ∃ v, (Enc.enc (α := NoteR) xs[j / 5])[j % 5]? = some v := ⟨_, List.getElem?_eq_getElem (by rw [Enc.len (α := NoteR)]; exact hlt4)⟩
  obtain ⟨v, hv⟩ := hfl
  have := flat_at (xs := xs) (i := j / 5) (List.getElem?_eq_getElem hi) hv
  rw [show j / 5 * 5 + j % 5 = j by omega, hj] at this
  cases this
  have hadd : ∀ k, 0 < k → (⟨(ad.add (j / 5 * 5)).block, (ad.add (j / 5 * 5)).off + k, none⟩ : Addr) = ad.add (j / 5 * 5 + k) := by
    intro k hk
    unfold Addr.add
    rw [if_neg (show ¬ j / 5 * 5 + k = 0 by omega)]
    split
    · rename_i h0; simp
    · simp [Nat.add_assoc]
  obtain ⟨a0, a1, a2, a3, a4⟩ := ha
  rw [hadd 1 (by omega)] at a1
  rw [hadd 2 (by omega)] at a2
  rw [hadd 3 (by omega)] at a3
  rw [hadd 4 (by omega)] at a4
  have hj4 : j = j / 5 * 5 + j % 5 := by omega
  generalize xs[j / 5] = o at *
  generalize hq : j / 5 * 5 = q at *
  generalize hr : j % 5 = r at *
  subst hj4
  match r, hlt4, hv with
  | 0, _, hv => simp [Enc.enc] at hv; subst hv; exact a0
  | 1, _, hv => simp [Enc.enc] at hv; subst hv; exact a1
  | 2, _, hv => simp [Enc.enc] at hv; subst hv; exact a2
  | 3, _, hv => simp [Enc.enc] at hv; subst hv; exact a3
  | 4, _, hv => simp [Enc.enc] at hv; subst hv; exact a4
set_option maxRecDepth 100000 in
/-- notes more -/
theorem append_notes {base B : Nat} {w : World} {v : Value} {xs ys : List NoteR} {A : Option Addr} {c : Nat} (h : Own base 69 w v xs) (hr : Rd NoteAt 5 B w (.slice A ys.length c) ys) (hn : xs.length + ys.length ≤ 100000) (hbase : base ≤ w.heap.size) :
    ∃ A' c' w', (Builtin.append_ #[23, 23] 23 #[v, .slice A ys.length c]).run Tryz.prog w = .ok (.slice A' (xs.length + ys.length) c') w' ∧ Own base 69 w' (.slice A' (xs.length + ys.length) c') (xs ++ ys) ∧ Below base w w' ∧ w.grownBy w' v.ownBlock := by
  obtain ⟨i, hi, hi2⟩ := Option.map_eq_some_iff.1 (show (Tryz.prog.info? 69).map (fun i => (i.size, i.bytes, i.zero.map (·.cells.size))) = some (5, 40, some 5) by kernel_rfl)
  simp only [Prod.mk.injEq] at hi2
  obtain ⟨hsize, hby, hz0⟩ := hi2
  obtain ⟨z, hz, hzs⟩ := Option.map_eq_some_iff.1 hz0
  have ht : Tryz.prog.underlying 23 = some (.slice 69) := by kernel_rfl
  have hr0 := hr
  obtain ⟨A0, c0, e0, _, _, hcell⟩ := hr
  injection e0 with e1 e2 e3
  subst e1 e3
  cases A with
  | none =>
    have hy : ys = [] := by
      cases ys with
      | nil => rfl
      | cons y ys => obtain ⟨ad, e, _⟩ := hcell 0 y rfl; cases e
    subst hy
    have hrun := run_append_nil (ty := 23) ht hi h c
    obtain ⟨A, c1, rfl, _⟩ := h.form
    exact ⟨A, c1, w, hrun, by simpa using h, Below.refl _ _, ⟨rfl, rfl, rfl, Nat.le_refl _, fun _ _ _ => rfl⟩⟩
  | some ad =>
    obtain ⟨v', w', hrun, h2, h3, _, _⟩ := run_append_own_at (P := Tryz.prog) w base 23 23 69 i z 5 40 ht hi hz hsize hby hzs (by omega) v xs.length (xs.flatMap Enc.enc) h
      ad ys.length c (ys.flatMap Enc.enc) (by rw [flat_len]) (flat_notes hr0 ad rfl)
      (fun u hu => by
        obtain ⟨o, _, ho⟩ := List.mem_flatMap.1 hu
        simp only [Enc.enc, List.mem_cons, List.not_mem_nil, or_false] at ho
        rcases ho with rfl | rfl | rfl | rfl | rfl <;> rfl) (by unfold maxLen; omega) (by omega) hbase
    have h4 : Own base 69 w' v' (xs ++ ys) := Own.of_append rfl h2
    obtain ⟨A, c1, rfl, hc1, hc2⟩ := h4.form
    rw [List.length_append] at hrun h4
    have hb2 := (h.grown h3).resolve_right (by omega)
    exact ⟨A, c1, w', hrun, h4, hb2, h3⟩

theorem span_any (a b : Int) (w : World) : Calls Tryz.prog 43 #[.int .i64 a, .int .i64 b] w fun e w' => e = .returned (.agg #[.int .i64 a, .int .i64 b]) ∧ Below w.heap.size w w' := by
  go_enter Tryz.func43, Tryz.ntmps43
  go_wp2
  exact bodyPost_ret (v := .agg #[.int .i64 a, .int .i64 b]) (by simp [results, Tryz.results43, go_sem]) rfl ⟨rfl, (Below.refl _ _).alloc (Nat.le_refl _) _⟩
theorem lnote_any (k a b lo hi : Int) (w : World) : Calls Tryz.prog 50 #[.int .i64 k, .int .i64 a, .int .i64 b, .int .i64 lo, .int .i64 hi] w fun e w' => e = .returned (.agg #[.int .i64 k, .int .i64 a, .int .i64 b, .int .i64 lo, .int .i64 hi]) ∧ Below w.heap.size w w' := by
  obtain ⟨W1, hW1, r1, z1, b1⟩ := box_any w #[.int .i64 0, .int .i64 0, .int .i64 0, .int .i64 0, .int .i64 0] 69
  have HB := Lib.hid b1
  have HR := Lib.hid r1
  clear r1 z1 b1
  go_enter Tryz.func50, Tryz.ntmps50
  go_upto_region 1 with (fail)
  rw [← hW1]
  clear hW1
  go_wp2_with (first | (go_at_call 43; refine (span_any _ _ _).mono ?_; rintro e w2 ⟨rfl, hb2⟩) | (refine wpList_store_row rfl 69 (.tmp 10) (.tmp 17) rfl w.heap.size #[.int .i64 k, .int .i64 a, .int .i64 b, .int .i64 lo, .int .i64 hi] rfl rfl 69 _ ((hb2.block _ (lt_of_block HR.out)).trans HR.out) (by kernel_rfl) rfl (by simp [Value.oneCell']) ?_))
  have k2 := (hb2.block _ (lt_of_block HR.out)).trans HR.out
  have k3 := setRow_heap w2 w.heap.size _ #[.int .i64 k, .int .i64 a, .int .i64 b, .int .i64 lo, .int .i64 hi] 69 (0, 0) k2
  have hbw : Below w.heap.size w (w2.setRow w.heap.size #[.int .i64 k, .int .i64 a, .int .i64 b, .int .i64 lo, .int .i64 hi]) := HB.out.trans ((hb2.mono HB.out.size).trans (setRow_below _ (Nat.le_refl _)))
  refine bodyPost_ret (v := .agg #[.int .i64 k, .int .i64 a, .int .i64 b, .int .i64 lo, .int .i64 hi]) (results_cell_row rfl _ _ w.heap.size 69 #[.int .i64 k, .int .i64 a, .int .i64 b, .int .i64 lo, .int .i64 hi] (0, 0) _ rfl k3 Tryz.underlying69 rfl (by kernel_rfl)) rfl ⟨rfl, hbw⟩
theorem steep_any (w : World) : Calls Tryz.prog 66 #[] w fun e w' => ∃ g, e = .returned (.slice (some ⟨g, 0, none⟩) 1 1) ∧ w.heap.size ≤ g ∧ Rd NoteAt 5 w'.heap.size w' (.slice (some ⟨g, 0, none⟩) 1 1) [⟨4, 1, 0, 0, 10⟩] ∧ Below w.heap.size w w' := by
  go_enter Tryz.func66, Tryz.ntmps66
  go_wp2_with (go_at_call 50; refine (lnote_any _ _ _ _ _ _).mono ?_; rintro e w2 ⟨rfl, hb2⟩)
  go_ret
  refine ⟨w2.heap.size, rfl, hb2.size, ?_, hb2.trans ((Below.refl _ _).alloc hb2.size _)⟩
  exact (own_lit (α := NoteR) (e := 69) [⟨4, 1, 0, 0, 10⟩] (by simp) (heap_alloc_new w2 _)).rd
theorem gentle_any (w : World) : Calls Tryz.prog 65 #[] w fun e w' => ∃ g, e = .returned (.slice (some ⟨g, 0, none⟩) 1 1) ∧ w.heap.size ≤ g ∧ Rd NoteAt 5 w'.heap.size w' (.slice (some ⟨g, 0, none⟩) 1 1) [⟨4, 1, 2, -40, -10⟩] ∧ Below w.heap.size w w' := by
  go_enter Tryz.func65, Tryz.ntmps65
  go_wp2_with (go_at_call 50; refine (lnote_any _ _ _ _ _ _).mono ?_; rintro e w2 ⟨rfl, hb2⟩)
  go_ret
  refine ⟨w2.heap.size, rfl, hb2.size, ?_, hb2.trans ((Below.refl _ _).alloc hb2.size _)⟩
  exact (own_lit (α := NoteR) (e := 69) [⟨4, 1, 2, -40, -10⟩] (by simp) (heap_alloc_new w2 _)).rd
/-- the text of S -/
def textX : ByteArray := ⟨#[115, 104, 101, 101, 116, 32, 49, 48, 48, 10, 112, 111, 105, 110, 116, 32, 116, 111, 114, 10, 112, 111, 105, 110, 116, 32, 109, 101, 114, 101, 10, 112, 111, 105, 110, 116, 32, 102, 111, 114, 100, 10, 112, 111, 105, 110, 116, 32, 100, 97, 109, 10, 115, 112, 111, 116, 32, 116, 111, 114, 32, 49, 49, 56, 48, 32, 49, 50, 48, 48, 10, 99, 111, 110, 116, 111, 117, 114, 32, 109, 101, 114, 101, 32, 57, 32, 49, 48, 10, 108, 97, 107, 101, 32, 100, 97, 109, 32, 109, 101, 114, 101, 10, 115, 108, 111, 112, 101, 32, 116, 111, 114, 32, 102, 111, 114, 100, 32, 50, 53, 48, 32, 51, 48, 48, 10]⟩
theorem text_lit (w : World) : Calls Tryz.prog 67 #[] w fun e w' => e = .returned (.string textX) ∧ w = w' := by
  go_enter Tryz.func67, Tryz.ntmps67
  go_wp2
  go_ret
  exact ⟨rfl, rfl⟩
/-- the sheet S of the examples, with further notes -/
def sheetX (l : List NoteR) : ShR := ⟨100, [⟨#[116, 111, 114]⟩, ⟨#[109, 101, 114, 101]⟩, ⟨#[102, 111, 114, 100]⟩, ⟨#[100, 97, 109]⟩], [⟨1, 0, 0, 1180, 1200⟩, ⟨2, 1, 0, 9, 10⟩, ⟨3, 3, 1, 0, 0⟩, ⟨4, 0, 2, 250, 300⟩] ++ l⟩
set_option maxRecDepth 100000 in
set_option maxHeartbeats 1000000 in
theorem sheet_any {B : Nat} {w : World} {A : Option Addr} {c : Nat} {l : List NoteR} (hl : Rd NoteAt 5 B w (.slice A l.length c) l) (hB : B ≤ w.heap.size) (hn : l.length ≤ 100) :
    Calls Tryz.prog 42 #[.slice A l.length c] w fun e w' => ∃ v, e = .returned v ∧ RdSh w'.heap.size w' v (sheetX l) ∧ Below w.heap.size w w' := by
  obtain ⟨W1, hW1, r1, z1, b1⟩ := box_any w #[.int .i64 0, .slice none 0 0, .slice none 0 0] 25
  obtain ⟨W2, hW2, r2, z2, b2⟩ := box_any W1 #[.string ⟨#[116, 111, 114]⟩, .string ⟨#[109, 101, 114, 101]⟩, .string ⟨#[102, 111, 114, 100]⟩, .string ⟨#[100, 97, 109]⟩] 9
  have HB := Lib.hid (b1.trans (b2.mono b1.size))
  have HR1 := Lib.hid ((b2.block _ (by omega)).trans r1)
  have HR2 := Lib.hid r2
  have HL := Lib.hid (fun (X : World) (h : Below W2.heap.size W2 X) => hl.below ((HB.out.trans (h.mono HB.out.size)).mono hB))
  have HW2 := Lib.hid hW2
  have HZ1 := Lib.hid z1
  have hc : Below W2.heap.size W2 W2 := Below.refl _ _
  clear r1 r2 z1 z2 b1 b2 hl hW2
  go_enter Tryz.func42, Tryz.ntmps42
  go_upto_region 1 with (fail)
  rw [← hW1]
  clear hW1
  go_wp2_with (first | (refine wpList_bs rfl 4 _ rfl (vs := #[(0, .string ⟨#[116, 111, 114]⟩), (1, .string ⟨#[109, 101, 114, 101]⟩), (2, .string ⟨#[102, 111, 114, 100]⟩), (3, .string ⟨#[100, 97, 109]⟩)]) rfl (run_bs4 _ _ _ _ _) ?_; rw [← HW2.out]; simp only [Act.put, List.setIfInBounds_toArray, List.set_cons_succ, List.set_cons_zero]) | (go_at_call 50; refine (lnote_any _ _ _ _ _ _).mono ?_; rintro e w3 ⟨rfl, hb3⟩; replace hc := hc.trans (hb3.mono hc.size); clear hb3) | (obtain ⟨A', c', w', hrun, hown, hbl, hgr⟩ := append_notes (base := w3.heap.size) (own_lit (α := NoteR) (e := 69) [⟨1, 0, 0, 1180, 1200⟩, ⟨2, 1, 0, 9, 10⟩, ⟨3, 3, 1, 0, 0⟩, ⟨4, 0, 2, 250, 300⟩] (by simp) (heap_alloc_new w3 _)) ((HL.out _ hc).alloc (Nat.le_trans hB (Nat.le_trans HB.out.size hc.size)) _) (by simp; omega) (by simp); have hrow : w'.heap[w.heap.size]? = some (.cells #[.int .i64 0, .slice none 0 0, .slice none 0 0] 25) := (hbl.block _ (Nat.lt_of_lt_of_le (lt_of_block HR1.out) hc.size)).trans ((Below.heap_alloc _ _ _ (Nat.lt_of_lt_of_le (lt_of_block HR1.out) hc.size)).trans ((hc.block _ (lt_of_block HR1.out)).trans HR1.out)); have HRw := Lib.hid hrow; clear hrow; refine wpList_append_run rfl (.tmp 8) (.tmp 9) 23 rfl rfl rfl hrun ?_; clear hrun) | (refine wpList_store_row rfl 25 (.tmp 2) (.tmp 11) rfl w.heap.size #[.int .i64 100, .slice (some ⟨W1.heap.size, 0, none⟩) 4 4, .slice A' (4 + l.length) c'] rfl rfl 25 _ HRw.out (by kernel_rfl) rfl (by simp [Value.oneCell']) ?_))
  have hne : W1.heap.size ≠ w.heap.size := by rw [HZ1.out]; omega
  have k3 := setRow_heap w' w.heap.size _ #[.int .i64 100, .slice (some ⟨W1.heap.size, 0, none⟩) 4 4, .slice A' (4 + l.length) c'] 25 (0, 0) HRw.out
  have kp : (w'.setRow w.heap.size #[.int .i64 100, .slice (some ⟨W1.heap.size, 0, none⟩) 4 4, .slice A' (4 + l.length) c']).heap[W1.heap.size]? = _ := (setRow_other _ _ _ _ hne).trans ((hbl.block _ (Nat.lt_of_lt_of_le (lt_of_block HR2.out) hc.size)).trans ((Below.heap_alloc _ _ _ (Nat.lt_of_lt_of_le (lt_of_block HR2.out) hc.size)).trans ((hc.block _ (lt_of_block HR2.out)).trans HR2.out)))
  have hw1 : w.heap.size < w3.heap.size := Nat.lt_of_lt_of_le (lt_of_block HR1.out) hc.size
  have hfin : Below w.heap.size w (w'.setRow w.heap.size #[.int .i64 100, .slice (some ⟨W1.heap.size, 0, none⟩) 4 4, .slice A' (4 + l.length) c']) := by
    refine HB.out.trans ((hc.mono HB.out.size).trans (Below.trans (((Below.refl w.heap.size w3).alloc (by omega) _).trans (hbl.mono (by omega))) (setRow_below _ (Nat.le_refl _))))
  refine bodyPost_ret (v := .agg #[.int .i64 100, .slice (some ⟨W1.heap.size, 0, none⟩) 4 4, .slice A' (4 + l.length) c']) (results_cell_row rfl _ _ w.heap.size 25 #[.int .i64 100, .slice (some ⟨W1.heap.size, 0, none⟩) 4 4, .slice A' (4 + l.length) c'] (0, 0) _ rfl k3 Tryz.underlying25 rfl (by kernel_rfl)) rfl ⟨_, rfl, ⟨_, _, rfl, ?_, ?_⟩, hfin⟩
  · exact (own_lit (α := ByteArray) (e := 9) [⟨#[116, 111, 114]⟩, ⟨#[109, 101, 114, 101]⟩, ⟨#[102, 111, 114, 100]⟩, ⟨#[100, 97, 109]⟩] (by simp) kp).rd
  · refine Own.rd (base := w3.heap.size) (e := 69) (Own.keepD hown fun b cs f hb hh => (setRow_other _ _ _ _ (by omega)).trans hh)
end Go.Proofs.YtajdgdelhlfniaaGreatDoor
namespace Go.Proofs.YtajdgdelhlfniaaGreatDoor

def stX : NoteR := ⟨4, 1, 0, 0, 10⟩
def gnX : NoteR := ⟨4, 1, 2, -40, -10⟩
theorem errS : errOf (sheetX []) = 0 := by kernel_rfl
theorem errB : errOf (sheetX [stX]) = 0 := by kernel_rfl
theorem errT : errOf (sheetX [gnX]) = 0 := by kernel_rfl
theorem ptS : ∀ x ∈ (sheetX []).notes, PtOK x := by unfold PtOK; decide
theorem ptB : ∀ x ∈ (sheetX [stX]).notes, PtOK x := by unfold PtOK; decide
theorem ptT : ∀ x ∈ (sheetX [gnX]).notes, PtOK x := by unfold PtOK; decide
theorem okS : (boundsF (sheetX []) 0).2 = true := (rep_all rep_free ptS).2.trans (by kernel_rfl)
theorem okT : (boundsF (sheetX [gnX]) 0).2 = true := (rep_all rep_free ptT).2.trans (by kernel_rfl)
theorem noB : (boundsF (sheetX [stX]) 0).2 = false := (rep_all rep_free ptB).2.trans (by kernel_rfl)
theorem openS : openE (sheetX []) = 0 := by rw [openE_ok errS, okS]; rfl
theorem openT : openE (sheetX [gnX]) = 0 := by rw [openE_ok errT, okT]; rfl
theorem openB : openE (sheetX [stX]) = 9 := by rw [openE_ok errB, noB]; rfl
theorem fitS : fitsB (sheetX []) = true := by unfold fitsB; rw [openS]; rfl
theorem fitB : fitsB (sheetX [stX]) = false := by unfold fitsB; rw [openB]; rfl
theorem heiT_l : [(- atL (allL 100 0 (sheetX [gnX]).notes freeL).1 0 8, atL (allL 100 0 (sheetX [gnX]).notes freeL).1 8 0), (- atL (allL 100 0 (sheetX [gnX]).notes freeL).1 1 8, atL (allL 100 0 (sheetX [gnX]).notes freeL).1 8 1), (- atL (allL 100 0 (sheetX [gnX]).notes freeL).1 2 8, atL (allL 100 0 (sheetX [gnX]).notes freeL).1 8 2), (- atL (allL 100 0 (sheetX [gnX]).notes freeL).1 3 8, atL (allL 100 0 (sheetX [gnX]).notes freeL).1 8 3)] = [(1180, 1200), (900, 940), (910, 950), (900, 940)] := by kernel_rfl
theorem heiT : heightsF (sheetX [gnX]) = [(1180, 1200), (900, 940), (910, 950), (900, 940)] := by
  unfold heightsF
  rw [if_neg (by simp [openT])]
  have h := (rep_all (iv := 100) (wd := 0) rep_free ptT).1
  have e : openM (sheetX [gnX]) = (allM 100 0 (sheetX [gnX]).notes freeM).1 := by unfold openM; rw [if_neg (by simp [errT])]; rfl
  rw [e]
  unfold spansL
  rw [show (sheetX [gnX]).pts.length = 4 from rfl, show List.range 4 = [0, 1, 2, 3] from rfl]
  simp only [List.map_cons, List.map_nil]
  rw [h 0 8 (by decide) (by decide), h 8 0 (by decide) (by decide), h 1 8 (by decide) (by decide), h 8 1 (by decide) (by decide), h 2 8 (by decide) (by decide), h 8 2 (by decide) (by decide), h 3 8 (by decide) (by decide), h 8 3 (by decide) (by decide)]
  exact heiT_l
theorem heiB : heightsF (sheetX [stX]) = [] := by unfold heightsF; rw [if_pos (by simp [openB])]
theorem apaT_l : ((- atL (allL 100 0 (sheetX [gnX]).notes freeL).1 2 1, atL (allL 100 0 (sheetX [gnX]).notes freeL).1 1 2), orderF (- atL (allL 100 0 (sheetX [gnX]).notes freeL).1 2 1) (atL (allL 100 0 (sheetX [gnX]).notes freeL).1 1 2), (0 : Int)) = ((10, 40), 2, 0) := by kernel_rfl
theorem apaT : apartF (sheetX [gnX]) 2 1 = ((10, 40), 2, 0) := by
  unfold apartF
  rw [if_neg (by simp [errT]), if_neg (by decide), if_neg (by simp [openT])]
  have h := (rep_all (iv := 100) (wd := 0) rep_free ptT).1
  have e : openM (sheetX [gnX]) = (allM 100 0 (sheetX [gnX]).notes freeM).1 := by unfold openM; rw [if_neg (by simp [errT])]; rfl
  rw [e, show (2 : Int).toNat = 2 from rfl, show (1 : Int).toNat = 1 from rfl, h 2 1 (by decide) (by decide), h 1 2 (by decide) (by decide)]
  exact apaT_l
theorem proB : proofF (sheetX [stX]) = [0, 1, 4] := by
  unfold proofF
  rw [if_neg (by simp [errB]), if_neg (by simp [fitB])]
  unfold searchF
  rw [rep_try ptB _ _ _ _ _ _ (Nat.le_refl _) rep_free]
  kernel_rfl
theorem proEB : proofE (sheetX [stX]) = 0 := by unfold proofE; rw [if_neg (by simp [errB]), if_neg (by simp [fitB])]
theorem proES : proofE (sheetX []) = 4 := by unfold proofE; rw [if_neg (by simp [errS]), if_pos fitS]
theorem proS : proofF (sheetX []) = [] := by unfold proofF; rw [if_neg (by simp [errS]), if_pos fitS]
theorem wroB : wrongF (sheetX [stX]) = [0] := by
  unfold wrongF
  rw [if_neg (by simp [errB])]
  unfold searchF
  rw [rep_try ptB _ _ _ _ _ _ (Nat.le_refl _) rep_free]
  kernel_rfl
theorem wriS : (⟨(writeF (sheetX [])).toArray⟩ : ByteArray) = textX := by kernel_rfl
theorem reaS : readF textX = (sheetX [], 0) := by kernel_rfl
end Go.Proofs.YtajdgdelhlfniaaGreatDoor
namespace Go.Proofs.YtajdgdelhlfniaaGreatDoor

/-- a truth of notes that are wider -/
def TruthOf (s : ShR) (wd : Int) (y : Nat → Int) : Prop := Sol 9 freeM y ∧ ∀ x ∈ s.notes, Says s.iv wd x y
theorem bounds_fine {s : ShR} (hg : Good s) (wd : Int) : Fine (boundsF s wd).1 := allM_fine hg.plen.2 (fun x hx => hg.notes x hx) free_fine
theorem bounds_sol {s : ShR} (hg : Good s) {wd : Int} (h : (boundsF s wd).2 = true) (y : Nat → Int) : Sol 9 (boundsF s wd).1 y ↔ TruthOf s wd y := allM_sol hg.plen.2 (fun x hx => hg.notes x hx) free_fine h y
theorem fit_iff {s : ShR} (hg : Good s) (wd : Int) : (boundsF s wd).2 = true ↔ ∃ y, TruthOf s wd y := by
  constructor
  · intro h
    obtain ⟨y, hy, _⟩ := (bounds_fine hg wd).closed.reach (i := 0) (k := 0) (by omega) (by omega)
    exact ⟨y, (bounds_sol hg h y).1 hy⟩
  · rintro ⟨y, hy⟩
    cases h : (boundsF s wd).2 with
    | true => rfl
    | false => exact absurd hy (allM_no hg.plen.2 (fun x hx => hg.notes x hx) free_fine h y)
theorem Says.wider {iv wd wd' : Int} {x : NoteR} {y : Nat → Int} (h : Says iv wd x y) (hw : wd ≤ wd') : Says iv wd' x y := by
  unfold Says at *
  omega
theorem TruthOf.wider {s : ShR} {wd wd' : Int} {y : Nat → Int} (h : TruthOf s wd y) (hw : wd ≤ wd') : TruthOf s wd' y := ⟨h.1, fun x hx => (h.2 x hx).wider hw⟩
theorem fit_mono {s : ShR} (hg : Good s) {wd wd' : Int} (h : (boundsF s wd).2 = true) (hw : wd ≤ wd') : (boundsF s wd').2 = true := by
  obtain ⟨y, hy⟩ := (fit_iff hg wd).1 h
  exact (fit_iff hg wd').2 ⟨y, hy.wider hw⟩
theorem isWider_eq {s : ShR} (hg : Good s) {n k : Int} (h : IsWider s n) (hk0 : 0 ≤ k) (hk : k ≤ 9000) (hy : (boundsF s k).2 = true) (hn : k = 0 ∨ (boundsF s (k - 1)).2 = false) : n = k := by
  have h0 := h.ge
  have h9 := h.le
  have hyes := h.yes
  have hno := h.no
  rcases Int.lt_trichotomy n k with hlt | he | hgt
  · exfalso
    rcases hyes with rfl | hyes
    · omega
    · rcases hn with rfl | hn
      · omega
      · have := fit_mono hg hyes (wd' := k - 1) (by omega)
        rw [hn] at this; cases this
  · exact he
  · exfalso
    rcases hno with rfl | hno
    · omega
    · have := fit_mono hg hy (wd' := n - 1) (by omega)
      rw [hno] at this; cases this
theorem goodB : Good (sheetX [stX]) := good_of_valid errB
theorem widB {n : Int} (h : IsWider (sheetX [stX]) n) : n = 60 :=
  isWider_eq goodB h (by omega) (by omega) ((rep_all rep_free ptB).2.trans (by kernel_rfl)) (.inr ((rep_all rep_free ptB).2.trans (by kernel_rfl)))
end Go.Proofs.YtajdgdelhlfniaaGreatDoor
