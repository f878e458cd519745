/- Walks of the layer order: valid, Chosen and can of the laws. -/
import Derived.Test.YtkmaapkbonkjfaaLawA
import Derived.Test.YtkmaapkbonkjfaaPick
set_option linter.unusedSimpArgs false
set_option linter.unusedVariables false
namespace Go.Proofs.Ytkmaapkbonkjfaa
open Go.RowKit

theorem valid_any {B : Nat} {w : World} {v : Value} {s : ShopR} (hs : RdShop B w v s) (hn : ∀ p ∈ s.parts, p.name.size ≤ 9223372036854775807) (hB : B ≤ w.heap.size) :
    Calls Try.prog 36 #[v] w fun e w' => e = .returned (.bool (errOf s == 0)) ∧ Below w.heap.size w w' := by
  obtain ⟨vh, vp, vo, rfl, ⟨Ah, ch, rfl, _⟩, ⟨Ap, cp, rfl, _⟩, ⟨Ao, co, rfl, _⟩⟩ := id hs
  obtain ⟨W, hW, c0, c1, c2, hz, hb, _⟩ := shop_box w (.slice Ah s.hours.length ch) (.slice Ap s.parts.length cp) (.slice Ao s.orders.length co)
  have hq := Lib.hid (rcheck_any (hs.below (hb.mono hB)) hn (Nat.le_trans hB hb.size))
  have Hb := Lib.hid hb
  unfold checkV at hq
  rw [show (check s).2.2 = errOf s from rfl] at hq
  generalize errOf s = E at *
  generalize (check s).2.1 = n2 at *
  generalize (check s).1 = n1 at *
  go_enter Try.func36, Try.ntmps36
  go_upto_region 1 with (fail)
  rw [← hW]
  clear hW hz hb hs
  go_wp2_with (go_at_call 17; refine hq.out.mono ?_; rintro e wx ⟨rfl, hbx⟩; have HX := Lib.hid hbx; clear hbx)
  go_ret
  exact ⟨rfl, Hb.out.trans (HX.out.mono Hb.out.size)⟩

theorem byte_test (x k : Nat) (hx : x < 256) : (((x : Int) / 2 ^ min k 8).tmod 2 == 1) = x.testBit k := by
  have h : ∀ j : Nat, (((x : Int) / 2 ^ j).tmod 2 == 1) = x.testBit j := fun j => by
    have e : (x : Int) / 2 ^ j = ((x / 2 ^ j : Nat) : Int) := by rw [Int.natCast_ediv, Int.natCast_pow]; rfl
    rw [e, Nat.testBit_eq_decide_div_mod_eq]
    generalize x / 2 ^ j = n
    have e2 : ((n : Nat) : Int).tmod 2 = ((n % 2 : Nat) : Int) := by
      rw [Int.tmod_eq_emod_of_nonneg (Int.natCast_nonneg _)]; omega
    rw [e2]
    by_cases h1 : n % 2 = 1
    · simp [h1]
    · have : n % 2 = 0 := by omega
      simp [this]
  rw [h]
  by_cases hk : k ≤ 8
  · rw [Nat.min_eq_left hk]
  · rw [Nat.min_eq_right (by omega), Nat.testBit_lt_two_pow (by omega), Nat.testBit_lt_two_pow]
    exact Nat.lt_of_lt_of_le hx (Nat.pow_le_pow_right (n := 2) (by omega) (show 8 ≤ k by omega))
theorem upTo_short (x k : Nat) (hx : x < 256) : (upTo x k).length ≤ 8 := by
  by_cases h : k ≤ 8
  · exact Nat.le_trans (upTo_le x k) h
  · have h8 := lenB_le x hx
    rw [upTo_len x k (by omega)]
    exact Nat.le_trans (upTo_le x _) h8
set_option maxRecDepth 100000 in
theorem chosen_any {B : Nat} {w : World} {v : Value} {s : ShopR} (hs : RdShop B w v s) (hB : B ≤ w.heap.size) (x : Nat) (hx : x < 256) :
    Calls Try.prog 37 #[v, .int .u8 x] w fun e w' => ∃ A c, e = .returned (.slice A (upTo x s.orders.length).length c) ∧ Rd IntAt 1 w'.heap.size w' (.slice A (upTo x s.orders.length).length c) (upTo x s.orders.length) ∧ Below w.heap.size w w' := by
  obtain ⟨vh, vp, vo, rfl, ⟨Ah, ch, rfl, _⟩, ⟨Ap, cp, rfl, _⟩, ⟨Ao, co, rfl, hol, hoc, _⟩⟩ := id hs
  obtain ⟨W, hW, c0, c1, c2, hz, hb, _⟩ := shop_box w (.slice Ah s.hours.length ch) (.slice Ap s.parts.length cp) (.slice Ao s.orders.length co)
  have Hb := Lib.hid hb
  have C2 := Lib.hid c2
  generalize s.orders.length = n at *
  go_enter Try.func37, Try.ntmps37
  go_upto_region 1 with (fail)
  rw [← hW]
  clear hW hz hb hs c0 c1 c2
  go_wp2
  go_loopw [5, 6] (fun lv i wr => ∃ (k : Nat) (A : Option Addr) (c : Nat), k ≤ n ∧ i = .int .i64 k ∧ lv = .slice A (upTo x k).length c ∧ Own W.heap.size 3 wr (.slice A (upTo x k).length c) (upTo x k) ∧ Below W.heap.size W wr) (fun _ i _ => n - (intOf i).toNat)
  case atStart => exact ⟨0, none, 0, Nat.zero_le _, rfl, rfl, Own.nil _ _ _, Below.refl _ _⟩
  case round =>
    obtain ⟨k, A, c, hk, rfl, rfl, hown, hbr⟩ := hrel
    have c2 := (hbr.cell (cell_lt C2.out)).trans C2.out
    by_cases hlt : k < n
    · have hba := byte_test x k hx
      have hsn := upTo_succ x k
      have hll := upTo_short x k hx
      have Hsn := Lib.hid hsn
      have hsz := hbr.size
      clear hsn
      cases hbit : x.testBit k with
      | true =>
        rw [hbit] at hba Hsn
        obtain ⟨A2, c2', w2, hrun, hown2, hb2, _⟩ := append_int hown (k : Int) (by omega) hsz
        have Hown := Lib.hid hown2
        have Hb2 := Lib.hid (hbr.trans hb2)
        clear hown hbr hown2 hb2 hbit
        generalize upTo x k = u at *
        go_wp2_with (at_builtin; refine wpList_append_run rfl _ _ _ rfl rfl rfl hrun ?_)
        go_roundw
        case rel =>
          refine ⟨k + 1, A2, c2', by omega, by go_num, ?_, ?_, Hb2.out⟩
          · rw [Hsn.out]; simp
          · rw [Hsn.out]; simpa using Hown.out
        case measure => simp [intOf]; omega
      | false =>
        rw [hbit] at hba Hsn
        have Hown := Lib.hid hown
        have Hb2 := Lib.hid hbr
        clear hown hbr hbit
        generalize upTo x k = u at *
        go_wp2
        go_roundw
        case rel =>
          refine ⟨k + 1, A, c, by omega, by go_num, ?_, ?_, Hb2.out⟩
          · rw [Hsn.out]; simp
          · rw [Hsn.out]; simpa using Hown.out
        case measure => simp [intOf]; omega
    · have hkm : k = n := by omega
      subst hkm
      have Hown := Lib.hid hown
      have Hb2 := Lib.hid hbr
      clear hown hbr
      go_wp2
      go_ret
      exact ⟨A, c, rfl, Hown.out.rd, Hb.out.trans (Hb2.out.mono Hb.out.size)⟩

def canV (s : ShopR) (t : List Int) : Value := .tuple #[.bool (decide ((lateF s t).2.2 = 4)), .bool (decide ((lateF s t).2.2 = 4 ∨ (lateF s t).2.2 = 0))]
theorem lcan_any {B : Nat} {w : World} {v vt : Value} {s : ShopR} {t : List Int} (h : Given B w v vt s t) :
    Calls Try.prog 38 #[v, vt] w fun e w' => e = .returned (canV s t) ∧ Below w.heap.size w w' := by
  obtain ⟨Ah, ch, Ap, cp, Ao, co, At_, ct, rfl, rfl⟩ := h.form
  obtain ⟨W, hW, c0, c1, c2, hz, hb, _⟩ := shop_box w (.slice Ah s.hours.length ch) (.slice Ap s.parts.length cp) (.slice Ao s.orders.length co)
  have hq := Lib.hid (plate_any (h.below hb))
  have Hb := Lib.hid hb
  unfold lateFV at hq
  have hcv : canV s t = .tuple #[.bool (decide ((lateF s t).2.2 = 4)), .bool (decide ((lateF s t).2.2 = 4 ∨ (lateF s t).2.2 = 0))] := rfl
  rw [hcv]
  clear hcv
  generalize lateF s t = lf at *
  obtain ⟨l1, l2, l3⟩ := lf
  simp only at hq ⊢
  by_cases h4 : l3 = 4
  · subst h4
    go_enter Try.func38, Try.ntmps38
    go_upto_region 1 with (fail)
    rw [← hW]
    clear hW hz hb h
    go_wp2_with (go_at_call 18; refine hq.out.mono ?_; rintro e wx ⟨rfl, hbx⟩; have HX := Lib.hid hbx; clear hbx)
    go_ret2
    exact ⟨by simp, Hb.out.trans (HX.out.mono Hb.out.size)⟩
  · have h4b : (l3 == 4) = false := by simpa using h4
    by_cases h0 : l3 = 0
    · subst h0
      go_enter Try.func38, Try.ntmps38
      go_upto_region 1 with (fail)
      rw [← hW]
      clear hW hz hb h
      go_wp2_with (go_at_call 18; refine hq.out.mono ?_; rintro e wx ⟨rfl, hbx⟩; have HX := Lib.hid hbx; clear hbx)
      go_ret2
      exact ⟨by simp, Hb.out.trans (HX.out.mono Hb.out.size)⟩
    · have h0b : (l3 == 0) = false := by simpa using h0
      have H4 := Lib.hid h4
      have H0 := Lib.hid h0
      clear h4 h0
      go_enter Try.func38, Try.ntmps38
      go_upto_region 1 with (fail)
      rw [← hW]
      clear hW hz hb h
      go_wp2_with (go_at_call 18; refine hq.out.mono ?_; rintro e wx ⟨rfl, hbx⟩; have HX := Lib.hid hbx; clear hbx)
      go_ret2
      exact ⟨by simp [H4.out, H0.out], Hb.out.trans (HX.out.mono Hb.out.size)⟩
end Go.Proofs.Ytkmaapkbonkjfaa
