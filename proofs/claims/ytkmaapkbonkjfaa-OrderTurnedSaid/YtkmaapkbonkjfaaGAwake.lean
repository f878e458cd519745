/- Walks of the layer order: Awake. -/
import Derived.Test.YtkmaapkbonkjfaaGAt
set_option linter.unusedSimpArgs false
set_option linter.unusedVariables false
namespace Go.Proofs.Ytkmaapkbonkjfaa
open Go.RowKit

section
variable {w : World} {A : Option Addr} {m c : Nat}
theorem ints_at {l : List Int} (h : Rd IntAt 1 w.heap.size w (.slice A m c) l) (ys : List Int) {cs : Array Value} (hcs : litC ys = cs) {n : Nat} (hn : ys.length = n) (hy : ys.length ≤ 1000) (he : l = ys) :
    Calls Try.prog 22 #[.slice A m c, .slice (some ⟨w.heap.size, 0, none⟩) n n] (w.alloc (.cells cs 3)) fun e w' => e = .returned (.bool true) ∧ Below w.heap.size w w' := by
  subst hcs hn he
  refine (ints_any (h.alloc (Nat.le_refl _) _) (lit_rd w l hy) (by omega)).mono ?_
  rintro e w' ⟨rfl, hq⟩
  exact ⟨by simp, alloc_below (hq.below _)⟩
theorem same_at {l : List (Int × Int)} (h : Rd CastAt 2 w.heap.size w (.slice A m c) l) {cs : Array Value} (hcs : (l.flatMap (Enc.enc (α := Int × Int))).toArray = cs) {n : Nat} (hn : l.length = n) (hy : l.length ≤ 1000) :
    Calls Try.prog 26 #[.slice A m c, .slice (some ⟨w.heap.size, 0, none⟩) n n] (w.alloc (.cells cs 55)) fun e w' => e = .returned (.bool true) ∧ Below w.heap.size w w' := by
  subst hcs hn
  have hl := (own_lit (α := Int × Int) (w := w.alloc (.cells (l.flatMap (Enc.enc (α := Int × Int))).toArray 55)) (b := w.heap.size) (e := 55) l hy (heap_alloc_new w _)).rd
  refine (same_any (h.alloc (Nat.le_refl _) _) hl (by omega)).mono ?_
  rintro e w' ⟨rfl, hq⟩
  exact ⟨by simp, alloc_below (hq.below _)⟩
end

set_option maxRecDepth 100000 in
set_option maxHeartbeats 2000000 in
theorem awake_any (w : World) : Calls Try.prog 23 #[] w fun e w' => e = .returned (.bool true) ∧ Below w.heap.size w w' := by
  go_enter Try.func23, Try.ntmps23
  go_upto_region 2 with (go_at_call 35; refine (shop_any _).mono ?_; rintro e W1 ⟨a, b, c, rfl, hS, hb⟩; have HS := Lib.hid hS; have HB := Lib.hid hb; clear hS hb)
  obtain ⟨W2, hW2, r2, z2, b2⟩ := box_any W1 #[.slice (some a) 5 5, .slice (some b) 2 2, .slice (some c) 4 4] 26
  rw [← hW2]
  have HA := Lib.hid (show AwS w W1.heap.size W1.heap.size a b c W2 from ⟨HS.out.below b2, by omega, r2, HB.out.trans (b2.mono HB.out.size)⟩)
  obtain ⟨c0, c1, c2⟩ := HA.out.cells
  clear hW2 r2 z2 b2
  go_upto_region 3 with (go_at_call 18; refine (late_at HA.out.shop shopX_names HA.out.hB [0, 1, 2, 3] (by simp) rfl rfl xl_0123).mono ?_; rintro e w3 ⟨rfl, hb⟩; have HA := Lib.hid (HA.out.next hb); obtain ⟨c0, c1, c2⟩ := HA.out.cells; clear hb)
  go_upto_region 4 with (go_at_call 20; refine (needed_at (m := 2) HA.out.shop shopX_names HA.out.hB [0, 1, 2] (by simp) rfl rfl xn_012 rfl).mono ?_; rintro e w4 ⟨AHN, cHN, rfl, hr, hb⟩; have HA := Lib.hid (HA.out.next hb); obtain ⟨c0, c1, c2⟩ := HA.out.cells;  have HN := Lib.hid hr; clear hb hr)
  go_upto_region 5 with (go_at_call 24; refine (plan_at (m := 4) HA.out.shop shopX_names HA.out.hB [0, 1, 2] (by simp) rfl rfl xp_012 rfl).mono ?_; rintro e w5 ⟨AHP, cHP, rfl, hr, hb⟩; have HA := Lib.hid (HA.out.next hb); obtain ⟨c0, c1, c2⟩ := HA.out.cells; have HN := Lib.hid (HN.out.next hb);  have HP := Lib.hid hr; clear hb hr)
  go_upto_region 6 with (go_at_call 27; refine (kept_at (m := 5) HA.out.shop shopX_names HA.out.hB [0, 1, 2] (by simp) rfl rfl 1 xk_012_1 rfl).mono ?_; rintro e w6 ⟨AHK, cHK, rfl, hr, hb⟩; have HA := Lib.hid (HA.out.next hb); obtain ⟨c0, c1, c2⟩ := HA.out.cells; have HN := Lib.hid (HN.out.next hb); have HP := Lib.hid (HP.out.next hb);  have HK := Lib.hid hr; clear hb hr)
  go_upto_region 7 with (go_at_call 29; refine (promise_at HA.out.shop shopX_names HA.out.hB [1, 2, 3] (by simp) rfl rfl 1 3 xd_123_1_3).mono ?_; rintro e w7 ⟨rfl, hb⟩; have HA := Lib.hid (HA.out.next hb); obtain ⟨c0, c1, c2⟩ := HA.out.cells; have HN := Lib.hid (HN.out.next hb); have HP := Lib.hid (HP.out.next hb); have HK := Lib.hid (HK.out.next hb); clear hb)
  go_upto_region 8 with (go_at_call 31; refine (best_at (m := 3) HA.out.shop shopX_names HA.out.hB xb rfl).mono ?_; rintro e w8 ⟨AHL, cHL, rfl, hr, hb⟩; have HA := Lib.hid (HA.out.next hb); obtain ⟨c0, c1, c2⟩ := HA.out.cells; have HN := Lib.hid (HN.out.next hb); have HP := Lib.hid (HP.out.next hb); have HK := Lib.hid (HK.out.next hb);  have HL := Lib.hid hr; clear hb hr)
  go_upto_region 9 with (go_at_call 33; refine (costs_at HA.out.shop shopX_names HA.out.hB 1 xc_1).mono ?_; rintro e w9 ⟨rfl, hb⟩; have HA := Lib.hid (HA.out.next hb); obtain ⟨c0, c1, c2⟩ := HA.out.cells; have HN := Lib.hid (HN.out.next hb); have HP := Lib.hid (HP.out.next hb); have HK := Lib.hid (HK.out.next hb); have HL := Lib.hid (HL.out.next hb); clear hb)
  have IHN := Lib.hid (fun (W : World) (A : Option Addr) (c : Nat) (h : Rd IntAt 1 W.heap.size W (.slice A 2 c) [1, 3]) => ints_at h [1, 3] (cs := #[.int .i64 1, .int .i64 3]) rfl (n := 2) rfl (by simp) rfl)
  have IHK := Lib.hid (fun (W : World) (A : Option Addr) (c : Nat) (h : Rd IntAt 1 W.heap.size W (.slice A 5 c) [0, 2, 2, 4, 1]) => ints_at h [0, 2, 2, 4, 1] (cs := #[.int .i64 0, .int .i64 2, .int .i64 2, .int .i64 4, .int .i64 1]) rfl (n := 5) rfl (by simp) rfl)
  have IHL := Lib.hid (fun (W : World) (A : Option Addr) (c : Nat) (h : Rd IntAt 1 W.heap.size W (.slice A 3 c) [1, 2, 3]) => ints_at h [1, 2, 3] (cs := #[.int .i64 1, .int .i64 2, .int .i64 3]) rfl (n := 3) rfl (by simp) rfl)
  have IP := Lib.hid (fun (W : World) (A : Option Addr) (c : Nat) (h : Rd CastAt 2 W.heap.size W (.slice A 4 c) [(0, 0), (1, 1), (1, 1), (1, 3)]) => same_at h (cs := #[.int .i64 0, .int .i64 0, .int .i64 1, .int .i64 1, .int .i64 1, .int .i64 1, .int .i64 1, .int .i64 3]) rfl (n := 4) rfl (by simp))
  go_wp2_with (first | (go_at_call 29; refine (promise_at HA.out.shop shopX_names HA.out.hB [1, 2, 3] (by simp) rfl rfl 0 3 xd_123_0_3).mono ?_; rintro e w10 ⟨rfl, hb⟩; have HA := Lib.hid (HA.out.next hb); obtain ⟨c0, c1, c2⟩ := HA.out.cells; have HN := Lib.hid (HN.out.next hb); have HP := Lib.hid (HP.out.next hb); have HK := Lib.hid (HK.out.next hb); have HL := Lib.hid (HL.out.next hb); clear hb) | (go_at_call 22; (with_reducible refine (IHN.out _ _ _ HN.out).mono ?_); rintro e w12 ⟨rfl, hb⟩; have HA := Lib.hid (HA.out.next hb); obtain ⟨c0, c1, c2⟩ := HA.out.cells; have HN := Lib.hid (HN.out.next hb); have HP := Lib.hid (HP.out.next hb); have HK := Lib.hid (HK.out.next hb); have HL := Lib.hid (HL.out.next hb); clear hb) | (go_at_call 22; (with_reducible refine (IHK.out _ _ _ HK.out).mono ?_); rintro e w13 ⟨rfl, hb⟩; have HA := Lib.hid (HA.out.next hb); obtain ⟨c0, c1, c2⟩ := HA.out.cells; have HN := Lib.hid (HN.out.next hb); have HP := Lib.hid (HP.out.next hb); have HK := Lib.hid (HK.out.next hb); have HL := Lib.hid (HL.out.next hb); clear hb) | (go_at_call 22; (with_reducible refine (IHL.out _ _ _ HL.out).mono ?_); rintro e w14 ⟨rfl, hb⟩; have HA := Lib.hid (HA.out.next hb); obtain ⟨c0, c1, c2⟩ := HA.out.cells; have HN := Lib.hid (HN.out.next hb); have HP := Lib.hid (HP.out.next hb); have HK := Lib.hid (HK.out.next hb); have HL := Lib.hid (HL.out.next hb); clear hb) | (go_at_call 59; refine (cast_any _ _ _).mono ?_; rintro e w15 ⟨rfl, hb⟩; have HA := Lib.hid (HA.out.next hb); obtain ⟨c0, c1, c2⟩ := HA.out.cells; have HN := Lib.hid (HN.out.next hb); have HP := Lib.hid (HP.out.next hb); have HK := Lib.hid (HK.out.next hb); have HL := Lib.hid (HL.out.next hb); clear hb) | (go_at_call 26; (with_reducible refine (IP.out _ _ _ HP.out).mono ?_); rintro e w16 ⟨rfl, hb⟩; have HA := Lib.hid (HA.out.next hb); obtain ⟨c0, c1, c2⟩ := HA.out.cells; have HN := Lib.hid (HN.out.next hb); have HP := Lib.hid (HP.out.next hb); have HK := Lib.hid (HK.out.next hb); have HL := Lib.hid (HL.out.next hb); clear hb))
  go_ret
  exact ⟨rfl, HA.out.below⟩
end Go.Proofs.Ytkmaapkbonkjfaa
