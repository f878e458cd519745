/- Walks of the layer order: OrderKnown. -/
import Derived.Test.YtkmaapkbonkjfaaAt
import Derived.Test.YtkmaapkbonkjfaaAwake
namespace Go.Proofs.Ytkmaapkbonkjfaa
open Go.RowKit

set_option maxRecDepth 100000 in
set_option maxHeartbeats 2000000 in
theorem known_any (w : World) : Calls Try.prog 6 #[] w fun e w' => e = .returned (.bool true) ∧ Below w.heap.size w w' := by
  go_enter Try.func6, Try.ntmps6
  go_upto_region 2 with (go_at_call 35; refine (shop_any _).mono ?_; rintro e W1 ⟨a, b, c, rfl, hS, hb⟩; have HS := Lib.hid hS; have HB := Lib.hid hb; clear hS hb)
  obtain ⟨W2, hW2, r2, z2, b2⟩ := box_any W1 #[.slice (some a) 5 5, .slice (some b) 2 2, .slice (some c) 4 4] 26
  rw [← hW2]
  have HA := Lib.hid (show AwS w W1.heap.size W1.heap.size a b c W2 from ⟨HS.out.below b2, by omega, r2, HB.out.trans (b2.mono HB.out.size)⟩)
  obtain ⟨c0, c1, c2⟩ := HA.out.cells
  clear hW2 r2 z2 b2
  go_upto_region 3 with (go_at_call 18; refine (late_at HA.out.shop shopX_names HA.out.hB [0, 1] (by simp) rfl rfl xl_01).mono ?_; rintro e w3 ⟨rfl, hb⟩; have HA := Lib.hid (HA.out.next hb); obtain ⟨c0, c1, c2⟩ := HA.out.cells; clear hb)
  go_upto_region 4 with (go_at_call 18; refine (late_at HA.out.shop shopX_names HA.out.hB [0, 2, 3] (by simp) rfl rfl xl_023).mono ?_; rintro e w4 ⟨rfl, hb⟩; have HA := Lib.hid (HA.out.next hb); obtain ⟨c0, c1, c2⟩ := HA.out.cells; clear hb)
  go_upto_region 5 with (go_at_call 27; refine (kept_at (m := 5) HA.out.shop shopX_names HA.out.hB [0, 1, 2] (by simp) rfl rfl 0 xk_012_0 rfl).mono ?_; rintro e w5 ⟨AHK, cHK, rfl, hr, hb⟩; have HA := Lib.hid (HA.out.next hb); obtain ⟨c0, c1, c2⟩ := HA.out.cells;  have HK := Lib.hid hr; clear hb hr)
  go_upto_region 6 with (go_at_call 29; refine (promise_at HA.out.shop shopX_names HA.out.hB [1, 2, 3] (by simp) rfl rfl 1 2 xd_123_1_2).mono ?_; rintro e w6 ⟨rfl, hb⟩; have HA := Lib.hid (HA.out.next hb); obtain ⟨c0, c1, c2⟩ := HA.out.cells; have HK := Lib.hid (HK.out.next hb); clear hb)
  go_upto_region 7 with (go_at_call 33; refine (costs_at HA.out.shop shopX_names HA.out.hB 0 xc_0).mono ?_; rintro e w7 ⟨rfl, hb⟩; have HA := Lib.hid (HA.out.next hb); obtain ⟨c0, c1, c2⟩ := HA.out.cells; have HK := Lib.hid (HK.out.next hb); clear hb)
  go_upto_region 8 with (go_at_call 33; refine (costs_at HA.out.shop shopX_names HA.out.hB 2 xc_2).mono ?_; rintro e w8 ⟨rfl, hb⟩; have HA := Lib.hid (HA.out.next hb); obtain ⟨c0, c1, c2⟩ := HA.out.cells; have HK := Lib.hid (HK.out.next hb); clear hb)
  have IHK := Lib.hid (fun (W : World) (A : Option Addr) (c : Nat) (h : Rd IntAt 1 W.heap.size W (.slice A 5 c) [5, 0, 0, 0, 0]) => ints_at h [5, 0, 0, 0, 0] (cs := #[.int .i64 5, .int .i64 0, .int .i64 0, .int .i64 0, .int .i64 0]) rfl (n := 5) rfl (by simp) rfl)
  go_wp2_with (first | (go_at_call 33; refine (costs_at HA.out.shop shopX_names HA.out.hB 3 xc_3).mono ?_; rintro e w9 ⟨rfl, hb⟩; have HA := Lib.hid (HA.out.next hb); obtain ⟨c0, c1, c2⟩ := HA.out.cells; have HK := Lib.hid (HK.out.next hb); clear hb) | (go_at_call 22; (with_reducible refine (IHK.out _ _ _ HK.out).mono ?_); rintro e wi ⟨rfl, hb⟩; have HA := Lib.hid (HA.out.next hb); obtain ⟨c0, c1, c2⟩ := HA.out.cells; have HK := Lib.hid (HK.out.next hb); clear hb) | (go_at_call 23; refine (awake_any _).mono ?_; rintro e wi ⟨rfl, hb⟩; have HA := Lib.hid (HA.out.next hb); obtain ⟨c0, c1, c2⟩ := HA.out.cells; have HK := Lib.hid (HK.out.next hb); clear hb))
  go_ret
  exact ⟨rfl, HA.out.below⟩
end Go.Proofs.Ytkmaapkbonkjfaa
