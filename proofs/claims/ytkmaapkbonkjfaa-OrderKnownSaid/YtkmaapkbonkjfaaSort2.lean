/- Walks of the library's stable sort: the merge, over castings that are in order already. -/
import Derived.Test.YtkmaapkbonkjfaaSort1
namespace Go.Proofs.Ytkmaapkbonkjfaa
open Go.RowKit

set_option maxRecDepth 100000 in
set_option maxHeartbeats 2000000 in
theorem sym97_one {B : Nat} {w : World} {A : Option Addr} {cap : Nat} {xs : List (Int × Int)} (h : Rd CastAt 2 B w (.slice A xs.length cap) xs) (hB : B ≤ w.heap.size) (ho : InOrder xs) {a m b : Nat} (ham : m = a + 1) (hmb : m < b) (hb : b ≤ xs.length) :
    Calls Try.prog 97 #[.slice A xs.length cap, .int .i64 a, .int .i64 m, .int .i64 b, .func (.func 86) #[] #[]] w fun e w' => (∃ v, e = .returned v) ∧ Below w.heap.size w w' := by
  have hlen := ho.len
  have hma : ((m : Int) - a) = 1 := by omega
  have Ham := Lib.hid ham
  have ham2 : a < m := by omega
  clear ham
  go_enter Try.func97, Try.ntmps97
  go_wp2
  go_loopw [10, 11] (fun i j wr => ∃ k : Nat, m ≤ k ∧ k ≤ b ∧ i = .int .i64 m ∧ j = .int .i64 k ∧ Below w.heap.size w wr) (fun _ j _ => (intOf j).toNat)
  case atStart => exact ⟨b, by omega, by omega, rfl, rfl, Below.refl _ _⟩
  case round =>
    obtain ⟨k, hk1, hk2, rfl, rfl, hbr⟩ := hrel
    by_cases hlt : m < k
    · have hrd := h.below (hbr.mono hB)
      obtain ⟨ad, rfl, _⟩ := hrd.cast (i := a) (by omega)
      obtain ⟨q, hq⟩ : ∃ q, (m + k) / 2 = q := ⟨_, rfl⟩
      obtain ⟨x0, x1⟩ := cmpAt hrd (i := q) (by omega)
      obtain ⟨y0, y1⟩ := cmpAt hrd (i := a) (by omega)
      have hle := ho.le a q (by omega) (by omega)
      have hsx := Lib.hid (ho.at_ (i := q) (by omega))
      have hsy := Lib.hid (ho.at_ (i := a) (by omega))
      generalize xs[q]?.getD default = x at *
      generalize xs[a]?.getD default = y at *
      have fx0 := Aft.cell x0
      have fx1 := Aft.cell x1
      have fy0 := Aft.cell y0
      have fy1 := Aft.cell y1
      have hcx := Lib.hid (fun z : Aft wr => cmp86 x y hsx.out hsy.out z.1)
      unfold encC at hcx
      have Hq := Lib.hid hq
      have hqz : ((m : Int) + k) / 2 = q := by omega
      clear hrd hq
      go_wp2
      refine wp_region_aft (by kernel_rfl) (by kernel_rfl) ?_
      repeat (first | go_big_quiet_step ((go_at_call 86; exact Aft.call (hcx.out _))) | quiet_step ((go_at_call 86; exact Aft.call (hcx.out _))))
      refine wpQuiet_nil ?_
      rintro _ ⟨⟨wx, hbx⟩, rfl⟩
      go_wp2
      go_roundw
      case rel => exact ⟨q, by have := Hq.out; omega, by have := Hq.out; omega, rfl, rfl, hbr.trans (hbx.mono hbr.size)⟩
      case measure => simp [intOf]; have := Hq.out; omega
    · go_wp2
      go_loopw [13] (fun i wx => i = .int .i64 a ∧ wx = wr) (fun _ _ => 0)
      case atStart => exact ⟨rfl, rfl⟩
      case round =>
        obtain ⟨rfl, rfl⟩ := hrel
        have hex : ¬ (a : Int) < m - 1 := by have := Ham.out; omega
        go_wp2
        exact bodyPost_ret (results_none rfl _ _ _) rfl ⟨⟨_, rfl⟩, hbr⟩

set_option maxRecDepth 100000 in
set_option maxHeartbeats 2000000 in
theorem sym97_last {B : Nat} {w : World} {A : Option Addr} {cap : Nat} {xs : List (Int × Int)} (h : Rd CastAt 2 B w (.slice A xs.length cap) xs) (hB : B ≤ w.heap.size) (ho : InOrder xs) {a m b : Nat} (ham : a + 1 < m) (hmb : b = m + 1) (hb : b ≤ xs.length) :
    Calls Try.prog 97 #[.slice A xs.length cap, .int .i64 a, .int .i64 m, .int .i64 b, .func (.func 86) #[] #[]] w fun e w' => (∃ v, e = .returned v) ∧ Below w.heap.size w w' := by
  have hlen := ho.len
  have hma : (((m : Int) - a) == 1) = false := by simp; omega
  have hmm : ((b : Int) - m) = 1 := by omega
  have Hmb := Lib.hid hmb
  have ham2 : m < b := by omega
  clear hmb
  go_enter Try.func97, Try.ntmps97
  go_wp2
  go_loopw [14, 15] (fun i j wr => ∃ k : Nat, a ≤ k ∧ k ≤ m ∧ i = .int .i64 k ∧ j = .int .i64 m ∧ Below w.heap.size w wr) (fun i _ _ => m - (intOf i).toNat)
  case atStart => exact ⟨a, by omega, by omega, rfl, rfl, Below.refl _ _⟩
  case round =>
    obtain ⟨k, hk1, hk2, rfl, rfl, hbr⟩ := hrel
    by_cases hlt : k < m
    · have hrd := h.below (hbr.mono hB)
      obtain ⟨ad, rfl, _⟩ := hrd.cast (i := a) (by omega)
      obtain ⟨q, hq⟩ : ∃ q, (k + m) / 2 = q := ⟨_, rfl⟩
      obtain ⟨x0, x1⟩ := cmpAt hrd (i := m) (by omega)
      obtain ⟨y0, y1⟩ := cmpAt hrd (i := q) (by omega)
      have hle := ho.le q m (by omega) (by omega)
      have hsx := Lib.hid (ho.at_ (i := m) (by omega))
      have hsy := Lib.hid (ho.at_ (i := q) (by omega))
      generalize xs[m]?.getD default = x at *
      generalize xs[q]?.getD default = y at *
      have fx0 := Aft.cell x0
      have fx1 := Aft.cell x1
      have fy0 := Aft.cell y0
      have fy1 := Aft.cell y1
      have hcx := Lib.hid (fun z : Aft wr => cmp86 x y hsx.out hsy.out z.1)
      unfold encC at hcx
      have Hq := Lib.hid hq
      have hqz : ((k : Int) + m) / 2 = q := by omega
      have hqb : q < xs.length := by omega
      have hdec : decide (cmpC x y < 0) = false := by simp; omega
      clear hrd hq hle
      go_wp2
      refine wp_region_aft (by kernel_rfl) (by kernel_rfl) ?_
      repeat (first | go_big_quiet_step ((go_at_call 86; exact Aft.call (hcx.out _))) | quiet_step ((go_at_call 86; exact Aft.call (hcx.out _))))
      refine wpQuiet_nil ?_
      rintro _ ⟨⟨wx, hbx⟩, rfl⟩
      go_wp2
      go_roundw
      case rel => exact ⟨q + 1, by have := Hq.out; omega, by have := Hq.out; omega, by go_num, rfl, hbr.trans (hbx.mono hbr.size)⟩
      case measure => simp [intOf]; have := Hq.out; omega
    · have hkm : k = m := by omega
      subst hkm
      go_wp2
      go_loopw [17] (fun i wx => i = .int .i64 k ∧ wx = wr) (fun _ _ => 0)
      case atStart => exact ⟨rfl, rfl⟩
      case round =>
        obtain ⟨rfl, rfl⟩ := hrel
        go_wp2
        exact bodyPost_ret (results_none rfl _ _ _) rfl ⟨⟨_, rfl⟩, hbr⟩
end Go.Proofs.Ytkmaapkbonkjfaa
