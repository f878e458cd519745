/- Walks of the library's stable sort, over castings that are in order already. Walks of the library's stable sort: the merge, over castings that are in order already. Walks of the library's stable sort: the merge goes on in one half. -/
import Derived.Test.YtkmaapkbonkjfaaGApp
import Derived.Laws.StructEq
import Derived.Deep.Cut
set_option linter.unusedSimpArgs false
set_option linter.unusedVariables false
namespace Go.Proofs.Ytkmaapkbonkjfaa
open Go.RowKit

def cmpC (a b : Int × Int) : Int := if a = b then 0 else if a.2 = b.2 then a.1 - b.1 else a.2 - b.2
/-- few parts, few days -/
structure SmallC (a : Int × Int) : Prop where
  p : 0 ≤ a.1 ∧ a.1 ≤ 3
  d : 0 ≤ a.2 ∧ a.2 ≤ 20
def encC (a : Int × Int) : Value := .agg #[.int .i64 a.1, .int .i64 a.2]

theorem cmp86 (a b : Int × Int) (ha : SmallC a) (hb : SmallC b) (w : World) :
    Calls Try.prog 86 #[encC a, encC b] w fun e w' => e = .returned (.int .i64 (cmpC a b)) ∧ Below w.heap.size w w' := by
  obtain ⟨a1, a2⟩ := a
  obtain ⟨b1, b2⟩ := b
  obtain ⟨p1, p2⟩ := ha
  obtain ⟨q1, q2⟩ := hb
  simp only at p1 p2 q1 q2
  unfold encC
  simp only
  obtain ⟨W1, hW1, r1, z1, d1⟩ := box_any w #[.int .i64 a1, .int .i64 a2] 132
  obtain ⟨W2, hW2, r2, z2, d2⟩ := box_any W1 #[.int .i64 b1, .int .i64 b2] 132
  have hb2 := Lib.hid (d1.trans (d2.mono (by omega)))
  have r1' := (d2.block _ (by omega)).trans r1
  rw [z1] at r2
  have x0 := cellOf r1' 0 (v := .int .i64 a1) rfl
  have x1 := cellOf r1' 1 (v := .int .i64 a2) rfl
  have y0 := cellOf r2 0 (v := .int .i64 b1) rfl
  have y1 := cellOf r2 1 (v := .int .i64 b2) rfl
  go_enter Try.func86, Try.ntmps86
  go_upto_region 1 with (fail)
  rw [← hW1, ← hW2]
  clear hW1 hW2 r1 r1' r2 z1 z2 d1 d2
  by_cases e1 : a1 = b1
  · by_cases e2 : a2 = b2
    · have HE := Lib.hid (show cmpC (a1, a2) (b1, b2) = 0 by simp [cmpC, e1, e2])
      subst e1 e2
      go_wp2
      go_ret
      exact ⟨ret_int HE.out.symm, hb2.out⟩
    · have HE := Lib.hid (show cmpC (a1, a2) (b1, b2) = a2 - b2 by simp [cmpC, e2])
      have e3 : (a2 == b2) = false := by simp [e2]
      subst e1
      go_wp2
      all_goals
        go_ret
        exact ⟨ret_int HE.out.symm, hb2.out⟩
  · by_cases e2 : a2 = b2
    · have HE := Lib.hid (show cmpC (a1, a2) (b1, b2) = a1 - b1 by simp [cmpC, e1, e2])
      have e3 : (a1 == b1) = false := by simp [e1]
      subst e2
      go_wp2
      all_goals
        go_ret
        exact ⟨ret_int HE.out.symm, hb2.out⟩
    · have HE := Lib.hid (show cmpC (a1, a2) (b1, b2) = a2 - b2 by simp [cmpC, e1, e2])
      have e3 : (a1 == b1) = false := by simp [e1]
      have e4 : (a2 == b2) = false := by simp [e2]
      go_wp2
      all_goals
        go_ret
        exact ⟨ret_int HE.out.symm, hb2.out⟩

theorem Rd.cast {B i : Nat} {w : World} {A : Option Addr} {n cap : Nat} {xs : List (Int × Int)} (h : Rd CastAt 2 B w (.slice A n cap) xs) (hi : i < xs.length) :
    ∃ ad, A = some ad ∧ ad.block < B ∧ CastAt w (ad.add (i * 2)) (xs[i]?.getD default) := by
  obtain ⟨A', cap', e, h1, h2, h3⟩ := h
  obtain ⟨ad, e2, hb, ha⟩ := h3 i xs[i] (List.getElem?_eq_getElem hi)
  injection e with e e' e''
  subst e
  exact ⟨ad, e2, hb, by simpa [List.getElem?_eq_getElem hi] using ha⟩

/-- castings in order -/
structure InOrder (xs : List (Int × Int)) : Prop where
  small : ∀ x ∈ xs, SmallC x
  le : ∀ i j, i ≤ j → j < xs.length → 0 ≤ cmpC (xs[j]?.getD default) (xs[i]?.getD default)
  len : xs.length ≤ 1000
theorem InOrder.at_ {xs : List (Int × Int)} (h : InOrder xs) {i : Nat} (hi : i < xs.length) : SmallC (xs[i]?.getD default) := by
  rw [List.getElem?_eq_getElem hi]
  exact h.small _ (List.getElem_mem hi)

theorem cmpAt {B : Nat} {w : World} {ad : Addr} {cap : Nat} {xs : List (Int × Int)} (h : Rd CastAt 2 B w (.slice (some ad) xs.length cap) xs) {i : Nat} (hi : i < xs.length) :
    w.cell? (ad.add (i * 2)) = some (.int .i64 (xs[i]?.getD default).1) ∧ w.cell? ⟨(ad.add (i * 2)).block, (ad.add (i * 2)).off + 1, none⟩ = some (.int .i64 (xs[i]?.getD default).2) := by
  obtain ⟨ad', e, _, h1, h2⟩ := h.cast hi
  injection e with e
  subst e
  exact ⟨h1, h2⟩

/-- insertion sort: nothing is out of place -/
theorem ins96 {B : Nat} {w : World} {A : Option Addr} {cap : Nat} {xs : List (Int × Int)} (h : Rd CastAt 2 B w (.slice A xs.length cap) xs) (hB : B ≤ w.heap.size) (ho : InOrder xs) {a b : Nat} (hab : a ≤ b) (hb : b ≤ xs.length) :
    Calls Try.prog 96 #[.slice A xs.length cap, .int .i64 a, .int .i64 b, .func (.func 86) #[] #[]] w fun e w' => (∃ v, e = .returned v) ∧ Below w.heap.size w w' := by
  have hlen := ho.len
  go_enter Try.func96, Try.ntmps96
  go_wp2
  go_loopw [8] (fun i wr => ∃ k : Nat, a < k ∧ k ≤ b + 1 ∧ i = .int .i64 k ∧ Below w.heap.size w wr) (fun i _ => b + 1 - (intOf i).toNat)
  case atStart => exact ⟨a + 1, by omega, by omega, by go_num, Below.refl _ _⟩
  case round =>
    obtain ⟨k, hk1, hk2, rfl, hbr⟩ := hrel
    by_cases hlt : k < b
    · have hrd := h.below (hbr.mono hB)
      obtain ⟨ad, rfl, _⟩ := hrd.cast (i := k) (by omega)
      obtain ⟨x0, x1⟩ := cmpAt hrd (i := k) (by omega)
      obtain ⟨y0, y1⟩ := cmpAt hrd (i := k - 1) (by omega)
      have hle := ho.le (k - 1) k (by omega) (by omega)
      have hsx := Lib.hid (ho.at_ (i := k) (by omega))
      have hsy := Lib.hid (ho.at_ (i := k - 1) (by omega))
      generalize xs[k]?.getD default = x at *
      generalize xs[k - 1]?.getD default = y at *
      have fx0 := Aft.cell x0
      have fx1 := Aft.cell x1
      have fy0 := Aft.cell y0
      have fy1 := Aft.cell y1
      have hkk : ((k : Int) - 1) = ((k - 1 : Nat) : Int) := by omega
      clear hrd
      have hcx := Lib.hid (fun z : Aft wr => cmp86 x y hsx.out hsy.out z.1)
      unfold encC at hcx
      go_wp2
      go_loopw [9] (fun i wx => i = .int .i64 k ∧ wx = wr) (fun _ _ => 0)
      case atStart => exact ⟨rfl, rfl⟩
      case round =>
        obtain ⟨rfl, rfl⟩ := hrel
        go_wp2
        refine wp_region_aft (by kernel_rfl) (by kernel_rfl) ?_
        repeat (first | go_big_quiet_step ((go_at_call 86; exact Aft.call (hcx.out _))) | quiet_step ((go_at_call 86; exact Aft.call (hcx.out _))))
        refine wpQuiet_nil ?_
        rintro _ ⟨⟨wx, hbx⟩, rfl⟩
        go_wp2
        go_roundw
        case rel => exact ⟨k + 1, by omega, by omega, by go_num, hbr.trans (hbx.mono hbr.size)⟩
        case measure => simp [intOf]; omega
    · go_wp2
      go_end0
      exact ⟨⟨_, rfl⟩, hbr⟩
end Go.Proofs.Ytkmaapkbonkjfaa
namespace Go.Proofs.Ytkmaapkbonkjfaa
open Go.RowKit

set_option maxRecDepth 100000 in
set_option maxHeartbeats 2000000 in
theorem sym97_one {B : Nat} {w : World} {A : Option Addr} {cap : Nat} {xs : List (Int × Int)} (h : Rd CastAt 2 B w (.slice A xs.length cap) xs) (hB : B ≤ w.heap.size) (ho : InOrder xs) {a m b : Nat} (ham : m = a + 1) (hmb : m < b) (hb : b ≤ xs.length) :
    Calls Try.prog 97 #[.slice A xs.length cap, .int .i64 a, .int .i64 m, .int .i64 b, .func (.func 86) #[] #[]] w fun e w' => (∃ v, e = .returned v) ∧ Below w.heap.size w w' := by
  have hlen := ho.len
  have hma : ((m : Int) - a) = 1 := by omega
  have Ham := Lib.hid ham
  have ham2 : a < m := by omega
  clear ham
  go_enter Try.func97, Try.ntmps97
  go_wp2
  go_loopw [10, 11] (fun i j wr => ∃ k : Nat, m ≤ k ∧ k ≤ b ∧ i = .int .i64 m ∧ j = .int .i64 k ∧ Below w.heap.size w wr) (fun _ j _ => (intOf j).toNat)
  case atStart => exact ⟨b, by omega, by omega, rfl, rfl, Below.refl _ _⟩
  case round =>
    obtain ⟨k, hk1, hk2, rfl, rfl, hbr⟩ := hrel
    by_cases hlt : m < k
    · have hrd := h.below (hbr.mono hB)
      obtain ⟨ad, rfl, _⟩ := hrd.cast (i := a) (by omega)
      obtain ⟨q, hq⟩ : ∃ q, (m + k) / 2 = q := ⟨_, rfl⟩
      obtain ⟨x0, x1⟩ := cmpAt hrd (i := q) (by omega)
      obtain ⟨y0, y1⟩ := cmpAt hrd (i := a) (by omega)
      have hle := ho.le a q (by omega) (by omega)
      have hsx := Lib.hid (ho.at_ (i := q) (by omega))
      have hsy := Lib.hid (ho.at_ (i := a) (by omega))
      generalize xs[q]?.getD default = x at *
      generalize xs[a]?.getD default = y at *
      have fx0 := Aft.cell x0
      have fx1 := Aft.cell x1
      have fy0 := Aft.cell y0
      have fy1 := Aft.cell y1
      have hcx := Lib.hid (fun z : Aft wr => cmp86 x y hsx.out hsy.out z.1)
      unfold encC at hcx
      have Hq := Lib.hid hq
      have hqz : ((m : Int) + k) / 2 = q := by omega
      clear hrd hq
      go_wp2
      refine wp_region_aft (by kernel_rfl) (by kernel_rfl) ?_
      repeat (first | go_big_quiet_step ((go_at_call 86; exact Aft.call (hcx.out _))) | quiet_step ((go_at_call 86; exact Aft.call (hcx.out _))))
      refine wpQuiet_nil ?_
      rintro _ ⟨⟨wx, hbx⟩, rfl⟩
      go_wp2
      go_roundw
      case rel => exact ⟨q, by have := Hq.out; omega, by have := Hq.out; omega, rfl, rfl, hbr.trans (hbx.mono hbr.size)⟩
      case measure => simp [intOf]; have := Hq.out; omega
    · go_wp2
      go_loopw [13] (fun i wx => i = .int .i64 a ∧ wx = wr) (fun _ _ => 0)
      case atStart => exact ⟨rfl, rfl⟩
      case round =>
        obtain ⟨rfl, rfl⟩ := hrel
        have hex : ¬ (a : Int) < m - 1 := by have := Ham.out; omega
        go_wp2
        exact bodyPost_ret (results_none rfl _ _ _) rfl ⟨⟨_, rfl⟩, hbr⟩

set_option maxRecDepth 100000 in
set_option maxHeartbeats 2000000 in
theorem sym97_last {B : Nat} {w : World} {A : Option Addr} {cap : Nat} {xs : List (Int × Int)} (h : Rd CastAt 2 B w (.slice A xs.length cap) xs) (hB : B ≤ w.heap.size) (ho : InOrder xs) {a m b : Nat} (ham : a + 1 < m) (hmb : b = m + 1) (hb : b ≤ xs.length) :
    Calls Try.prog 97 #[.slice A xs.length cap, .int .i64 a, .int .i64 m, .int .i64 b, .func (.func 86) #[] #[]] w fun e w' => (∃ v, e = .returned v) ∧ Below w.heap.size w w' := by
  have hlen := ho.len
  have hma : (((m : Int) - a) == 1) = false := by simp; omega
  have hmm : ((b : Int) - m) = 1 := by omega
  have Hmb := Lib.hid hmb
  have ham2 : m < b := by omega
  clear hmb
  go_enter Try.func97, Try.ntmps97
  go_wp2
  go_loopw [14, 15] (fun i j wr => ∃ k : Nat, a ≤ k ∧ k ≤ m ∧ i = .int .i64 k ∧ j = .int .i64 m ∧ Below w.heap.size w wr) (fun i _ _ => m - (intOf i).toNat)
  case atStart => exact ⟨a, by omega, by omega, rfl, rfl, Below.refl _ _⟩
  case round =>
    obtain ⟨k, hk1, hk2, rfl, rfl, hbr⟩ := hrel
    by_cases hlt : k < m
    · have hrd := h.below (hbr.mono hB)
      obtain ⟨ad, rfl, _⟩ := hrd.cast (i := a) (by omega)
      obtain ⟨q, hq⟩ : ∃ q, (k + m) / 2 = q := ⟨_, rfl⟩
      obtain ⟨x0, x1⟩ := cmpAt hrd (i := m) (by omega)
      obtain ⟨y0, y1⟩ := cmpAt hrd (i := q) (by omega)
      have hle := ho.le q m (by omega) (by omega)
      have hsx := Lib.hid (ho.at_ (i := m) (by omega))
      have hsy := Lib.hid (ho.at_ (i := q) (by omega))
      generalize xs[m]?.getD default = x at *
      generalize xs[q]?.getD default = y at *
      have fx0 := Aft.cell x0
      have fx1 := Aft.cell x1
      have fy0 := Aft.cell y0
      have fy1 := Aft.cell y1
      have hcx := Lib.hid (fun z : Aft wr => cmp86 x y hsx.out hsy.out z.1)
      unfold encC at hcx
      have Hq := Lib.hid hq
      have hqz : ((k : Int) + m) / 2 = q := by omega
      have hqb : q < xs.length := by omega
      have hdec : decide (cmpC x y < 0) = false := by simp; omega
      clear hrd hq hle
      go_wp2
      refine wp_region_aft (by kernel_rfl) (by kernel_rfl) ?_
      repeat (first | go_big_quiet_step ((go_at_call 86; exact Aft.call (hcx.out _))) | quiet_step ((go_at_call 86; exact Aft.call (hcx.out _))))
      refine wpQuiet_nil ?_
      rintro _ ⟨⟨wx, hbx⟩, rfl⟩
      go_wp2
      go_roundw
      case rel => exact ⟨q + 1, by have := Hq.out; omega, by have := Hq.out; omega, by go_num, rfl, hbr.trans (hbx.mono hbr.size)⟩
      case measure => simp [intOf]; have := Hq.out; omega
    · have hkm : k = m := by omega
      subst hkm
      go_wp2
      go_loopw [17] (fun i wx => i = .int .i64 k ∧ wx = wr) (fun _ _ => 0)
      case atStart => exact ⟨rfl, rfl⟩
      case round =>
        obtain ⟨rfl, rfl⟩ := hrel
        go_wp2
        exact bodyPost_ret (results_none rfl _ _ _) rfl ⟨⟨_, rfl⟩, hbr⟩
end Go.Proofs.Ytkmaapkbonkjfaa
namespace Go.Proofs.Ytkmaapkbonkjfaa
open Go.RowKit

/-- what a merge does to castings in order, from a to b: nothing -/
def Sym (w0 : World) (A : Option Addr) (cap : Nat) (xs : List (Int × Int)) (a m b : Nat) : Prop :=
  ∀ w : World, Below w0.heap.size w0 w → Calls Try.prog 97 #[.slice A xs.length cap, .int .i64 a, .int .i64 m, .int .i64 b, .func (.func 86) #[] #[]] w fun e w' => (∃ v, e = .returned v) ∧ Below w.heap.size w w'

set_option maxRecDepth 100000 in
set_option maxHeartbeats 2000000 in
theorem sym97_right {w0 w : World} {B : Nat} {A : Option Addr} {cap : Nat} {xs : List (Int × Int)} (h : Rd CastAt 2 B w (.slice A xs.length cap) xs) (hB : B ≤ w.heap.size) (ho : InOrder xs) {a m b mid : Nat} (ham : a + 1 < m) (hmb : m + 1 < b) (hb : b ≤ xs.length)
    (hmid : (a + b) / 2 = mid) (hc : mid < m) (h0 : Below w0.heap.size w0 w) (ih : Sym w0 A cap xs mid m b) :
    Calls Try.prog 97 #[.slice A xs.length cap, .int .i64 a, .int .i64 m, .int .i64 b, .func (.func 86) #[] #[]] w fun e w' => (∃ v, e = .returned v) ∧ Below w.heap.size w w' := by
  have hlen := ho.len
  have hma : (((m : Int) - a) == 1) = false := by simp; omega
  have hmm : (((b : Int) - m) == 1) = false := by simp; omega
  have Hmid := Lib.hid hmid
  have hmz : ((a : Int) + b) / 2 = mid := by omega
  have hm1 : a < mid := by omega
  have hm2 : mid < b := by omega
  obtain ⟨st, hst⟩ : ∃ st : Nat, st = mid + m - b := ⟨_, rfl⟩
  have hsz : ((mid : Int) + m - b) = st := by omega
  have Hst := Lib.hid hst
  clear hmid hst
  go_enter Try.func97, Try.ntmps97
  go_wp2
  go_loopw [20, 21] (fun i j wr => ∃ k : Nat, st ≤ k ∧ k ≤ mid ∧ i = .int .i64 k ∧ j = .int .i64 mid ∧ Below w.heap.size w wr) (fun i _ _ => mid - (intOf i).toNat)
  case atStart => exact ⟨st, Nat.le_refl _, by have := Hst.out; have := Hmid.out; omega, rfl, rfl, Below.refl _ _⟩
  case round =>
    obtain ⟨k, hk1, hk2, rfl, rfl, hbr⟩ := hrel
    by_cases hlt : k < mid
    · have hrd := h.below (hbr.mono hB)
      obtain ⟨ad, rfl, _⟩ := hrd.cast (i := a) (by omega)
      obtain ⟨q, hq⟩ : ∃ q, (k + mid) / 2 = q := ⟨_, rfl⟩
      obtain ⟨pq, hpq⟩ : ∃ pq : Nat, pq = mid + m - 1 - q := ⟨_, rfl⟩
      have hS := Hst.out
      have hM := Hmid.out
      obtain ⟨x0, x1⟩ := cmpAt hrd (i := pq) (by omega)
      obtain ⟨y0, y1⟩ := cmpAt hrd (i := q) (by omega)
      have hle := ho.le q pq (by omega) (by omega)
      have hsx := Lib.hid (ho.at_ (i := pq) (by omega))
      have hsy := Lib.hid (ho.at_ (i := q) (by omega))
      generalize xs[pq]?.getD default = x at *
      generalize xs[q]?.getD default = y at *
      have fx0 := Aft.cell x0
      have fx1 := Aft.cell x1
      have fy0 := Aft.cell y0
      have fy1 := Aft.cell y1
      have hcx := Lib.hid (fun z : Aft wr => cmp86 x y hsx.out hsy.out z.1)
      unfold encC at hcx
      have Hq := Lib.hid hq
      have hqz : ((k : Int) + mid) / 2 = q := by omega
      have hpz : ((mid : Int) + m - 1 - q) = pq := by omega
      have hqb : q < xs.length := by omega
      have hpb : pq < xs.length := by omega
      have hdec : decide (cmpC x y < 0) = false := by simp; omega
      clear hrd hq hle hpq hS hM
      go_wp2
      refine wp_region_aft (by kernel_rfl) (by kernel_rfl) ?_
      repeat (first | go_big_quiet_step ((go_at_call 86; exact Aft.call (hcx.out _))) | quiet_step ((go_at_call 86; exact Aft.call (hcx.out _))))
      refine wpQuiet_nil ?_
      rintro _ ⟨⟨wx, hbx⟩, rfl⟩
      go_wp2
      go_roundw
      case rel => exact ⟨q + 1, by have := Hq.out; omega, by have := Hq.out; omega, by go_num, rfl, hbr.trans (hbx.mono hbr.size)⟩
      case measure => simp [intOf]; have := Hq.out; omega
    · have hk : (k : Int) = mid := by omega
      have hS := Hst.out
      have hM := Hmid.out
      have Hih := Lib.hid ih
      have hez : ((mid : Int) + m - mid) = m := by omega
      have hkk : k = mid := by omega
      subst hkk
      clear ih hS hM
      go_wp2_with (go_at_call 97; refine (Hih.out _ (h0.trans (hbr.mono h0.size))).mono ?_; rintro e wx ⟨⟨v, rfl⟩, hbx⟩)
      go_end0
      exact ⟨⟨_, rfl⟩, hbr.trans (hbx.mono hbr.size)⟩


set_option maxRecDepth 100000 in
set_option maxHeartbeats 2000000 in
theorem sym97_left {w0 w : World} {B : Nat} {A : Option Addr} {cap : Nat} {xs : List (Int × Int)} (h : Rd CastAt 2 B w (.slice A xs.length cap) xs) (hB : B ≤ w.heap.size) (ho : InOrder xs) {a m b mid : Nat} (ham : a + 1 < m) (hmb : m + 1 < b) (hb : b ≤ xs.length)
    (hmid : (a + b) / 2 = mid) (hc : m ≤ mid) (h0 : Below w0.heap.size w0 w) (ih : m < mid → Sym w0 A cap xs a m mid) :
    Calls Try.prog 97 #[.slice A xs.length cap, .int .i64 a, .int .i64 m, .int .i64 b, .func (.func 86) #[] #[]] w fun e w' => (∃ v, e = .returned v) ∧ Below w.heap.size w w' := by
  have hlen := ho.len
  have hma : (((m : Int) - a) == 1) = false := by simp; omega
  have hmm : (((b : Int) - m) == 1) = false := by simp; omega
  have Hmid := Lib.hid hmid
  have hmz : ((a : Int) + b) / 2 = mid := by omega
  have hm1 : a < mid := by omega
  have hm2 : mid < b := by omega
  obtain ⟨st, hst⟩ : ∃ st : Nat, st = a := ⟨_, rfl⟩
  skip
  have Hst := Lib.hid hst
  clear hmid hst
  go_enter Try.func97, Try.ntmps97
  go_wp2
  go_loopw [20, 21] (fun i j wr => ∃ k : Nat, st ≤ k ∧ k ≤ m ∧ i = .int .i64 k ∧ j = .int .i64 m ∧ Below w.heap.size w wr) (fun i _ _ => m - (intOf i).toNat)
  case atStart => exact ⟨st, Nat.le_refl _, by have := Hst.out; have := Hmid.out; omega, by rw [Hst.out], rfl, Below.refl _ _⟩
  case round =>
    obtain ⟨k, hk1, hk2, rfl, rfl, hbr⟩ := hrel
    by_cases hlt : k < m
    · have hrd := h.below (hbr.mono hB)
      obtain ⟨ad, rfl, _⟩ := hrd.cast (i := a) (by omega)
      obtain ⟨q, hq⟩ : ∃ q, (k + m) / 2 = q := ⟨_, rfl⟩
      obtain ⟨pq, hpq⟩ : ∃ pq : Nat, pq = mid + m - 1 - q := ⟨_, rfl⟩
      have hS := Hst.out
      have hM := Hmid.out
      obtain ⟨x0, x1⟩ := cmpAt hrd (i := pq) (by omega)
      obtain ⟨y0, y1⟩ := cmpAt hrd (i := q) (by omega)
      have hle := ho.le q pq (by omega) (by omega)
      have hsx := Lib.hid (ho.at_ (i := pq) (by omega))
      have hsy := Lib.hid (ho.at_ (i := q) (by omega))
      generalize xs[pq]?.getD default = x at *
      generalize xs[q]?.getD default = y at *
      have fx0 := Aft.cell x0
      have fx1 := Aft.cell x1
      have fy0 := Aft.cell y0
      have fy1 := Aft.cell y1
      have hcx := Lib.hid (fun z : Aft wr => cmp86 x y hsx.out hsy.out z.1)
      unfold encC at hcx
      have Hq := Lib.hid hq
      have hqz : ((k : Int) + m) / 2 = q := by omega
      have hpz : ((mid : Int) + m - 1 - q) = pq := by omega
      have hqb : q < xs.length := by omega
      have hpb : pq < xs.length := by omega
      have hdec : decide (cmpC x y < 0) = false := by simp; omega
      clear hrd hq hle hpq hS hM
      go_wp2
      refine wp_region_aft (by kernel_rfl) (by kernel_rfl) ?_
      repeat (first | go_big_quiet_step ((go_at_call 86; exact Aft.call (hcx.out _))) | quiet_step ((go_at_call 86; exact Aft.call (hcx.out _))))
      refine wpQuiet_nil ?_
      rintro _ ⟨⟨wx, hbx⟩, rfl⟩
      go_wp2
      go_roundw
      case rel => exact ⟨q + 1, by have := Hq.out; omega, by have := Hq.out; omega, by go_num, rfl, hbr.trans (hbx.mono hbr.size)⟩
      case measure => simp [intOf]; have := Hq.out; omega
    · have hk : (k : Int) = m := by omega
      have hS := Hst.out
      have hM := Hmid.out
      have Hih := Lib.hid ih
      have hez : ((mid : Int) + m - m) = mid := by omega
      have hkk : k = m := by omega
      subst hkk
      clear ih hS hM
      by_cases hlm : k < mid
      · go_wp2_with (go_at_call 97; refine (Hih.out hlm _ (h0.trans (hbr.mono h0.size))).mono ?_; rintro e wx ⟨⟨v, rfl⟩, hbx⟩)
        go_end0
        exact ⟨⟨_, rfl⟩, hbr.trans (hbx.mono hbr.size)⟩
      · go_wp2
        go_end0
        exact ⟨⟨_, rfl⟩, hbr⟩


theorem sym97_any {w0 : World} {B : Nat} {A : Option Addr} {cap : Nat} {xs : List (Int × Int)} (h : Rd CastAt 2 B w0 (.slice A xs.length cap) xs) (hB : B ≤ w0.heap.size) (ho : InOrder xs) :
    ∀ (n a m b : Nat), b - a ≤ n → a < m → m < b → b ≤ xs.length → Sym w0 A cap xs a m b := by
  intro n
  induction n with
  | zero => intro a m b h1 h2 h3 h4; omega
  | succ n ih =>
    intro a m b h1 h2 h3 h4 w hw
    have hrd := h.below (hw.mono hB)
    have hBw : B ≤ w.heap.size := Nat.le_trans hB hw.size
    by_cases e1 : m = a + 1
    · exact sym97_one hrd hBw ho e1 h3 h4
    · by_cases e2 : b = m + 1
      · exact sym97_last hrd hBw ho (by omega) e2 h4
      · by_cases e3 : (a + b) / 2 < m
        · exact sym97_right hrd hBw ho (by omega) (by omega) h4 rfl e3 hw (ih _ _ _ (by omega) e3 h3 h4)
        · exact sym97_left hrd hBw ho (by omega) (by omega) h4 rfl (by omega) hw fun e4 => ih _ _ _ (by omega) h2 e4 (by omega)

set_option maxRecDepth 100000 in
theorem stable92 {w : World} {B : Nat} {A : Option Addr} {cap : Nat} {xs : List (Int × Int)} (h : Rd CastAt 2 B w (.slice A xs.length cap) xs) (hB : B ≤ w.heap.size) (ho : InOrder xs) :
    Calls Try.prog 92 #[.slice A xs.length cap, .int .i64 xs.length, .func (.func 86) #[] #[]] w fun e w' => (∃ v, e = .returned v) ∧ Below w.heap.size w w' := by
  have hlen := ho.len
  have Hsym0 := Lib.hid (sym97_any h hB ho xs.length)
  obtain ⟨n, hn⟩ : ∃ n, xs.length = n := ⟨_, rfl⟩
  rw [hn] at hlen
  rw [hn] at Hsym0
  have Hn := Lib.hid hn
  have Hsym := Lib.hid (fun (a m b : Nat) (w1 : World) (hw : Below w.heap.size w w1) (h1 : a < m) (h2 : m < b) (h3 : b ≤ n) => (show Calls Try.prog 97 #[.slice A n cap, .int .i64 a, .int .i64 m, .int .i64 b, .func (.func 86) #[] #[]] w1 (fun e w' => (∃ v, e = .returned v) ∧ Below w1.heap.size w1 w') from by
    have := Hsym0.out a m b (by omega) h1 h2 h3 w1 hw
    rw [Hn.out] at this
    exact this))
  rw [hn]
  have Hins := Lib.hid (fun (a b : Nat) (w1 : World) (hw : Below w.heap.size w w1) (hab : a ≤ b) (hb : b ≤ n) => (show Calls Try.prog 96 #[.slice A n cap, .int .i64 a, .int .i64 b, .func (.func 86) #[] #[]] w1 (fun e w' => (∃ v, e = .returned v) ∧ Below w1.heap.size w1 w') from by
    have := ins96 (w := w1) (a := a) (b := b) (h.below (hw.mono hB)) (Nat.le_trans hB hw.size) ho hab (by rw [Hn.out]; exact hb)
    rw [Hn.out] at this
    exact this))
  clear h hn Hsym0
  go_enter Try.func92, Try.ntmps92
  go_wp2
  go_loopw [7, 8] (fun x y wr => ∃ a b : Nat, x = .int .i64 a ∧ y = .int .i64 b ∧ b = a + 20 ∧ a ≤ n ∧ Below w.heap.size w wr) (fun a _ _ => n + 20 - (intOf a).toNat)
  case atStart => exact ⟨0, 20, rfl, rfl, rfl, by omega, Below.refl _ _⟩
  case round =>
    obtain ⟨a, b, rfl, rfl, hb, ha, hbr⟩ := hrel
    have Hb := Lib.hid hb
    have hab : a ≤ b := by omega
    have hb2 : b ≤ 1020 := by omega
    clear hb
    by_cases hlt : b ≤ n
    · go_wp2_with (go_at_call 96; refine (Hins.out a b _ hbr hab hlt).mono ?_; rintro e wx ⟨⟨v, rfl⟩, hbx⟩)
      go_roundw
      case rel => exact ⟨b, b + 20, rfl, by go_num, rfl, hlt, hbr.trans (hbx.mono hbr.size)⟩
      case measure => have := Hb.out; simp [intOf]; omega
    · have ha2 : a ≤ n := by omega
      go_wp2_with (go_at_call 96; refine (Hins.out a n _ hbr ha2 (Nat.le_refl _)).mono ?_; rintro e wx ⟨⟨v, rfl⟩, hbx⟩)
      have hB2 := hbr.trans (hbx.mono hbr.size)
      clear hbr hbx hlt hab hb2 Hb ha
      go_loopw [6] (fun x wr => ∃ z : Nat, x = .int .i64 z ∧ 20 ≤ z ∧ z ≤ 2000 ∧ Below w.heap.size w wr) (fun x _ => 2000 - (intOf x).toNat)
      case atStart => exact ⟨20, rfl, by omega, by omega, hB2⟩
      case round =>
        clear hB2
        obtain ⟨z, rfl, hz1, hz2, hbr⟩ := hrel
        by_cases hlt : z < n
        · have hz3 : z ≤ 1000 := by omega
          go_wp2
          go_loopw [7, 8] (fun x y wr => ∃ a b : Nat, x = .int .i64 a ∧ y = .int .i64 b ∧ b = a + 2 * z ∧ a ≤ n ∧ Below w.heap.size w wr) (fun a _ _ => n + 2000 - (intOf a).toNat)
          case atStart => exact ⟨0, 2 * z, rfl, by go_num, by omega, by omega, hbr⟩
          case round =>
            clear hbr
            obtain ⟨a, b, rfl, rfl, hb, ha, hbr⟩ := hrel
            have Hb := Lib.hid hb
            have hb2 : b ≤ 3000 := by omega
            clear hb
            obtain ⟨m, hm⟩ : ∃ m : Nat, m = a + z := ⟨_, rfl⟩
            have hmz : ((a : Int) + z) = m := by omega
            have hma : a < m := by omega
            have Hm := Lib.hid hm
            have hm2 : m ≤ 2000 := by omega
            clear hm
            by_cases hlb : b ≤ n
            · have hmb : m < b := by have := Hb.out; have := Hm.out; omega
              go_wp2_with (go_at_call 97; refine (Hsym.out a m b _ hbr hma hmb hlb).mono ?_; rintro e wx ⟨⟨v, rfl⟩, hbx⟩)
              go_roundw
              case rel => exact ⟨b, b + 2 * z, rfl, by go_num, rfl, hlb, hbr.trans (hbx.mono hbr.size)⟩
              case measure => have := Hb.out; simp [intOf]; omega
            · by_cases hmn : m < n
              · go_wp2_with (go_at_call 97; refine (Hsym.out a m n _ hbr hma hmn (Nat.le_refl _)).mono ?_; rintro e wx ⟨⟨v, rfl⟩, hbx⟩)
                go_roundw
                case rel => exact ⟨2 * z, val_int (by omega), by omega, by omega, hbr.trans (hbx.mono hbr.size)⟩
                case measure => simp [intOf]; omega
              · go_wp2
                go_roundw
                case rel => exact ⟨2 * z, val_int (by omega), by omega, by omega, hbr⟩
                case measure => simp [intOf]; omega
        · go_wp2
          go_end0
          exact ⟨⟨_, rfl⟩, hbr⟩

theorem sort85 {w : World} {B : Nat} {A : Option Addr} {cap : Nat} {xs : List (Int × Int)} (h : Rd CastAt 2 B w (.slice A xs.length cap) xs) (hB : B ≤ w.heap.size) (ho : InOrder xs) :
    Calls Try.prog 85 #[.slice A xs.length cap, .func (.func 86) #[] #[]] w fun e w' => (∃ v, e = .returned v) ∧ Below w.heap.size w w' := by
  have hq := Lib.hid (stable92 h hB ho)
  have hlen := ho.len
  clear h
  go_enter Try.func85, Try.ntmps85
  go_wp2_with (go_at_call 92; refine hq.out.mono ?_; rintro e wx ⟨⟨v, rfl⟩, hbx⟩)
  go_end0
  exact ⟨⟨_, rfl⟩, hbx⟩
end Go.Proofs.Ytkmaapkbonkjfaa
