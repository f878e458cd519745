/- Walks of the library's stable sort, over castings that are in order already. -/
import Derived.Test.YtkmaapkbonkjfaaAppend
import Derived.Laws.StructEq
import Derived.Deep.Cut
namespace Go.Proofs.Ytkmaapkbonkjfaa
open Go.RowKit

def cmpC (a b : Int × Int) : Int := if a = b then 0 else if a.2 = b.2 then a.1 - b.1 else a.2 - b.2
/-- few parts, few days -/
structure SmallC (a : Int × Int) : Prop where
  p : 0 ≤ a.1 ∧ a.1 ≤ 3
  d : 0 ≤ a.2 ∧ a.2 ≤ 20
def encC (a : Int × Int) : Value := .agg #[.int .i64 a.1, .int .i64 a.2]

theorem cmp86 (a b : Int × Int) (ha : SmallC a) (hb : SmallC b) (w : World) :
    Calls Try.prog 86 #[encC a, encC b] w fun e w' => e = .returned (.int .i64 (cmpC a b)) ∧ Below w.heap.size w w' := by
  obtain ⟨a1, a2⟩ := a
  obtain ⟨b1, b2⟩ := b
  obtain ⟨p1, p2⟩ := ha
  obtain ⟨q1, q2⟩ := hb
  simp only at p1 p2 q1 q2
  unfold encC
  simp only
  obtain ⟨W1, hW1, r1, z1, d1⟩ := box_any w #[.int .i64 a1, .int .i64 a2] 132
  obtain ⟨W2, hW2, r2, z2, d2⟩ := box_any W1 #[.int .i64 b1, .int .i64 b2] 132
  have hb2 := Lib.hid (d1.trans (d2.mono (by omega)))
  have r1' := (d2.block _ (by omega)).trans r1
  rw [z1] at r2
  have x0 := cellOf r1' 0 (v := .int .i64 a1) rfl
  have x1 := cellOf r1' 1 (v := .int .i64 a2) rfl
  have y0 := cellOf r2 0 (v := .int .i64 b1) rfl
  have y1 := cellOf r2 1 (v := .int .i64 b2) rfl
  go_enter Try.func86, Try.ntmps86
  go_upto_region 1 with (fail)
  rw [← hW1, ← hW2]
  clear hW1 hW2 r1 r1' r2 z1 z2 d1 d2
  by_cases e1 : a1 = b1
  · by_cases e2 : a2 = b2
    · have HE := Lib.hid (show cmpC (a1, a2) (b1, b2) = 0 by simp [cmpC, e1, e2])
      subst e1 e2
      go_wp2
      go_ret
      exact ⟨ret_int HE.out.symm, hb2.out⟩
    · have HE := Lib.hid (show cmpC (a1, a2) (b1, b2) = a2 - b2 by simp [cmpC, e2])
      have e3 : (a2 == b2) = false := by simp [e2]
      subst e1
      go_wp2
      all_goals
        go_ret
        exact ⟨ret_int HE.out.symm, hb2.out⟩
  · by_cases e2 : a2 = b2
    · have HE := Lib.hid (show cmpC (a1, a2) (b1, b2) = a1 - b1 by simp [cmpC, e1, e2])
      have e3 : (a1 == b1) = false := by simp [e1]
      subst e2
      go_wp2
      all_goals
        go_ret
        exact ⟨ret_int HE.out.symm, hb2.out⟩
    · have HE := Lib.hid (show cmpC (a1, a2) (b1, b2) = a2 - b2 by simp [cmpC, e1, e2])
      have e3 : (a1 == b1) = false := by simp [e1]
      have e4 : (a2 == b2) = false := by simp [e2]
      go_wp2
      all_goals
        go_ret
        exact ⟨ret_int HE.out.symm, hb2.out⟩

theorem Rd.cast {B i : Nat} {w : World} {A : Option Addr} {n cap : Nat} {xs : List (Int × Int)} (h : Rd CastAt 2 B w (.slice A n cap) xs) (hi : i < xs.length) :
    ∃ ad, A = some ad ∧ ad.block < B ∧ CastAt w (ad.add (i * 2)) (xs[i]?.getD default) := by
  obtain ⟨A', cap', e, h1, h2, h3⟩ := h
  obtain ⟨ad, e2, hb, ha⟩ := h3 i xs[i] (List.getElem?_eq_getElem hi)
  injection e with e e' e''
  subst e
  exact ⟨ad, e2, hb, by simpa [List.getElem?_eq_getElem hi] using ha⟩

/-- castings in order -/
structure InOrder (xs : List (Int × Int)) : Prop where
  small : ∀ x ∈ xs, SmallC x
  le : ∀ i j, i ≤ j → j < xs.length → 0 ≤ cmpC (xs[j]?.getD default) (xs[i]?.getD default)
  len : xs.length ≤ 1000
theorem InOrder.at_ {xs : List (Int × Int)} (h : InOrder xs) {i : Nat} (hi : i < xs.length) : SmallC (xs[i]?.getD default) := by
  rw [List.getElem?_eq_getElem hi]
  exact h.small _ (List.getElem_mem hi)

theorem cmpAt {B : Nat} {w : World} {ad : Addr} {cap : Nat} {xs : List (Int × Int)} (h : Rd CastAt 2 B w (.slice (some ad) xs.length cap) xs) {i : Nat} (hi : i < xs.length) :
    w.cell? (ad.add (i * 2)) = some (.int .i64 (xs[i]?.getD default).1) ∧ w.cell? ⟨(ad.add (i * 2)).block, (ad.add (i * 2)).off + 1, none⟩ = some (.int .i64 (xs[i]?.getD default).2) := by
  obtain ⟨ad', e, _, h1, h2⟩ := h.cast hi
  injection e with e
  subst e
  exact ⟨h1, h2⟩

/-- insertion sort: nothing is out of place -/
theorem ins96 {B : Nat} {w : World} {A : Option Addr} {cap : Nat} {xs : List (Int × Int)} (h : Rd CastAt 2 B w (.slice A xs.length cap) xs) (hB : B ≤ w.heap.size) (ho : InOrder xs) {a b : Nat} (hab : a ≤ b) (hb : b ≤ xs.length) :
    Calls Try.prog 96 #[.slice A xs.length cap, .int .i64 a, .int .i64 b, .func (.func 86) #[] #[]] w fun e w' => (∃ v, e = .returned v) ∧ Below w.heap.size w w' := by
  have hlen := ho.len
  go_enter Try.func96, Try.ntmps96
  go_wp2
  go_loopw [8] (fun i wr => ∃ k : Nat, a < k ∧ k ≤ b + 1 ∧ i = .int .i64 k ∧ Below w.heap.size w wr) (fun i _ => b + 1 - (intOf i).toNat)
  case atStart => exact ⟨a + 1, by omega, by omega, by go_num, Below.refl _ _⟩
  case round =>
    obtain ⟨k, hk1, hk2, rfl, hbr⟩ := hrel
    by_cases hlt : k < b
    · have hrd := h.below (hbr.mono hB)
      obtain ⟨ad, rfl, _⟩ := hrd.cast (i := k) (by omega)
      obtain ⟨x0, x1⟩ := cmpAt hrd (i := k) (by omega)
      obtain ⟨y0, y1⟩ := cmpAt hrd (i := k - 1) (by omega)
      have hle := ho.le (k - 1) k (by omega) (by omega)
      have hsx := Lib.hid (ho.at_ (i := k) (by omega))
      have hsy := Lib.hid (ho.at_ (i := k - 1) (by omega))
      generalize xs[k]?.getD default = x at *
      generalize xs[k - 1]?.getD default = y at *
      have fx0 := Aft.cell x0
      have fx1 := Aft.cell x1
      have fy0 := Aft.cell y0
      have fy1 := Aft.cell y1
      have hkk : ((k : Int) - 1) = ((k - 1 : Nat) : Int) := by omega
      clear hrd
      have hcx := Lib.hid (fun z : Aft wr => cmp86 x y hsx.out hsy.out z.1)
      unfold encC at hcx
      go_wp2
      go_loopw [9] (fun i wx => i = .int .i64 k ∧ wx = wr) (fun _ _ => 0)
      case atStart => exact ⟨rfl, rfl⟩
      case round =>
        obtain ⟨rfl, rfl⟩ := hrel
        go_wp2
        refine wp_region_aft (by kernel_rfl) (by kernel_rfl) ?_
        repeat (first | go_big_quiet_step ((go_at_call 86; exact Aft.call (hcx.out _))) | quiet_step ((go_at_call 86; exact Aft.call (hcx.out _))))
        refine wpQuiet_nil ?_
        rintro _ ⟨⟨wx, hbx⟩, rfl⟩
        go_wp2
        go_roundw
        case rel => exact ⟨k + 1, by omega, by omega, by go_num, hbr.trans (hbx.mono hbr.size)⟩
        case measure => simp [intOf]; omega
    · go_wp2
      go_end0
      exact ⟨⟨_, rfl⟩, hbr⟩
end Go.Proofs.Ytkmaapkbonkjfaa
