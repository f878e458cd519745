/- Walks of the layer order: out, and the library's IndexFunc and ContainsFunc with it. -/
import Derived.Test.YtkmaapkbonkjfaaBase
import Derived.Test.YtkmaapkbonkjfaaPure2
import Derived.Deep.Cut
namespace Go.Proofs.Ytkmaapkbonkjfaa
open Go.RowKit

def idxOf (n : Nat) (p : Nat → Bool) : Int := match fst? n p with | some k => (k : Int) | none => -1
theorem idxOf_some {n k : Nat} {p : Nat → Bool} (h : fst? n p = some k) : idxOf n p = k := by unfold idxOf; rw [h]
theorem idxOf_none {n : Nat} {p : Nat → Bool} (h : fst? n p = none) : idxOf n p = -1 := by unfold idxOf; rw [h]
theorem idxOf_any {α : Type} (l : List α) (p : α → Bool) (q : Nat → Bool) (h : ∀ i (hi : i < l.length), q i = p l[i]) : decide (0 ≤ idxOf l.length q) = l.any p := by
  cases e : fst? l.length q with
  | some k =>
    rw [idxOf_some e]
    have := fst?_spec e
    have h2 : l.any p = true := List.any_eq_true.2 ⟨l[k]'this.1, List.getElem_mem _, by rw [← h]; exact this.2.1⟩
    rw [h2]
    simp
  | none =>
    rw [idxOf_none e]
    have h2 : l.any p = false := by
      rw [List.any_eq_false]
      intro x hx
      obtain ⟨i, hi, rfl⟩ := List.getElem_of_mem hx
      have := fst?_none_spec e i hi
      rw [h i hi] at this
      simp [this]
    rw [h2]
    simp

def outP (lo hi n : Int) : Bool := decide (n < lo) || decide (hi < n)

theorem out1_any (n lo hi : Int) (a b : Addr) (w : World) (ha : w.cell? a = some (.int .i64 lo)) (hb : w.cell? b = some (.int .i64 hi)) :
    Calls Try.prog 76 #[.int .i64 n, .pointer (some a), .pointer (some b)] w fun e w' => e = .returned (.bool (outP lo hi n)) ∧ w' = w := by
  by_cases h : n < lo
  · go_enter Try.func76, Try.ntmps76
    go_wp2
    go_ret
    exact ⟨ret_bool (by simp [outP, h]), rfl⟩
  · by_cases h2 : hi < n
    · go_enter Try.func76, Try.ntmps76
      go_wp2
      go_ret
      exact ⟨ret_bool (by simp [outP, h2]), rfl⟩
    · go_enter Try.func76, Try.ntmps76
      go_wp2
      go_ret
      exact ⟨ret_bool (by simp [outP, h, h2]), rfl⟩

theorem idxOut_any {B : Nat} {w : World} {v : Value} {xs : List Int} (lo hi : Int) (a b : Addr) (hv : Rd IntAt 1 B w v xs) (ha : w.cell? a = some (.int .i64 lo)) (hb : w.cell? b = some (.int .i64 hi)) :
    Calls Try.prog 45 #[v, .func (.func 76) #[] #[.pointer (some a), .pointer (some b)]] w fun e w' => e = .returned (.int .i64 (idxOf xs.length fun i => outP lo hi (xs[i]?.getD 0))) ∧ w' = w := by
  have hlen := hv.len
  obtain ⟨A, cap, rfl, h1, h2, _⟩ := id hv
  go_enter Try.func45, Try.ntmps45
  go_wp2
  go_loop [8] (fun i => ∃ k : Nat, k ≤ xs.length ∧ i = .int .i64 k ∧ (∀ j, j < k → outP lo hi (xs[j]?.getD 0) = false)) (fun i => xs.length - (intOf i).toNat)
  case atStart => exact ⟨0, Nat.zero_le _, rfl, fun _ h => by omega⟩
  case round =>
    obtain ⟨k, hk, rfl, hno⟩ := hrel
    have Hno := Lib.hid hno
    clear hno
    by_cases hlt : k < xs.length
    · obtain ⟨ad, rfl, _, hc⟩ := hv.int hlt
      clear hv
      by_cases ho : outP lo hi (xs[k]?.getD 0) = true
      · have hr := Lib.hid (idxOf_some (fst?_some hlt (p := fun i => outP lo hi (xs[i]?.getD 0)) ho Hno.out))
        generalize xs[k]?.getD 0 = x at ho hc
        go_wp2_with (go_at_call 76; refine (out1_any _ lo hi a b _ ha hb).mono ?_; rintro e w' ⟨rfl, rfl⟩)
        go_ret
        exact ⟨ret_int hr.out.symm, rfl⟩
      · have ho := Bool.eq_false_iff.2 ho
        have Ho := Lib.hid ho
        generalize xs[k]?.getD 0 = x at ho hc
        go_wp2_with (go_at_call 76; refine (out1_any _ lo hi a b _ ha hb).mono ?_; rintro e w' ⟨rfl, rfl⟩)
        go_round
        case rel => exact ⟨k + 1, by omega, by go_num, fun j hj => by
          by_cases h : j < k
          · exact Hno.out j h
          · obtain rfl : j = k := by omega
            exact Ho.out⟩
        case measure => simp [intOf]; omega
    · have hr := Lib.hid (idxOf_none (fst?_none (n := xs.length) (p := fun i => outP lo hi (xs[i]?.getD 0)) (fun j hj => Hno.out j (by omega))))
      clear hv
      go_wp2
      go_ret
      exact ⟨ret_int hr.out.symm, rfl⟩

theorem outB_idx (lo hi : Int) (xs : List Int) : decide (0 ≤ idxOf xs.length fun i => outP lo hi (xs[i]?.getD 0)) = outB lo hi xs :=
  idxOf_any xs (outP lo hi) _ fun i hi => by simp [List.getElem?_eq_getElem hi]

theorem contOut_any {B : Nat} {w : World} {v : Value} {xs : List Int} (lo hi : Int) (a b : Addr) (hv : Rd IntAt 1 B w v xs) (ha : w.cell? a = some (.int .i64 lo)) (hb : w.cell? b = some (.int .i64 hi)) :
    Calls Try.prog 75 #[v, .func (.func 76) #[] #[.pointer (some a), .pointer (some b)]] w fun e w' => e = .returned (.bool (outB lo hi xs)) ∧ w' = w := by
  have e := Lib.hid (outB_idx lo hi xs)
  have h := Lib.hid (idxOut_any lo hi a b hv ha hb)
  generalize (idxOf xs.length fun i => outP lo hi (xs[i]?.getD 0)) = n at *
  go_enter Try.func75, Try.ntmps75
  go_wp2_with (go_at_call 45; refine h.out.mono ?_; rintro e w' ⟨rfl, rfl⟩)
  go_ret
  exact ⟨ret_bool e.out, rfl⟩

theorem out_any {B : Nat} {w : World} {v : Value} {xs : List Int} (lo hi : Int) (hv : Rd IntAt 1 B w v xs) (hB : B ≤ w.heap.size) :
    Calls Try.prog 44 #[.int .i64 lo, .int .i64 hi, v] w fun e w' => e = .returned (.bool (outB lo hi xs)) ∧ Below w.heap.size w w' := by
  obtain ⟨W1, hW1, r1, z1, b1⟩ := box_any w #[.int .i64 lo] 3
  obtain ⟨W2, hW2, r2, z2, b2⟩ := box_any W1 #[.int .i64 hi] 3
  have c1 := (b2.cell (p := ⟨w.heap.size, 0, none⟩) (by simp; omega)).trans (cellOf r1 0 rfl)
  have c2 := cellOf r2 0 rfl
  have hv2 := hv.below ((b1.mono hB).trans (b2.mono (by omega)))
  have hbb := b1.trans (b2.mono (by omega : w.heap.size ≤ W1.heap.size))
  rw [z1] at c2
  have h := Lib.hid (contOut_any lo hi _ _ hv2 c1 c2)
  go_enter Try.func44, Try.ntmps44
  go_upto_region 1 with (fail)
  rw [← hW1, ← hW2]
  clear hW1 hW2
  go_wp2_with (go_at_call 75; refine h.out.mono ?_; rintro e w' ⟨rfl, rfl⟩)
  go_ret
  exact ⟨rfl, hbb⟩
end Go.Proofs.Ytkmaapkbonkjfaa
