/- Walks of the layer order: least, with the two functions that it is given. -/
import Derived.Test.YtkmaapkbonkjfaaP2
namespace Go.Proofs.Ytkmaapkbonkjfaa
open Go.RowKit

def leastOf (n : Nat) (p : Nat → Bool) : Nat := (fst? n p).getD n
theorem leastOf_some {n k : Nat} {p : Nat → Bool} (hk : k < n) (hp : p k = true) (hb : ∀ j, j < k → p j = false) : leastOf n p = k := by unfold leastOf; rw [fst?_some hk hp hb]; rfl
theorem leastOf_none {n : Nat} {p : Nat → Bool} (hb : ∀ j, j < n → p j = false) : leastOf n p = n := by unfold leastOf; rw [fst?_none hb]; rfl

theorem least87 (n : Nat) (hn : n ≤ 1000) (p : Nat → Bool) (a b : Addr) (I : World → Prop) (w : World) (h0 : I w)
    (hc : ∀ k, k < n → ∀ w1, I w1 → Calls Try.prog 87 #[.int .i64 k, .pointer (some a), .pointer (some b)] w1 fun e w' => e = .returned (.bool (p k)) ∧ I w') :
    Calls Try.prog 65 #[.int .i64 n, .func (.func 87) #[] #[.pointer (some a), .pointer (some b)]] w fun e w' => e = .returned (.int .i64 (leastOf n p)) ∧ I w' := by
  have Hc := Lib.hid hc
  clear hc
  go_enter Try.func65, Try.ntmps65
  go_wp2
  go_loopw [7] (fun i wr => ∃ k : Nat, k ≤ n ∧ i = .int .i64 k ∧ (∀ j, j < k → p j = false) ∧ I wr) (fun i _ => n - (intOf i).toNat)
  case atStart => exact ⟨0, Nat.zero_le _, rfl, fun _ h => by omega, h0⟩
  case round =>
    obtain ⟨k, hk, rfl, hno, hi⟩ := hrel
    have Hno := Lib.hid hno
    clear hno
    by_cases hlt : k < n
    · cases hp : p k with
      | true =>
        have e := Lib.hid (leastOf_some hlt hp Hno.out)
        go_wp2_with (go_at_call 87; refine (Hc.out k hlt _ hi).mono ?_; rw [hp]; rintro e wx ⟨rfl, hix⟩)
        go_ret
        exact ⟨ret_int (by rw [e.out]), hix⟩
      | false =>
        have Hp := Lib.hid hp
        go_wp2_with (go_at_call 87; refine (Hc.out k hlt _ hi).mono ?_; rw [hp]; rintro e wx ⟨rfl, hix⟩)
        go_roundw
        case rel => exact ⟨k + 1, by omega, by go_num, fun j hj => by
          by_cases h : j < k
          · exact Hno.out j h
          · obtain rfl : j = k := by omega
            exact Hp.out, hix⟩
        case measure => simp [intOf]; omega
    · have e := Lib.hid (leastOf_none (n := n) (p := p) fun j hj => Hno.out j (by omega))
      go_wp2
      go_ret
      exact ⟨ret_int (by rw [e.out]), hi⟩

theorem least66 (n : Nat) (hn : n ≤ 1000) (p : Nat → Bool) (a b c d : Addr) (I : World → Prop) (w : World) (h0 : I w)
    (hc : ∀ k, k < n → ∀ w1, I w1 → Calls Try.prog 66 #[.int .i64 k, .pointer (some a), .pointer (some b), .pointer (some c), .pointer (some d)] w1 fun e w' => e = .returned (.bool (p k)) ∧ I w') :
    Calls Try.prog 65 #[.int .i64 n, .func (.func 66) #[] #[.pointer (some a), .pointer (some b), .pointer (some c), .pointer (some d)]] w fun e w' => e = .returned (.int .i64 (leastOf n p)) ∧ I w' := by
  have Hc := Lib.hid hc
  clear hc
  go_enter Try.func65, Try.ntmps65
  go_wp2
  go_loopw [7] (fun i wr => ∃ k : Nat, k ≤ n ∧ i = .int .i64 k ∧ (∀ j, j < k → p j = false) ∧ I wr) (fun i _ => n - (intOf i).toNat)
  case atStart => exact ⟨0, Nat.zero_le _, rfl, fun _ h => by omega, h0⟩
  case round =>
    obtain ⟨k, hk, rfl, hno, hi⟩ := hrel
    have Hno := Lib.hid hno
    clear hno
    by_cases hlt : k < n
    · cases hp : p k with
      | true =>
        have e := Lib.hid (leastOf_some hlt hp Hno.out)
        go_wp2_with (go_at_call 66; refine (Hc.out k hlt _ hi).mono ?_; rw [hp]; rintro e wx ⟨rfl, hix⟩)
        go_ret
        exact ⟨ret_int (by rw [e.out]), hix⟩
      | false =>
        have Hp := Lib.hid hp
        go_wp2_with (go_at_call 66; refine (Hc.out k hlt _ hi).mono ?_; rw [hp]; rintro e wx ⟨rfl, hix⟩)
        go_roundw
        case rel => exact ⟨k + 1, by omega, by go_num, fun j hj => by
          by_cases h : j < k
          · exact Hno.out j h
          · obtain rfl : j = k := by omega
            exact Hp.out, hix⟩
        case measure => simp [intOf]; omega
    · have e := Lib.hid (leastOf_none (n := n) (p := p) fun j hj => Hno.out j (by omega))
      go_wp2
      go_ret
      exact ⟨ret_int (by rw [e.out]), hi⟩
end Go.Proofs.Ytkmaapkbonkjfaa
