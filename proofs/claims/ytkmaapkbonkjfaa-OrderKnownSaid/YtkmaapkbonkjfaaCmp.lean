/- Walks of the layer order: Compare of two lists of numbers. -/
import Derived.Test.YtkmaapkbonkjfaaBits
namespace Go.Proofs.Ytkmaapkbonkjfaa
open Go.RowKit

def cmp1 (a b : Int) : Int := if a < b then -1 else if b < a then 1 else 0
def cmpL : List Int → List Int → Int
  | [], [] => 0
  | [], _ :: _ => -1
  | _ :: _, [] => 1
  | x :: xs, y :: ys => if cmp1 x y = 0 then cmpL xs ys else cmp1 x y

theorem nan_any (a : Int) (w : World) : Calls Try.prog 95 #[.int .i64 a] w fun e w' => e = .returned (.bool false) ∧ w = w' := by
  go_enter Try.func95, Try.ntmps95
  go_wp2
  go_ret
  exact ⟨ret_bool (by simp), rfl⟩
theorem cmp1_any (a b : Int) (w : World) : Calls Try.prog 90 #[.int .i64 a, .int .i64 b] w fun e w' => e = .returned (.int .i64 (cmp1 a b)) ∧ w = w' := by
  unfold cmp1
  by_cases h : a < b
  · rw [if_pos h]
    have h2 : decide (a < b) = true := by simpa using h
    go_enter Try.func90, Try.ntmps90
    go_wp2_with (go_at_call 95; refine (nan_any _ _).mono ?_; rintro e w' ⟨rfl, rfl⟩)
    go_ret
    exact ⟨rfl, rfl⟩
  · rw [if_neg h]
    by_cases g : b < a
    · rw [if_pos g]
      go_enter Try.func90, Try.ntmps90
      go_wp2_with (go_at_call 95; refine (nan_any _ _).mono ?_; rintro e w' ⟨rfl, rfl⟩)
      go_ret
      exact ⟨rfl, rfl⟩
    · rw [if_neg g]
      go_enter Try.func90, Try.ntmps90
      go_wp2_with (go_at_call 95; refine (nan_any _ _).mono ?_; rintro e w' ⟨rfl, rfl⟩)
      go_ret
      exact ⟨rfl, rfl⟩

theorem cmpL_step (xs ys : List Int) (k : Nat) (h1 : k < xs.length) (h2 : k < ys.length) :
    cmpL (xs.drop k) (ys.drop k) = if cmp1 (xs[k]?.getD 0) (ys[k]?.getD 0) = 0 then cmpL (xs.drop (k + 1)) (ys.drop (k + 1)) else cmp1 (xs[k]?.getD 0) (ys[k]?.getD 0) := by
  rw [List.drop_eq_getElem_cons h1, List.drop_eq_getElem_cons h2]
  simp [cmpL, h1, h2]

theorem compare_any {B B' : Nat} {w : World} {v v' : Value} {xs ys : List Int} (hx : Rd IntAt 1 B w v xs) (hy : Rd IntAt 1 B' w v' ys) (hn : xs.length ≤ 1000) (hm : ys.length ≤ 1000) :
    Calls Try.prog 71 #[v, v'] w fun e w' => e = .returned (.int .i64 (cmpL xs ys)) ∧ w = w' := by
  obtain ⟨A, c, rfl, _⟩ := id hx
  obtain ⟨A', c', rfl, _⟩ := id hy
  go_enter Try.func71, Try.ntmps71
  go_wp2
  go_loop [11] (fun i => ∃ k : Nat, k ≤ xs.length ∧ k ≤ ys.length ∧ i = .int .i64 k ∧ cmpL xs ys = cmpL (xs.drop k) (ys.drop k)) (fun i => xs.length - (intOf i).toNat)
  case atStart => exact ⟨0, Nat.zero_le _, Nat.zero_le _, rfl, rfl⟩
  case round =>
    obtain ⟨k, hk, hk2, rfl, he⟩ := hrel
    have He := Lib.hid he
    clear he
    by_cases h1 : k < xs.length
    · by_cases h2 : k < ys.length
      · obtain ⟨ad, rfl, _, d0⟩ := hx.int h1
        obtain ⟨ad', rfl, _, d1⟩ := hy.int h2
        have hs := cmpL_step xs ys k h1 h2
        generalize xs[k]?.getD 0 = x at *
        generalize ys[k]?.getD 0 = y at *
        by_cases hc : cmp1 x y = 0
        · rw [if_pos hc] at hs
          have hc2 : (cmp1 x y != 0) = false := by simpa using hc
          have Hs := Lib.hid hs
          clear hs hc
          go_wp2_with (go_at_call 90; refine (cmp1_any _ _ _).mono ?_; rintro e w' ⟨rfl, rfl⟩)
          go_round
          case rel => exact ⟨k + 1, by omega, by omega, by go_num, He.out.trans Hs.out⟩
          case measure => simp [intOf]; omega
        · rw [if_neg hc] at hs
          have hc2 : (cmp1 x y != 0) = true := by simpa using hc
          have Hs := Lib.hid hs
          clear hs hc
          go_wp2_with (go_at_call 90; refine (cmp1_any _ _ _).mono ?_; rintro e w' ⟨rfl, rfl⟩)
          go_ret
          exact ⟨ret_int (He.out.trans Hs.out).symm, rfl⟩
      · obtain ⟨ad, rfl, _, d0⟩ := hx.int h1
        have hs : cmpL (xs.drop k) (ys.drop k) = 1 := by
          rw [List.drop_eq_getElem_cons h1, List.drop_eq_nil_of_le (show ys.length ≤ k by omega)]; rfl
        have Hs := Lib.hid hs
        clear hs
        go_wp2
        go_ret
        exact ⟨ret_int (He.out.trans Hs.out).symm, rfl⟩
    · by_cases h2 : k < ys.length
      · have hs : cmpL (xs.drop k) (ys.drop k) = -1 := by
          rw [List.drop_eq_getElem_cons h2, List.drop_eq_nil_of_le (show xs.length ≤ k by omega)]; rfl
        have Hs := Lib.hid hs
        clear hs
        have h3 : xs.length < ys.length := by omega
        go_wp2
        go_ret
        exact ⟨ret_int (He.out.trans Hs.out).symm, rfl⟩
      · have hs : cmpL (xs.drop k) (ys.drop k) = 0 := by
          rw [List.drop_eq_nil_of_le (show xs.length ≤ k by omega), List.drop_eq_nil_of_le (by omega)]; rfl
        have Hs := Lib.hid hs
        clear hs
        have h3 : ¬ xs.length < ys.length := by omega
        go_wp2
        go_ret
        exact ⟨ret_int (He.out.trans Hs.out).symm, rfl⟩

theorem cmpL_lt : ∀ xs ys : List Nat, cmpL (xs.map Int.ofNat) (ys.map Int.ofNat) < 0 ↔ xs < ys := by
  intro xs
  induction xs with
  | nil =>
    intro ys
    cases ys with
    | nil => simp [cmpL]
    | cons y ys => simp [cmpL]
  | cons x xs ih =>
    intro ys
    cases ys with
    | nil => simp [cmpL]
    | cons y ys =>
      simp only [List.map_cons, cmpL, List.cons_lt_cons_iff]
      rw [← ih ys]
      by_cases h : x < y
      · have e : cmp1 (Int.ofNat x) (Int.ofNat y) = -1 := by unfold cmp1; rw [if_pos (by simpa using h)]
        rw [e, if_neg (by omega)]
        simp [h]
      · by_cases g : y < x
        · have e : cmp1 (Int.ofNat x) (Int.ofNat y) = 1 := by unfold cmp1; rw [if_neg (by simpa using h), if_pos (by simpa using g)]
          rw [e, if_neg (by omega)]
          simp [h]
          omega
        · have e : cmp1 (Int.ofNat x) (Int.ofNat y) = 0 := by unfold cmp1; rw [if_neg (by simpa using h), if_neg (by simpa using g)]
          rw [e, if_pos rfl]
          have : x = y := by omega
          simp [this]
end Go.Proofs.Ytkmaapkbonkjfaa
