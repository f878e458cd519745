/- Walks of the layer order: bits.Len below 256, list. Walks of the layer order: Compare of two lists of numbers. Plain laws of the sets of orders. -/
import Derived.Test.YtkmaapkbonkjfaaGApp
import Derived.Test.YtkmaapkbonkjfaaGPure
import Derived.Deep.Cut
set_option linter.unusedSimpArgs false
set_option linter.unusedVariables false
namespace Go.Proofs.Ytkmaapkbonkjfaa
open Go.RowKit

def lenB (x : Nat) : Nat := if x = 0 then 0 else x.log2 + 1

theorem geq_big (x : Nat) (n : Int) (h : (x : Int) < n) (w : World) : (binOp .geq 144 (.int .u64 x) (.int .u64 n)).run Try.prog w = .ok (.bool false) w := by
  have h2 : ¬ n ≤ (x : Int) := by omega
  simp [go_sem, h2]
def tabOk (s : ByteArray) : Bool := s.size == 256 && (List.range 256).all fun i => (s.data.toList.getD i 0).toNat == lenB i
theorem tab_run (s : ByteArray) (hs : tabOk s = true) (x : Nat) (hx : x < 256) (w : World) : (Instr.index 9 (.string s) (.int .u8 x)).run Try.prog w = .ok (.int .u8 (lenB x)) w := by
  unfold tabOk at hs
  simp only [Bool.and_eq_true, beq_iff_eq, List.all_eq_true, List.mem_range] at hs
  obtain ⟨h1, h2⟩ := hs
  rw [run_index_string (P := Try.prog) w 9 s .u8 x (by kernel_rfl), dif_pos ⟨by omega, by omega⟩]
  have := h2 x hx
  congr 2
  rw [← this]
  have hx2 : x < s.data.size := by have : s.data.size = s.size := rfl; omega
  have h3 : s.data[x]? = some s.data[x] := Array.getElem?_eq_getElem hx2
  simp only [List.getD, Array.getElem?_toList, h3, Option.getD_some]
  rfl
theorem lenB_le (x : Nat) (hx : x < 256) : lenB x ≤ 8 := by
  unfold lenB
  split
  · omega
  · have := (Nat.log2_lt (n := x) (k := 8) (by omega)).2 (by omega)
    omega
set_option maxRecDepth 100000 in
theorem len64_any (x : Nat) (hx : x < 256) (w : World) : Calls Try.prog 94 #[.int .u64 x] w fun e w' => e = .returned (.int .i64 (lenB x)) ∧ w = w' := by
  have hg1 := geq_big x 4294967296 (by omega)
  have hg2 := geq_big x 65536 (by omega)
  have hg3 := geq_big x 256 (by omega)
  have hl := lenB_le x hx
  generalize hn : lenB x = n at *
  go_enter Try.func94, Try.ntmps94
  generalize hT : Value.string ⟨_⟩ = T
  generalize Value.int .u64 4294967296 = M1 at *
  generalize Value.int .u64 65536 = M2 at *
  generalize Value.int .u64 256 = M3 at *
  have hrun : ∀ w : World, (Instr.index 9 T (.int .u8 x)).run Try.prog w = .ok (.int .u8 n) w := by
    rw [← hT, ← hn]
    exact tab_run _ (by kernel_rfl) x hx
  clear hT hn
  go_upto_region 10 with (fail)
  go_wp2
  go_ret
  exact ⟨rfl, rfl⟩
theorem len_any (x : Nat) (hx : x < 256) (w : World) : Calls Try.prog 89 #[.int .u64 x] w fun e w' => e = .returned (.int .i64 (lenB x)) ∧ w = w' := by
  have h := len64_any x hx
  go_enter Try.func89, Try.ntmps89
  go_wp2_with (go_at_call 94; refine (h _).mono ?_; rintro e w' ⟨rfl, rfl⟩)
  go_ret
  exact ⟨rfl, rfl⟩

theorem shr_run (x k : Nat) (_hx : x < 256) (hk : k < 8) (w : World) : (binOp .shr 3 (.int .i64 x) (.int .i64 k)).run Try.prog w = .ok (.int .i64 ((x / 2 ^ k : Nat) : Int)) w := by
  simp [go_sem]
theorem bits_and_i64 (a b : Nat) (ha : a < 256) (hb : b < 256) : bits .and .i64 a b = ((a &&& b : Nat) : Int) := by
  show IntKind.i64.wrap ((BitVec.ofInt 64 (a : Int) &&& BitVec.ofInt 64 (b : Int)).toNat : Int) = _
  simp only [BitVec.ofInt_natCast]
  rw [BitVec.toNat_and, BitVec.toNat_ofNat, BitVec.toNat_ofNat, Nat.mod_eq_of_lt (by omega), Nat.mod_eq_of_lt (by omega)]
  have h : a &&& b < 256 := Nat.lt_of_le_of_lt Nat.and_le_left ha
  have := IntWalk.i64_in ((a &&& b : Nat) : Int) (by omega)
  exact this
theorem and_run (a b : Nat) (ha : a < 256) (hb : b < 256) (w : World) : (binOp .and 3 (.int .i64 a) (.int .i64 b)).run Try.prog w = .ok (.int .i64 ((a &&& b : Nat) : Int)) w := by
  simp [go_sem, bits_and_i64 a b ha hb]

theorem bit_at (x k : Nat) : (((x / 2 ^ k) &&& 1 : Nat) : Int) = if x.testBit k then 1 else 0 := by
  rw [Nat.and_one_is_mod, Nat.testBit_eq_decide_div_mod_eq]
  by_cases h : x / 2 ^ k % 2 = 1
  · simp [h]
  · have : x / 2 ^ k % 2 = 0 := by omega
    simp [this]
theorem bit_test (x k : Nat) (hx : x < 256) : (bits .and .i64 ((x : Int) / 2 ^ k) 1 == 1) = x.testBit k := by
  have hyl : x / 2 ^ k < 256 := Nat.lt_of_le_of_lt (Nat.div_le_self _ _) hx
  have h := bits_and_i64 (x / 2 ^ k) 1 hyl (by omega)
  rw [bit_at] at h
  rw [Int.natCast_ediv, Int.natCast_pow] at h
  rw [show bits .and .i64 ((x : Int) / 2 ^ k) 1 = _ from h]
  cases x.testBit k <;> rfl
def upTo (x k : Nat) : List Int := ((List.range k).filter fun i => x.testBit i).map Int.ofNat
theorem upTo_succ (x k : Nat) : upTo x (k + 1) = upTo x k ++ if x.testBit k then [(k : Int)] else [] := by
  unfold upTo
  rw [List.range_succ, List.filter_append, List.map_append]
  by_cases h : x.testBit k = true
  · simp [h]
  · simp [h]
theorem upTo_len (x : Nat) : ∀ n, lenB x ≤ n → upTo x n = upTo x (lenB x) := by
  intro n hn
  obtain ⟨d, rfl⟩ : ∃ d, n = lenB x + d := ⟨n - lenB x, by omega⟩
  clear hn
  induction d with
  | zero => rfl
  | succ d ih =>
    have hb : x.testBit (lenB x + d) = false := by
      apply Nat.testBit_lt_two_pow
      unfold lenB
      split
      · rename_i h; rw [h]; exact Nat.two_pow_pos _
      · rename_i h
        exact Nat.lt_of_lt_of_le (Nat.lt_log2_self) (Nat.pow_le_pow_right (by omega) (by omega))
    rw [← Nat.add_assoc, upTo_succ, ih, hb]
    simp
theorem upTo_bits (n x : Nat) : (bitsOf n x).map Int.ofNat = upTo x n := rfl
theorem upTo_le (x k : Nat) : (upTo x k).length ≤ k := by
  unfold upTo
  rw [List.length_map]
  have := List.length_filter_le (fun i => x.testBit i) (List.range k)
  simpa using this

set_option maxRecDepth 100000 in
theorem list_any (x n : Nat) (hx : x < 256) (hn : lenB x ≤ n) (w : World) : Calls Try.prog 70 #[.int .i64 x] w fun e w' => ∃ A c, e = .returned (.slice A (bitsOf n x).length c) ∧ Own w.heap.size 3 w' (.slice A (bitsOf n x).length c) ((bitsOf n x).map Int.ofNat) ∧ Below w.heap.size w w' := by
  have hle := lenB_le x hx
  have hfin := upTo_len x n hn
  rw [← upTo_bits] at hfin
  have hlen : (bitsOf n x).length = (upTo x (lenB x)).length := by rw [← hfin, List.length_map]
  rw [hlen, hfin]
  have hl := len_any x hx
  clear hfin hlen hn
  generalize lenB x = m at *
  go_enter Try.func70, Try.ntmps70
  go_wp2_with (go_at_call 89; refine (hl _).mono ?_; rintro e w' ⟨rfl, rfl⟩)
  clear hl
  go_loopw [2, 7] (fun v i wr => ∃ (k : Nat) (A : Option Addr) (c : Nat), k ≤ m ∧ i = .int .i64 k ∧ v = .slice A (upTo x k).length c ∧ Own w.heap.size 3 wr (.slice A (upTo x k).length c) (upTo x k) ∧ Below w.heap.size w wr) (fun _ i _ => m - (intOf i).toNat)
  case atStart => exact ⟨0, none, 0, Nat.zero_le _, rfl, rfl, Own.nil _ _ _, Below.refl _ _⟩
  case round =>
    obtain ⟨k, A, c, hk, rfl, rfl, hown, hb⟩ := hrel
    by_cases hlt : k < m
    · have hba := bit_test x k hx
      have hsn := upTo_succ x k
      have hll := upTo_le x k
      have Hsn := Lib.hid hsn
      have hsz := hb.size
      clear hsn
      cases hbit : x.testBit k with
      | true =>
        rw [hbit] at hba Hsn
        obtain ⟨A2, c2, w2, hrun, hown2, hb2, _⟩ := append_int hown (k : Int) (by omega) hsz
        have Hown := Lib.hid hown2
        have Hb := Lib.hid (hb.trans hb2)
        clear hown hb hown2 hb2 hbit
        generalize upTo x k = u at *
        go_wp2_with (at_builtin; refine wpList_append_run rfl _ _ _ rfl rfl rfl hrun ?_)
        go_roundw
        case rel =>
          refine ⟨k + 1, A2, c2, by omega, by go_num, ?_, ?_, Hb.out⟩
          · rw [Hsn.out]; simp
          · rw [Hsn.out]; simpa using Hown.out
        case measure => simp [intOf]; omega
      | false =>
        rw [hbit] at hba Hsn
        have Hown := Lib.hid hown
        have Hb := Lib.hid hb
        clear hown hb hbit
        generalize upTo x k = u at *
        go_wp2
        go_roundw
        case rel =>
          refine ⟨k + 1, A, c, by omega, by go_num, ?_, ?_, Hb.out⟩
          · rw [Hsn.out]; simp
          · rw [Hsn.out]; simpa using Hown.out
        case measure => simp [intOf]; omega
    · have hkm : k = m := by omega
      subst hkm
      have Hown := Lib.hid hown
      have Hb := Lib.hid hb
      clear hown hb
      go_wp2
      go_ret
      exact ⟨A, c, rfl, Hown.out, Hb.out⟩
end Go.Proofs.Ytkmaapkbonkjfaa
namespace Go.Proofs.Ytkmaapkbonkjfaa
open Go.RowKit

def cmp1 (a b : Int) : Int := if a < b then -1 else if b < a then 1 else 0
def cmpL : List Int → List Int → Int
  | [], [] => 0
  | [], _ :: _ => -1
  | _ :: _, [] => 1
  | x :: xs, y :: ys => if cmp1 x y = 0 then cmpL xs ys else cmp1 x y

theorem nan_any (a : Int) (w : World) : Calls Try.prog 95 #[.int .i64 a] w fun e w' => e = .returned (.bool false) ∧ w = w' := by
  go_enter Try.func95, Try.ntmps95
  go_wp2
  go_ret
  exact ⟨ret_bool (by simp), rfl⟩
theorem cmp1_any (a b : Int) (w : World) : Calls Try.prog 90 #[.int .i64 a, .int .i64 b] w fun e w' => e = .returned (.int .i64 (cmp1 a b)) ∧ w = w' := by
  unfold cmp1
  by_cases h : a < b
  · rw [if_pos h]
    have h2 : decide (a < b) = true := by simpa using h
    go_enter Try.func90, Try.ntmps90
    go_wp2_with (go_at_call 95; refine (nan_any _ _).mono ?_; rintro e w' ⟨rfl, rfl⟩)
    go_ret
    exact ⟨rfl, rfl⟩
  · rw [if_neg h]
    by_cases g : b < a
    · rw [if_pos g]
      go_enter Try.func90, Try.ntmps90
      go_wp2_with (go_at_call 95; refine (nan_any _ _).mono ?_; rintro e w' ⟨rfl, rfl⟩)
      go_ret
      exact ⟨rfl, rfl⟩
    · rw [if_neg g]
      go_enter Try.func90, Try.ntmps90
      go_wp2_with (go_at_call 95; refine (nan_any _ _).mono ?_; rintro e w' ⟨rfl, rfl⟩)
      go_ret
      exact ⟨rfl, rfl⟩

theorem cmpL_step (xs ys : List Int) (k : Nat) (h1 : k < xs.length) (h2 : k < ys.length) :
    cmpL (xs.drop k) (ys.drop k) = if cmp1 (xs[k]?.getD 0) (ys[k]?.getD 0) = 0 then cmpL (xs.drop (k + 1)) (ys.drop (k + 1)) else cmp1 (xs[k]?.getD 0) (ys[k]?.getD 0) := by
  rw [List.drop_eq_getElem_cons h1, List.drop_eq_getElem_cons h2]
  simp [cmpL, h1, h2]

theorem compare_any {B B' : Nat} {w : World} {v v' : Value} {xs ys : List Int} (hx : Rd IntAt 1 B w v xs) (hy : Rd IntAt 1 B' w v' ys) (hn : xs.length ≤ 1000) (_hm : ys.length ≤ 1000) :
    Calls Try.prog 71 #[v, v'] w fun e w' => e = .returned (.int .i64 (cmpL xs ys)) ∧ w = w' := by
  obtain ⟨A, c, rfl, _⟩ := id hx
  obtain ⟨A', c', rfl, _⟩ := id hy
  go_enter Try.func71, Try.ntmps71
  go_wp2
  go_loop [11] (fun i => ∃ k : Nat, k ≤ xs.length ∧ k ≤ ys.length ∧ i = .int .i64 k ∧ cmpL xs ys = cmpL (xs.drop k) (ys.drop k)) (fun i => xs.length - (intOf i).toNat)
  case atStart => exact ⟨0, Nat.zero_le _, Nat.zero_le _, rfl, rfl⟩
  case round =>
    obtain ⟨k, hk, hk2, rfl, he⟩ := hrel
    have He := Lib.hid he
    clear he
    by_cases h1 : k < xs.length
    · by_cases h2 : k < ys.length
      · obtain ⟨ad, rfl, _, d0⟩ := hx.int h1
        obtain ⟨ad', rfl, _, d1⟩ := hy.int h2
        have hs := cmpL_step xs ys k h1 h2
        generalize xs[k]?.getD 0 = x at *
        generalize ys[k]?.getD 0 = y at *
        by_cases hc : cmp1 x y = 0
        · rw [if_pos hc] at hs
          have hc2 : (cmp1 x y != 0) = false := by simpa using hc
          have Hs := Lib.hid hs
          clear hs hc
          go_wp2_with (go_at_call 90; refine (cmp1_any _ _ _).mono ?_; rintro e w' ⟨rfl, rfl⟩)
          go_round
          case rel => exact ⟨k + 1, by omega, by omega, by go_num, He.out.trans Hs.out⟩
          case measure => simp [intOf]; omega
        · rw [if_neg hc] at hs
          have hc2 : (cmp1 x y != 0) = true := by simpa using hc
          have Hs := Lib.hid hs
          clear hs hc
          go_wp2_with (go_at_call 90; refine (cmp1_any _ _ _).mono ?_; rintro e w' ⟨rfl, rfl⟩)
          go_ret
          exact ⟨ret_int (He.out.trans Hs.out).symm, rfl⟩
      · obtain ⟨ad, rfl, _, d0⟩ := hx.int h1
        have hs : cmpL (xs.drop k) (ys.drop k) = 1 := by
          rw [List.drop_eq_getElem_cons h1, List.drop_eq_nil_of_le (show ys.length ≤ k by omega)]; rfl
        have Hs := Lib.hid hs
        clear hs
        go_wp2
        go_ret
        exact ⟨ret_int (He.out.trans Hs.out).symm, rfl⟩
    · by_cases h2 : k < ys.length
      · have hs : cmpL (xs.drop k) (ys.drop k) = -1 := by
          rw [List.drop_eq_getElem_cons h2, List.drop_eq_nil_of_le (show xs.length ≤ k by omega)]; rfl
        have Hs := Lib.hid hs
        clear hs
        have h3 : xs.length < ys.length := by omega
        go_wp2
        go_ret
        exact ⟨ret_int (He.out.trans Hs.out).symm, rfl⟩
      · have hs : cmpL (xs.drop k) (ys.drop k) = 0 := by
          rw [List.drop_eq_nil_of_le (show xs.length ≤ k by omega), List.drop_eq_nil_of_le (by omega)]; rfl
        have Hs := Lib.hid hs
        clear hs
        have h3 : ¬ xs.length < ys.length := by omega
        go_wp2
        go_ret
        exact ⟨ret_int (He.out.trans Hs.out).symm, rfl⟩

theorem cmpL_lt : ∀ xs ys : List Nat, cmpL (xs.map Int.ofNat) (ys.map Int.ofNat) < 0 ↔ xs < ys := by
  intro xs
  induction xs with
  | nil =>
    intro ys
    cases ys with
    | nil => simp [cmpL]
    | cons y ys => simp [cmpL]
  | cons x xs ih =>
    intro ys
    cases ys with
    | nil => simp [cmpL]
    | cons y ys =>
      simp only [List.map_cons, cmpL, List.cons_lt_cons_iff]
      rw [← ih ys]
      by_cases h : x < y
      · have e : cmp1 (Int.ofNat x) (Int.ofNat y) = -1 := by unfold cmp1; rw [if_pos (by simpa using h)]
        rw [e, if_neg (by omega)]
        simp [h]
      · by_cases g : y < x
        · have e : cmp1 (Int.ofNat x) (Int.ofNat y) = 1 := by unfold cmp1; rw [if_neg (by simpa using h), if_pos (by simpa using g)]
          rw [e, if_neg (by omega)]
          simp [h]
          omega
        · have e : cmp1 (Int.ofNat x) (Int.ofNat y) = 0 := by unfold cmp1; rw [if_neg (by simpa using h), if_neg (by simpa using g)]
          rw [e, if_pos rfl]
          have : x = y := by omega
          simp [this]
end Go.Proofs.Ytkmaapkbonkjfaa
namespace Go.Proofs.Ytkmaapkbonkjfaa

theorem lenB_lt {x n : Nat} (h : x < 2 ^ n) : lenB x ≤ n := by
  unfold lenB
  split
  · omega
  · rename_i h0
    have := (Nat.log2_lt (n := x) (k := n) h0).2 h
    omega
theorem bits_mem {n x i : Nat} (h : i ∈ bitsOf n x) : i < n ∧ x.testBit i = true := by
  unfold bitsOf at h
  simpa using h
theorem bits_len (n x : Nat) : (bitsOf n x).length ≤ n := by
  unfold bitsOf
  have := List.length_filter_le (fun i => x.testBit i) (List.range n)
  simpa using this
def takeP (s : ShopR) (a b x : Nat) : Bool := (x &&& a == a) && (x &&& b == 0) && canB s (ordsOf s (bitsOf s.orders.length x))
def setNs (s : ShopR) (a b : Nat) : List Nat := (List.range (2 ^ s.orders.length)).filter (takeP s a b)
theorem setNs_sets (s : ShopR) (a b : Nat) : (setNs s a b).map (bitsOf s.orders.length) = setsOf s a b := by
  unfold setNs setsOf
  rw [List.filter_map, List.filter_filter]
  congr 1
  refine List.filter_congr fun x _ => ?_
  simp [takeP, Function.comp, Bool.and_comm]
def cntS (s : ShopR) (a b x : Nat) : Nat := ((List.range x).filter (takeP s a b)).length
theorem cntS_zero (s : ShopR) (a b : Nat) : cntS s a b 0 = 0 := rfl
theorem cntS_end (s : ShopR) (a b : Nat) : cntS s a b (2 ^ s.orders.length) = (setNs s a b).length := rfl
theorem cntS_no {s : ShopR} {a b x : Nat} (h : takeP s a b x = false) : cntS s a b (x + 1) = cntS s a b x := by
  unfold cntS
  rw [List.range_succ, List.filter_append]
  simp [h]
theorem cntS_yes {s : ShopR} {a b x : Nat} (h : takeP s a b x = true) : cntS s a b (x + 1) = cntS s a b x + 1 := by
  unfold cntS
  rw [List.range_succ, List.filter_append]
  simp [h]
theorem setNs_at {s : ShopR} {a b x : Nat} (hx : x < 2 ^ s.orders.length) (h : takeP s a b x = true) : cntS s a b x < (setNs s a b).length ∧ (setNs s a b).getD (cntS s a b x) 0 = x := by
  have e : List.range (2 ^ s.orders.length) = List.range x ++ (List.range (2 ^ s.orders.length - x)).map (x + ·) := by
    rw [← List.range_add]
    congr 1
    omega
  obtain ⟨d, hd⟩ : ∃ d, 2 ^ s.orders.length - x = d + 1 := ⟨2 ^ s.orders.length - x - 1, by omega⟩
  have e2 : setNs s a b = (List.range x).filter (takeP s a b) ++ x :: ((List.range d).map (x + 1 + ·)).filter (takeP s a b) := by
    unfold setNs
    rw [e, hd, List.filter_append, List.range_succ_eq_map, List.map_cons, List.filter_cons, if_pos (by simpa using h)]
    congr 2
    rw [List.map_map]
    congr 1
    refine List.map_congr_left fun i _ => ?_
    simp; omega
  rw [e2]
  unfold cntS
  constructor
  · simp
  · simp [List.getD]
theorem ords_len (s : ShopR) (X : List Nat) : (ordsOf s X).length = X.length := by simp [ordsOf]
theorem fit_ords {s : ShopR} (hg : Good s) (x : Nat) : Fit s (ordsOf s (bitsOf s.orders.length x)) := by
  have h := bits_len s.orders.length x
  have := hg.olen
  refine ⟨by rw [ords_len]; omega, fun o ho => ?_⟩
  unfold ordsOf at ho
  obtain ⟨i, hi, rfl⟩ := List.mem_map.1 ho
  exact hg.ord (bits_mem hi).1
theorem worth_snoc (s : ShopR) (X : List Nat) (i : Nat) : worthOf s (X ++ [i]) = worthOf s X + (s.orders.getD i default).worth := by
  simp [worthOf, ordsOf]
theorem worth_bd {s : ShopR} (hg : Good s) : ∀ {X : List Nat}, (∀ i ∈ X, i < s.orders.length) → 0 ≤ worthOf s X ∧ worthOf s X ≤ 10000 * X.length := by
  intro X
  induction X with
  | nil => intro _; simp [worthOf, ordsOf]
  | cons i X ih =>
    intro h
    have h1 := ih fun j hj => h j (by simp [hj])
    have h2 := (hg.ord (h i (by simp))).worth
    have e : worthOf s (i :: X) = (s.orders.getD i default).worth + worthOf s X := by simp [worthOf, ordsOf]
    rw [e]
    simp only [List.length_cons]
    omega
end Go.Proofs.Ytkmaapkbonkjfaa
