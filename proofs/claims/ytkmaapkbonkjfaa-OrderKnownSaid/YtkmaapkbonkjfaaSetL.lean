/- Plain laws of the sets of orders. -/
import Derived.Test.YtkmaapkbonkjfaaBits
namespace Go.Proofs.Ytkmaapkbonkjfaa

theorem lenB_lt {x n : Nat} (h : x < 2 ^ n) : lenB x ≤ n := by
  unfold lenB
  split
  · omega
  · rename_i h0
    have := (Nat.log2_lt (n := x) (k := n) h0).2 h
    omega
theorem bits_mem {n x i : Nat} (h : i ∈ bitsOf n x) : i < n ∧ x.testBit i = true := by
  unfold bitsOf at h
  simpa using h
theorem bits_len (n x : Nat) : (bitsOf n x).length ≤ n := by
  unfold bitsOf
  have := List.length_filter_le (fun i => x.testBit i) (List.range n)
  simpa using this
def takeP (s : ShopR) (a b x : Nat) : Bool := (x &&& a == a) && (x &&& b == 0) && canB s (ordsOf s (bitsOf s.orders.length x))
def setNs (s : ShopR) (a b : Nat) : List Nat := (List.range (2 ^ s.orders.length)).filter (takeP s a b)
theorem setNs_sets (s : ShopR) (a b : Nat) : (setNs s a b).map (bitsOf s.orders.length) = setsOf s a b := by
  unfold setNs setsOf
  rw [List.filter_map, List.filter_filter]
  congr 1
  refine List.filter_congr fun x _ => ?_
  simp [takeP, Function.comp, Bool.and_comm]
def cntS (s : ShopR) (a b x : Nat) : Nat := ((List.range x).filter (takeP s a b)).length
theorem cntS_zero (s : ShopR) (a b : Nat) : cntS s a b 0 = 0 := rfl
theorem cntS_end (s : ShopR) (a b : Nat) : cntS s a b (2 ^ s.orders.length) = (setNs s a b).length := rfl
theorem cntS_no {s : ShopR} {a b x : Nat} (h : takeP s a b x = false) : cntS s a b (x + 1) = cntS s a b x := by
  unfold cntS
  rw [List.range_succ, List.filter_append]
  simp [h]
theorem cntS_yes {s : ShopR} {a b x : Nat} (h : takeP s a b x = true) : cntS s a b (x + 1) = cntS s a b x + 1 := by
  unfold cntS
  rw [List.range_succ, List.filter_append]
  simp [h]
theorem setNs_at {s : ShopR} {a b x : Nat} (hx : x < 2 ^ s.orders.length) (h : takeP s a b x = true) : cntS s a b x < (setNs s a b).length ∧ (setNs s a b).getD (cntS s a b x) 0 = x := by
  have e : List.range (2 ^ s.orders.length) = List.range x ++ (List.range (2 ^ s.orders.length - x)).map (x + ·) := by
    rw [← List.range_add]
    congr 1
    omega
  obtain ⟨d, hd⟩ : ∃ d, 2 ^ s.orders.length - x = d + 1 := ⟨2 ^ s.orders.length - x - 1, by omega⟩
  have e2 : setNs s a b = (List.range x).filter (takeP s a b) ++ x :: ((List.range d).map (x + 1 + ·)).filter (takeP s a b) := by
    unfold setNs
    rw [e, hd, List.filter_append, List.range_succ_eq_map, List.map_cons, List.filter_cons, if_pos (by simpa using h)]
    congr 2
    rw [List.map_map]
    congr 1
    refine List.map_congr_left fun i _ => ?_
    simp; omega
  rw [e2]
  unfold cntS
  constructor
  · simp
  · simp [List.getD]
theorem ords_len (s : ShopR) (X : List Nat) : (ordsOf s X).length = X.length := by simp [ordsOf]
theorem fit_ords {s : ShopR} (hg : Good s) (x : Nat) : Fit s (ordsOf s (bitsOf s.orders.length x)) := by
  have h := bits_len s.orders.length x
  have := hg.olen
  refine ⟨by rw [ords_len]; omega, fun o ho => ?_⟩
  unfold ordsOf at ho
  obtain ⟨i, hi, rfl⟩ := List.mem_map.1 ho
  exact hg.ord (bits_mem hi).1
theorem worth_snoc (s : ShopR) (X : List Nat) (i : Nat) : worthOf s (X ++ [i]) = worthOf s X + (s.orders.getD i default).worth := by
  simp [worthOf, ordsOf]
theorem worth_bd {s : ShopR} (hg : Good s) : ∀ {X : List Nat}, (∀ i ∈ X, i < s.orders.length) → 0 ≤ worthOf s X ∧ worthOf s X ≤ 10000 * X.length := by
  intro X
  induction X with
  | nil => intro _; simp [worthOf, ordsOf]
  | cons i X ih =>
    intro h
    have h1 := ih fun j hj => h j (by simp [hj])
    have h2 := (hg.ord (h i (by simp))).worth
    have e : worthOf s (i :: X) = (s.orders.getD i default).worth + worthOf s X := by simp [worthOf, ordsOf]
    rw [e]
    simp only [List.length_cons]
    omega
end Go.Proofs.Ytkmaapkbonkjfaa
