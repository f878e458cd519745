/- Parts of the proof of TpP: TpF. -/
import Derived.Test.YthnimhnlnddnoaaGreatDoorH4
import Derived.Test.YthnimhnlnddnoaaGreatDoorH17
import Derived.Test.YthnimhnlnddnoaaGreatDoorH6
import Derived.Test.YthnimhnlnddnoaaGreatDoorH8
set_option linter.unusedSimpArgs false
set_option linter.unusedVariables false
set_option maxRecDepth 100000
set_option maxHeartbeats 8000000
namespace Go.Proofs.YthnimhnlnddnoaaGreatDoor
open Go.RowKit Go.WideShapes Go.ChangeShapes Go.ChangeAt Go.Deep Go.Joins
theorem db_tab : (Rows.laid_math_bits_deBruijn64tab : DataW Unit) = Lib.tabData .u8 tab64 := by kernel_rfl
theorem laid_db : laidX[1]? = some ("math/bits.deBruijn64tab", Rows.laid_math_bits_deBruijn64tab) := rfl
theorem dbt_of {W : World} (h : laidMetH Tryz.prog laidX W) : DbT W := by
 rw [MakeChecks.laidMetH_plain _ _ _ laid_plain] at h
 have hm := List.mem_of_getElem? laid_db
 rw [db_tab] at hm
 exact var_tab (g := 1) h hm (by kernel_rfl) (by kernel_rfl) Tryz.underlying198 Tryz.underlying5 (by kernel_rfl) (by kernel_rfl)
section
variable {H : Type} {enc : TypeId × Value → H} {W : World} {base : Nat} {sp : Nat → Bool} {held : Bool}
theorem word3 {n : Nat} {cs : List Value} {y : DataW H × List MemPlace} (h : DataW.trod enc Tryz.prog W base sp held n 25 cs = some y) : ∃ x : Int, cs = [.int .u16 x] ∧ 0 ≤ x ∧ x ≤ 65535 := by
 obtain ⟨k, hk, _, hw⟩ := DataW.trod_int Tryz.underlying25 h
 simp only [Lit.wf, Bool.and_eq_true, decide_eq_true_eq] at hw
 obtain ⟨h0, h1⟩ := hw
 have h0' : (0 : Int) ≤ k := h0
 have h1' : k ≤ (65535 : Int) := h1
 exact ⟨k, hk, h0', h1'⟩
theorem open_bits {r : Reach} {b0 : Nat} {v : Value} {d : DataW H} {p : List MemPlace} (hv : Value.okWide Tryz.prog W r b0 25 v) (h : DataW.Trod enc Tryz.prog W base sp held 25 v d p) : ∃ x : Nat, v = .int .u16 x ∧ x ≤ 65535 := by
 obtain ⟨fuel, hf⟩ := h
 obtain ⟨k, hk, h0, h1⟩ := word3 hf
 obtain ⟨n, rfl⟩ := okWide_int Tryz.underlying25 hv
 cases hk
 obtain ⟨x, rfl⟩ := Int.eq_ofNat_of_zero_le h0
 exact ⟨x, rfl, by omega⟩
theorem words3 {fuel : Nat} {v : Value} {x : DataW H × List MemPlace} (h : DataW.trod enc Tryz.prog W base sp held fuel 23 [v] = some x) : ∃ xs : List Int, Rd U16At 1 W.heap.size W v xs ∧ ∀ y ∈ xs, 0 ≤ y ∧ y ≤ 65535 :=
 rd_open (α := Int) (At := U16At) (sz := 1) (Q := fun y => 0 ≤ y ∧ y ≤ 65535) Tryz.underlying23 (by kernel_rfl) (by omega) (fun a n cs x hat hlen htr => by
  obtain ⟨k, q, h0, h1⟩ := word3 htr
  cases q
  exact ⟨k, by simpa [Addr.add, U16At] using hat 0 (by omega), h0, h1⟩) h
theorem open_three {r : Reach} {b0 : Nat} {v : Value} {d : DataW H} {p : List MemPlace} (hv : Value.okWide Tryz.prog W r b0 24 v) (h : DataW.Trod enc Tryz.prog W base sp held 24 v d p) :
  ∃ v0 v1 v2 : Value, v = .agg #[v0, v1, v2] ∧ (∃ xs : List Int, Rd U16At 1 W.heap.size W v0 xs ∧ ∀ y ∈ xs, 0 ≤ y ∧ y ≤ 65535) ∧ (∃ xs : List Int, Rd U16At 1 W.heap.size W v1 xs ∧ ∀ y ∈ xs, 0 ≤ y ∧ y ≤ 65535) ∧ ∃ xs : List Int, Rd U16At 1 W.heap.size W v2 xs ∧ ∀ y ∈ xs, 0 ≤ y ∧ y ≤ 65535 := by
 simp only [Value.okWide, Tryz.underlying24] at hv
 obtain ⟨xs, rfl, hsz, _⟩ := hv
 have hsz : xs.size = 3 := hsz.trans (by kernel_rfl)
 have hce : Tryz.prog.cellsOf 23 = 1 := by kernel_rfl
 obtain ⟨fuel, hf⟩ := h
 obtain ⟨ys, m, _, _, hlen, hyl, hi⟩ := DataW.trod_array Tryz.underlying24 hf
 have key : ∀ i (h : i < 3), ∃ y, DataW.trod enc Tryz.prog W base sp held m 23 [xs[i]'(by omega)] = some y := fun i hi2 => by
  have h1 := hi i hi2
  rw [hce, Nat.mul_one] at h1
  simp only [Value.cells] at h1
  rw [List.drop_eq_getElem_cons (by simpa [hsz] using hi2)] at h1
  refine ⟨ys[i], ?_⟩
  simpa [List.getElem?_eq_getElem (show i < ys.length by omega)] using h1
 obtain ⟨_, t0⟩ := key 0 (by omega)
 obtain ⟨_, t1⟩ := key 1 (by omega)
 obtain ⟨_, t2⟩ := key 2 (by omega)
 refine ⟨xs[0], xs[1], xs[2], ?_, words3 t0, words3 t1, words3 t2⟩
 congr 1
 apply Array.ext (by simpa using hsz)
 intro i h1 h2
 match i, h2 with
 | 0, _ => rfl
 | 1, _ => rfl
 | 2, _ => rfl
theorem rivers_open {fuel : Nat} {v : Value} {x : DataW H × List MemPlace} (h : DataW.trod enc Tryz.prog W base sp held fuel 22 [v] = some x) : ∃ xs : List RvR, Rd RvAt 4 W.heap.size W v xs ∧ ∀ y ∈ xs, y.name.size ≤ 9223372036854775807 :=
 rd_open (α := RvR) (At := RvAt) (sz := 4) (Q := fun y => y.name.size ≤ 9223372036854775807) Tryz.underlying22 (by kernel_rfl) (by omega) (fun a n cs x hat hlen htr => by
  obtain ⟨y0, m0, t0⟩ := field_at (o := 0) (k := 1) Tryz.underlying51 htr (j := 0) rfl rfl rfl (by kernel_rfl)
  obtain ⟨y1, m1, t1⟩ := field_at (o := 1) (k := 1) Tryz.underlying51 htr (j := 1) rfl rfl rfl (by kernel_rfl)
  obtain ⟨y2, m2, t2⟩ := field_at (o := 2) (k := 1) Tryz.underlying51 htr (j := 2) rfl rfl rfl (by kernel_rfl)
  obtain ⟨y3, m3, t3⟩ := field_at (o := 3) (k := 1) Tryz.underlying51 htr (j := 3) rfl rfl rfl (by kernel_rfl)
  obtain ⟨s, q, _, hs⟩ := DataW.trod_string Tryz.underlying9 t0
  have q0 : cs[0]? = some (.string s) := by
   have h0 : ((cs.drop 0).take 1)[0]? = some (.string s) := by rw [q]; rfl
   simpa using h0
  obtain ⟨k1, q1⟩ := int_at t1
  obtain ⟨k2, q2⟩ := int_at t2
  obtain ⟨k3, q3⟩ := int_at t3
  refine ⟨⟨s, k1, k2, k3⟩, ⟨?_, ?_, ?_, ?_⟩, by unfold maxLen at hs; exact hs⟩
  ·have := hat 0 (by omega); rw [q0] at this; simpa [Addr.add] using this
  ·have := hat 1 (by omega); rw [q1] at this; simpa [Addr.add] using this
  ·have := hat 2 (by omega); rw [q2] at this; simpa [Addr.add] using this
  ·have := hat 3 (by omega); rw [q3] at this; simpa [Addr.add] using this) h
theorem open_rivers {r : Reach} {b0 : Nat} {v : Value} {d : DataW H} {p : List MemPlace} (hv : Value.okWide Tryz.prog W r b0 22 v) (h : DataW.Trod enc Tryz.prog W base sp held 22 v d p) :
  ∃ xs : List RvR, Rd RvAt 4 W.heap.size W v xs ∧ ∀ i, i < xs.length → (rvN xs i).size ≤ 9223372036854775807 := by
 obtain ⟨a, l, c, rfl⟩ := okWide_slice Tryz.underlying22 hv
 obtain ⟨fuel, hf⟩ := h
 obtain ⟨xs, hr, hq⟩ := rivers_open hf
 refine ⟨xs, hr, fun i hi => ?_⟩
 unfold rvN
 rw [List.getD_eq_getElem?_getD, List.getElem?_eq_getElem hi]
 exact hq _ (List.getElem_mem hi)
end
end Go.Proofs.YthnimhnlnddnoaaGreatDoor
