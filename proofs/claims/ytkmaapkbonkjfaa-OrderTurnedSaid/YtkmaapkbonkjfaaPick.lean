/- Plain laws: orders that are taken by a test; orders that are due by a day. -/
import Derived.Test.YtkmaapkbonkjfaaGKept
import Derived.Test.YtkmaapkbonkjfaaGEnter
import Derived.Test.YtkmaapkbonkjfaaGBits
set_option linter.unusedSimpArgs false
set_option linter.unusedVariables false
namespace Go.Proofs.Ytkmaapkbonkjfaa

/-- the numbers below n that pass -/
def pick (n : Nat) (p : Nat → Bool) : List Int := ((List.range n).filter p).map Int.ofNat
theorem pick_upTo (x n : Nat) : upTo x n = pick n fun i => x.testBit i := rfl
theorem pick_len (n : Nat) (p : Nat → Bool) : (pick n p).length ≤ n := by
  unfold pick
  rw [List.length_map]
  have := List.length_filter_le p (List.range n)
  simpa using this
theorem pick_succ (n : Nat) (p : Nat → Bool) : pick (n + 1) p = pick n p ++ if p n then [(n : Int)] else [] := by
  unfold pick
  rw [List.range_succ, List.filter_append, List.map_append]
  by_cases h : p n = true
  · simp [h]
  · simp [h]
theorem pick_rise (n : Nat) (p : Nat → Bool) : (pick n p).Pairwise (· < ·) := by
  unfold pick
  rw [List.pairwise_map]
  exact (List.pairwise_lt_range.filter p).imp fun h => by simpa using h
theorem pick_mem {n : Nat} {p : Nat → Bool} {x : Int} (h : x ∈ pick n p) : 0 ≤ x ∧ x < n := by
  unfold pick at h
  obtain ⟨i, hi, rfl⟩ := List.mem_map.1 h
  have := (List.mem_filter.1 hi).1
  rw [List.mem_range] at this
  simp
  omega
theorem rise_bad {t : List Int} (h : t.Pairwise (· < ·)) : ∀ j, j < t.length → badAt t j = false := by
  intro j hj
  unfold badAt
  by_cases h0 : 0 < j
  · have := List.pairwise_iff_getElem.1 h (j - 1) j (by omega) hj (by omega)
    rw [getD_at hj, getD_at (show j - 1 < t.length by omega)]
    simp [h0]
    omega
  · simp [h0]
theorem in_out {lo hi : Int} {t : List Int} (h : ∀ x ∈ t, lo ≤ x ∧ x ≤ hi) : outB lo hi t = false := by
  unfold outB
  rw [List.any_eq_false]
  intro x hx
  have := h x hx
  simp
  omega
theorem taken_pick {s : ShopR} (he : errOf s = 0) (p : Nat → Bool) : takenErr s (pick s.orders.length p) = 0 :=
  takenErr_ok he (in_out fun x hx => by have := pick_mem hx; omega) (rise_bad (pick_rise _ _))
theorem ofL_pick (s : ShopR) (n : Nat) (p : Nat → Bool) : ofL s (pick n p) = ordsOf s ((List.range n).filter p) := by
  unfold ofL pick ordsOf
  rw [List.map_map]
  refine List.map_congr_left fun i _ => ?_
  simp
theorem pick_filter (s : ShopR) (n : Nat) (p : Nat → Bool) (q : OrdR → Bool) : ofL s (pick n fun i => p i && q (s.orders.getD i default)) = (ofL s (pick n p)).filter q := by
  rw [ofL_pick, ofL_pick]
  unfold ordsOf
  rw [List.filter_map, List.filter_filter]
  congr 1
  refine List.filter_congr fun i _ => ?_
  simp [Bool.and_comm]

/-! ### orders that are due by a day -/
theorem due_by (l : List OrdR) (part day D : Int) (h : day ≤ D) : due (l.filter fun o => decide (o.due ≤ D)) part day = due l part day := by
  unfold due
  rw [List.filter_filter]
  congr 2
  refine List.filter_congr fun o _ => ?_
  by_cases h1 : o.due ≤ day
  · have : o.due ≤ D := by omega
    simp [h1, this]
  · simp [h1]
theorem due_past (l : List OrdR) (part day D : Int) (h : D ≤ day) : due (l.filter fun o => decide (o.due ≤ D)) part day = due l part D := by
  unfold due
  rw [List.filter_filter]
  congr 2
  refine List.filter_congr fun o _ => ?_
  by_cases h1 : o.due ≤ D
  · have : o.due ≤ day := by omega
    simp [h1, this]
  · simp [h1]
theorem takes_eq {s : ShopR} {l m : List OrdR} {d e : Int} (h : ∀ i : Nat, due l i d = due m i e) : takes s l d = takes s m e := by
  unfold takes byy
  congr 1
  refine List.map_congr_left fun i _ => ?_
  rw [h i]
theorem worked_mono {s : ShopR} (hg : Good s) {d e : Nat} (h : d ≤ e) (he : e < s.hours.length) : worked s d ≤ worked s e := by
  obtain ⟨k, rfl⟩ : ∃ k, e = d + k := ⟨e - d, by omega⟩
  clear h
  induction k with
  | zero => exact Int.le_refl _
  | succ k ih =>
    have h1 := ih (by omega)
    have h2 := (hg.hour (i := d + k + 1) (by omega)).1
    have h3 : worked s (d + k + 1) = worked s (d + k) + s.hours.getD (d + k + 1) 0 := sum_take_succ (by omega)
    rw [show d + (k + 1) = d + k + 1 by omega, h3]
    omega
theorem takes_neg {s : ShopR} {l : List OrdR} (hg : Good s) (h : ∀ o ∈ l, 0 ≤ o.due) : takes s l (-1) = 0 := by
  have : takes s l (-1) = ((List.range s.parts.length).map fun _ => (0 : Int)).sum := by
    unfold takes byy
    congr 1
    refine List.map_congr_left fun i hi => ?_
    rw [List.mem_range] at hi
    rw [due_neg h]
    have hp := hg.part hi
    have h1 := (need_le_iff hp (n := 0) 0 (by omega)).2 (by have := hp.stock; omega)
    have h2 := need_nonneg hp 0
    rw [show need (s.parts.getD i default) 0 = 0 by omega]
    simp
  rw [this, sum_const]
  simp
theorem first_over {s : ShopR} {l : List OrdR} {d : Nat} (h : first? s l = some d) : d < s.hours.length ∧ 0 < over s l d ∧ ∀ j, j < d → ¬ 0 < over s l j := by
  obtain ⟨h1, h2, h3⟩ := fst?_spec h
  exact ⟨h1, by simpa using h2, fun j hj => by simpa using h3 j hj⟩
/-- the orders that are due by the day that is named are late on it -/
theorem first_by {s : ShopR} {l : List OrdR} {d : Nat} (h : first? s l = some d) : first? s (l.filter fun o => decide (o.due ≤ (d : Int))) = some d ∧ over s (l.filter fun o => decide (o.due ≤ (d : Int))) d = over s l d := by
  obtain ⟨h1, h2, h3⟩ := first_over h
  have e : ∀ j : Nat, j ≤ d → over s (l.filter fun o => decide (o.due ≤ (d : Int))) j = over s l j := fun j hj => by
    unfold over
    rw [takes_eq (m := l) (e := j) fun i => due_by l i j d (by omega)]
  exact ⟨fst?_some h1 (by rw [e d (Nat.le_refl _)]; simpa using h2) (fun j hj => by rw [e j (by omega)]; simpa using h3 j hj), e d (Nat.le_refl _)⟩
/-- those that are due before it can be kept -/
theorem first_before {s : ShopR} {l : List OrdR} (hg : Good s) (hl : ∀ o ∈ l, 0 ≤ o.due) {d : Nat} (h : first? s l = some d) : first? s (l.filter fun o => decide (o.due < (d : Int))) = none := by
  obtain ⟨h1, h2, h3⟩ := first_over h
  have hf : (l.filter fun o => decide (o.due < (d : Int))) = l.filter fun o => decide (o.due ≤ (d : Int) - 1) := by
    refine List.filter_congr fun o _ => ?_
    by_cases h : o.due < (d : Int)
    · have : o.due ≤ (d : Int) - 1 := by omega
      simp [h, this]
    · have : ¬ o.due ≤ (d : Int) - 1 := by omega
      simp [h, this]
  rw [hf]
  refine fst?_none fun j hj => ?_
  have key : ¬ 0 < over s (l.filter fun o => decide (o.due ≤ (d : Int) - 1)) j := by
    by_cases hjd : j < d
    · have e : over s (l.filter fun o => decide (o.due ≤ (d : Int) - 1)) j = over s l j := by
        unfold over
        rw [takes_eq (m := l) (e := j) fun i => due_by l i j _ (by omega)]
      rw [e]
      exact h3 j hjd
    · have e : takes s (l.filter fun o => decide (o.due ≤ (d : Int) - 1)) j = takes s l ((d : Int) - 1) := takes_eq fun i => due_past l i j _ (by omega)
      unfold over
      rw [e]
      by_cases h0 : d = 0
      · subst h0
        have := takes_neg hg hl
        have hw := (worked_bd hg hj).1
        rw [show ((0 : Nat) : Int) - 1 = -1 by omega, this]
        omega
      · have h4 := h3 (d - 1) (by omega)
        have h5 := worked_mono hg (d := d - 1) (e := j) (by omega) hj
        unfold over at h4
        rw [show ((d - 1 : Nat) : Int) = (d : Int) - 1 by omega] at h4
        omega
  simpa using key
end Go.Proofs.Ytkmaapkbonkjfaa
