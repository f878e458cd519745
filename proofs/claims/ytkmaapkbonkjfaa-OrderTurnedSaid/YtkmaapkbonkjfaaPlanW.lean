/- Plain laws of the plan: castings are done one after the other, within the hours; what is kept is never below 0; as many of each part as are needed. -/
import Derived.Test.YtkmaapkbonkjfaaPick
import Derived.Test.YtkmaapkbonkjfaaCanL
set_option linter.unusedSimpArgs false
set_option linter.unusedVariables false
namespace Go.Proofs.Ytkmaapkbonkjfaa

/-- how many of a part -/
def cntP (xs : List (Int × Int)) (i : Int) : Int := ((xs.filter fun x => x.1 == i).length : Int)
theorem cntP_append (xs ys : List (Int × Int)) (i : Int) : cntP (xs ++ ys) i = cntP xs i + cntP ys i := by simp [cntP, List.filter_append]
theorem cntP_cons (x : Int × Int) (xs : List (Int × Int)) (i : Int) : cntP (x :: xs) i = (if x.1 = i then 1 else 0) + cntP xs i := by
  unfold cntP
  by_cases h : x.1 = i <;> simp [h]; omega
theorem cntP_nil (i : Int) : cntP [] i = 0 := rfl
theorem cntP_rep (n : Nat) (x : Int × Int) (i : Int) : cntP (List.replicate n x) i = if x.1 = i then (n : Int) else 0 := by
  induction n with
  | zero => simp [cntP]
  | succ n ih => rw [List.replicate_succ, cntP_cons, ih]; split <;> omega
theorem cntP_news {s : ShopR} {l : List OrdR} (hg : Good s) (hf : Fit s l) (d i : Nat) : ∀ np, np ≤ s.parts.length → cntP (newsOf s l d np) i = if i < np then newBy s l d i else 0 := by
  intro np
  induction np with
  | zero => intro _; simp [newsOf, cntP]
  | succ np ih =>
    intro h
    rw [newsOf_succ, cntP_append, ih (by omega), cntP_rep]
    have hb := newBy_bd hg hf (i := np) (by omega) d
    by_cases h1 : i < np
    · rw [if_pos h1, if_neg (by simp; omega), if_pos (by omega)]; omega
    · rw [if_neg h1]
      by_cases h2 : i = np
      · subst h2; rw [if_pos rfl, if_pos (by omega)]; omega
      · rw [if_neg (by simp; omega), if_neg (by omega)]; omega
theorem cntP_list {s : ShopR} {l : List OrdR} (hg : Good s) (hf : Fit s l) {i : Nat} (hi : i < s.parts.length) (k : Nat) : cntP (listTo s l k) i = before s l k i := by
  induction k with
  | zero => simp [listTo, cntP, before]
  | succ k ih =>
    rw [listTo_succ, cntP_append, ih, cntP_news hg hf k i _ (Nat.le_refl _), if_pos hi, newBy_before]
    omega
theorem cntP_casts (s : ShopR) (i : Int) : ∀ (xs : List (Int × Int)) (u : Int), cntP (castsC s u xs) i = cntP xs i := by
  intro xs
  induction xs with
  | nil => intro u; rfl
  | cons x xs ih => intro u; simp only [castsC]; rw [cntP_cons, cntP_cons, ih]
/-- as many castings of a part as are needed -/
theorem casts_count {s : ShopR} {l : List OrdR} (hg : Good s) (hf : Fit s l) {i : Nat} (hi : i < s.parts.length) : cntP (castsL s l) i = byy s l i ((s.hours.length - 1 : Nat) : Int) := by
  have := hg.hlen
  rw [castsL_eq, cntP_casts, cntP_list hg hf hi]
  unfold before
  rw [if_neg (by omega)]
theorem castsC_append (s : ShopR) : ∀ (xs ys : List (Int × Int)) (u : Int), castsC s u (xs ++ ys) = castsC s u xs ++ castsC s (u + usedOf s xs) ys := by
  intro xs
  induction xs with
  | nil => intro ys u; simp [castsC, usedOf]
  | cons x xs ih =>
    intro ys u
    simp only [List.cons_append, castsC]
    rw [ih]
    have : u + longOf s x + usedOf s xs = u + usedOf s (x :: xs) := by simp [usedOf]; omega
    rw [this]
theorem listTo_split (s : ShopR) (l : List OrdR) {d n : Nat} (h : d ≤ n) : ∃ r, listTo s l n = listTo s l d ++ r := by
  obtain ⟨k, rfl⟩ : ∃ k, n = d + k := ⟨n - d, by omega⟩
  clear h
  induction k with
  | zero => exact ⟨[], by simp⟩
  | succ k ih =>
    obtain ⟨r, hr⟩ := ih
    refine ⟨r ++ newsOf s l (d + k) s.parts.length, ?_⟩
    rw [← List.append_assoc, ← hr]
    exact listTo_succ s l (d + k)
theorem cntTo_ge {xs : List (Int × Int)} {i d : Int} (h : ∀ x ∈ xs, x.2 ≤ d) : cntTo xs i d = cntP xs i := by
  unfold cntTo cntP
  congr 2
  refine List.filter_congr fun x hx => ?_
  have := h x hx
  simp [this]
theorem cntTo_app (xs ys : List (Int × Int)) (i d : Int) : cntTo (xs ++ ys) i d = cntTo xs i d + cntTo ys i d := by simp [cntTo, List.filter_append]
theorem cntTo_nn (xs : List (Int × Int)) (i d : Int) : 0 ≤ cntTo xs i d := by unfold cntTo; omega
/-- by each evening there are as many castings as are needed by it -/
theorem casts_by {s : ShopR} {l : List OrdR} (hg : Good s) (hf : Fit s l) (hc : canB s l = true) {i d : Nat} (hi : i < s.parts.length) (hd : d < s.hours.length) : byy s l i d ≤ cntTo (castsL s l) i d := by
  obtain ⟨r, hr⟩ := listTo_split s l (d := d + 1) (n := s.hours.length) (by omega)
  rw [castsL_eq, hr, castsC_append, cntTo_app]
  have h1 : ∀ x ∈ listTo s l (d + 1), 0 ≤ longOf s x := fun x hx => by
    have := list_mem hx
    have := (hg.part (i := x.1.toNat) (by omega)).long
    unfold longOf
    omega
  have h2 : 0 + usedOf s (listTo s l (d + 1)) ≤ worked s d := by rw [used_takes hg hf]; have := can_spec hc hd; omega
  rw [cntTo_ge (d := (d : Int)) fun x hx => (castsC_mem s d hd _ 0 h1 h2 x hx).2.1, cntP_casts, cntP_list hg hf hi]
  have h3 := cntTo_nn (castsC s (0 + usedOf s (listTo s l (d + 1))) r) i d
  have : before s l (d + 1) i = byy s l i d := by unfold before; simp
  omega
theorem left_eq (s : ShopR) (l : List OrdR) (c : List (Int × Int)) (i : Nat) (d : Int) : leftF s l c i d = (s.parts.getD i default).stock - due l i d + (s.parts.getD i default).batch * cntTo c i d := rfl
/-- nothing that is kept is below 0 -/
theorem left_nn {s : ShopR} {l : List OrdR} (hg : Good s) (hf : Fit s l) (hc : canB s l = true) {i d : Nat} (hi : i < s.parts.length) (hd : d < s.hours.length) : 0 ≤ leftF s l (castsL s l) i d := by
  have h1 := casts_by hg hf hc hi hd
  have hp := hg.part hi
  have h2 := (need_le_iff hp (n := due l i d) _ (cntTo_nn (castsL s l) i d)).1 h1
  rw [left_eq, Int.mul_comm]
  omega
/-! ### castings one after the other -/
theorem done_spec {s : ShopR} (hg : Good s) {u : Int} (h : u ≤ worked s (s.hours.length - 1)) : done s u < s.hours.length ∧ u ≤ worked s (done s u) ∧ ∀ j, j < done s u → worked s j < u := by
  have hh := hg.hlen
  unfold done
  cases hf : fst? s.hours.length fun d => decide (u ≤ worked s d) with
  | none => have := fst?_none_spec hf (s.hours.length - 1) (by omega); simp at this; omega
  | some k =>
    obtain ⟨h1, h2, h3⟩ := fst?_spec hf
    simp only [Option.getD_some]
    exact ⟨h1, by simpa using h2, fun j hj => by have := h3 j hj; simpa using this⟩
theorem castsC_at (s : ShopR) : ∀ (xs : List (Int × Int)) (u : Int) (n : Nat) (x : Int × Int), xs[n]? = some x → (castsC s u xs)[n]? = some (x.1, (done s (u + usedOf s (xs.take (n + 1))) : Int)) := by
  intro xs
  induction xs with
  | nil => intro u n x h; simp at h
  | cons y ys ih =>
    intro u n x h
    cases n with
    | zero => simp at h; subst h; simp [castsC, usedOf]
    | succ n =>
      simp only [castsC, List.getElem?_cons_succ] at h ⊢
      rw [ih _ n x h]
      have e : u + longOf s y + usedOf s (ys.take (n + 1)) = u + usedOf s ((y :: ys).take (n + 1 + 1)) := by simp [usedOf]; omega
      rw [e]
/-- hours that the first castings take -/
def usedN (s : ShopR) (l : List OrdR) (n : Nat) : Int := usedOf s ((listTo s l s.hours.length).take n)
/-- the day of the casting before the n-th -/
def lastN (s : ShopR) (l : List OrdR) (n : Nat) : Nat := if n = 0 then 0 else done s (usedN s l n)
structure PlanAt (s : ShopR) (l : List OrdR) (n p d : Nat) : Prop where
  at_ : (castsL s l)[n]? = some ((p : Int), (d : Int))
  part : p < s.parts.length
  day : d < s.hours.length
  last : lastN s l n ≤ d
  next : lastN s l (n + 1) = d
  used : usedN s l (n + 1) = usedN s l n + (s.parts.getD p default).long
  in_ : usedN s l (n + 1) ≤ worked s d
  not_ : 0 < d → worked s (d - 1) < usedN s l (n + 1)
theorem usedN_bd {s : ShopR} {l : List OrdR} (hg : Good s) (hf : Fit s l) (hc : canB s l = true) (n : Nat) : 0 ≤ usedN s l n ∧ usedN s l n ≤ worked s (s.hours.length - 1) := by
  have hh := hg.hlen
  have h1 := used_takes hg hf (s.hours.length - 1)
  have h2 := can_spec hc (d := s.hours.length - 1) (by omega)
  rw [show s.hours.length - 1 + 1 = s.hours.length by omega] at h1
  have h3 : usedOf s (listTo s l s.hours.length) = usedN s l n + usedOf s ((listTo s l s.hours.length).drop n) := by
    unfold usedN
    rw [← used_append, List.take_append_drop]
  have h4 := usedOf_bd hg (xs := (listTo s l s.hours.length).drop n) fun x hx => by have := list_mem (List.mem_of_mem_drop hx); omega
  have h5 := usedOf_bd hg (xs := (listTo s l s.hours.length).take n) fun x hx => by have := list_mem (List.mem_of_mem_take hx); omega
  have h6 : usedOf s ((listTo s l s.hours.length).take n) = usedN s l n := rfl
  omega
theorem casting_at {s : ShopR} {l : List OrdR} (hg : Good s) (hf : Fit s l) (hc : canB s l = true) {n : Nat} (hn : n < (castsL s l).length) : ∃ p d, PlanAt s l n p d := by
  have hlen : (castsL s l).length = (listTo s l s.hours.length).length := by rw [castsL_eq, castsC_len]
  have hn' : n < (listTo s l s.hours.length).length := by omega
  have hx := List.getElem?_eq_getElem hn'
  have hm := list_mem (List.getElem_mem hn')
  generalize (listTo s l s.hours.length)[n] = x at *
  obtain ⟨p, hp⟩ := Int.eq_ofNat_of_zero_le hm.2.2.1
  have hu := usedN_bd hg hf hc (n + 1)
  have hun := usedN_bd hg hf hc n
  have hd := done_spec hg hu.2
  have h1 := castsC_at s (listTo s l s.hours.length) 0 n x hx
  rw [Int.zero_add] at h1
  have hused : usedN s l (n + 1) = usedN s l n + (s.parts.getD p default).long := by
    unfold usedN
    rw [List.take_add_one, hx, Option.toList_some, usedOf_snoc]
    unfold longOf
    rw [hp, Int.toNat_natCast]
  have hpl : p < s.parts.length := by omega
  refine ⟨p, done s (usedN s l (n + 1)), ⟨?_, hpl, hd.1, ?_, ?_, hused, hd.2.1, fun h => hd.2.2 _ (by omega)⟩⟩
  · rw [castsL_eq, h1, hp]; rfl
  · unfold lastN
    split
    · omega
    · refine done_le hd.1 (Int.le_trans ?_ hd.2.1)
      have := (hg.part hpl).long
      omega
  · unfold lastN
    rw [if_neg (by omega)]

/-! ### pieces of a part -/
theorem due_all {s : ShopR} {l : List OrdR} (hg : Good s) (hf : Fit s l) (i : Int) : due l i ((s.hours.length - 1 : Nat) : Int) = ((l.filter fun o => o.part == i).map (·.many)).sum := by
  unfold due
  congr 2
  refine List.filter_congr fun o ho => ?_
  have := (hf.all o ho).due
  have := hg.hlen
  have : o.due ≤ ((s.hours.length - 1 : Nat) : Int) := by omega
  simp [this]
theorem need_spec {p : PartR} (hp : PartOK p) (n : Int) (hn : 0 ≤ n) : 0 ≤ need p n ∧ n ≤ p.stock + need p n * p.batch ∧ (0 < need p n → p.stock + (need p n - 1) * p.batch < n) := by
  have h0 := need_nonneg hp n
  refine ⟨h0, (need_le_iff hp _ h0).1 (Int.le_refl _), fun h => ?_⟩
  by_cases h2 : p.stock + (need p n - 1) * p.batch < n
  · exact h2
  · have := (need_le_iff hp (n := n) (need p n - 1) (by omega)).2 (by omega)
    omega
end Go.Proofs.Ytkmaapkbonkjfaa
