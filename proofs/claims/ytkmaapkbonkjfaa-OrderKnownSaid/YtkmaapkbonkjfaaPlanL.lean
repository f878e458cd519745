/- Plain laws of the plan: the list of castings, as it is made day by day. -/
import Derived.Test.YtkmaapkbonkjfaaPure2
namespace Go.Proofs.Ytkmaapkbonkjfaa

/-- the castings that are newly needed by a day -/
def newsOf (s : ShopR) (l : List OrdR) (d : Nat) (np : Nat) : List (Int × Int) := (List.range np).flatMap fun i => List.replicate (newBy s l d i).toNat ((i : Int), (d : Int))
def listTo (s : ShopR) (l : List OrdR) (k : Nat) : List (Int × Int) := (List.range k).flatMap fun d => newsOf s l d s.parts.length
theorem listTo_succ (s : ShopR) (l : List OrdR) (k : Nat) : listTo s l (k + 1) = listTo s l k ++ newsOf s l k s.parts.length := by
  simp [listTo, List.range_succ]
theorem newsOf_succ (s : ShopR) (l : List OrdR) (d np : Nat) : newsOf s l d (np + 1) = newsOf s l d np ++ List.replicate (newBy s l d np).toNat ((np : Int), (d : Int)) := by
  simp [newsOf, List.range_succ]
theorem needs_map (s : ShopR) (l : List OrdR) : (needs s l).map (fun x => ((x.1 : Int), (x.2 : Int))) = listTo s l s.hours.length := by
  simp [needs, listTo, newsOf, List.map_flatMap, List.map_replicate]

theorem newBy_bd {s : ShopR} {l : List OrdR} (hg : Good s) (hf : Fit s l) {i : Nat} (hi : i < s.parts.length) (d : Nat) : 0 ≤ newBy s l d i ∧ newBy s l d i ≤ 450 := by
  unfold newBy
  have h1 := byy_bd hg hf hi (d : Int)
  split
  · omega
  · have h2 := byy_mono hg hf hi (d := ((d - 1 : Nat) : Int)) (e := (d : Int)) (by omega)
    have h3 := byy_bd hg hf hi ((d - 1 : Nat) : Int)
    omega

/-- castings that are needed by the evening before day k -/
def before (s : ShopR) (l : List OrdR) (k i : Nat) : Int := if k = 0 then 0 else byy s l i ((k - 1 : Nat) : Int)
theorem newBy_before (s : ShopR) (l : List OrdR) (k i : Nat) : newBy s l k i = before s l (k + 1) i - before s l k i := by
  unfold newBy before
  simp
theorem news_len {s : ShopR} {l : List OrdR} (hg : Good s) (hf : Fit s l) (k : Nat) : ∀ np, np ≤ s.parts.length → ((newsOf s l k np).length : Int) = ((List.range np).map fun i => before s l (k + 1) i - before s l k i).sum := by
  intro np
  induction np with
  | zero => intro _; simp [newsOf]
  | succ np ih =>
    intro h
    rw [newsOf_succ, List.length_append, List.range_succ, List.map_append, List.sum_append, Int.natCast_add, ih (by omega)]
    have := newBy_bd hg hf (i := np) (by omega) k
    simp only [List.length_replicate, List.map_cons, List.map_nil, List.sum_cons, List.sum_nil]
    rw [← newBy_before]
    omega
theorem sum_sub (n : Nat) (f g : Nat → Int) : ((List.range n).map fun i => f i - g i).sum = ((List.range n).map f).sum - ((List.range n).map g).sum := by
  induction n with
  | zero => rfl
  | succ n ih => rw [List.range_succ, List.map_append, List.map_append, List.map_append, List.sum_append, List.sum_append, List.sum_append, ih]; simp; omega
theorem list_len {s : ShopR} {l : List OrdR} (hg : Good s) (hf : Fit s l) (k : Nat) : ((listTo s l k).length : Int) = ((List.range s.parts.length).map fun i => before s l k i).sum := by
  induction k with
  | zero =>
    have : ((List.range s.parts.length).map fun i => before s l 0 i).sum = 0 := by
      generalize s.parts.length = n
      induction n with
      | zero => rfl
      | succ n ih => rw [List.range_succ, List.map_append, List.sum_append, ih]; simp [before]
    rw [this]
    simp [listTo]
  | succ k ih =>
    rw [listTo_succ, List.length_append, Int.natCast_add, ih, news_len hg hf k _ (Nat.le_refl _), sum_sub s.parts.length (fun i => before s l (k + 1) i) (fun i => before s l k i)]
    omega
theorem sum_le (n : Nat) (f g : Nat → Int) (h : ∀ i, i < n → f i ≤ g i) : ((List.range n).map f).sum ≤ ((List.range n).map g).sum := by
  induction n with
  | zero => simp
  | succ n ih =>
    rw [List.range_succ, List.map_append, List.map_append, List.sum_append, List.sum_append]
    have := ih fun i hi => h i (by omega)
    have := h n (by omega)
    simp
    omega
theorem sum_const (n : Nat) (c : Int) : ((List.range n).map fun _ => c).sum = n * c := by
  induction n with
  | zero => simp
  | succ n ih => rw [List.range_succ, List.map_append, List.sum_append, ih]; simp [Int.add_mul]
theorem before_bd {s : ShopR} {l : List OrdR} (hg : Good s) (hf : Fit s l) {i : Nat} (hi : i < s.parts.length) (k : Nat) : 0 ≤ before s l k i ∧ before s l k i ≤ 450 := by
  unfold before
  split
  · omega
  · exact byy_bd hg hf hi _
theorem list_bd {s : ShopR} {l : List OrdR} (hg : Good s) (hf : Fit s l) (k : Nat) : (listTo s l k).length ≤ 1350 := by
  have h1 := list_len hg hf k
  have h2 := sum_le s.parts.length (fun i => before s l k i) (fun _ => 450) fun i hi => (before_bd hg hf hi k).2
  rw [sum_const] at h2
  have := hg.plen
  omega
/-- if the orders can be kept, there are not more castings than hours -/
theorem list_hours {s : ShopR} {l : List OrdR} (hg : Good s) (hf : Fit s l) (hc : canB s l = true) : (listTo s l s.hours.length).length ≤ 480 := by
  have h1 := list_len hg hf s.hours.length
  have hh := hg.hlen
  have h2 := sum_le s.parts.length (fun i => before s l s.hours.length i) (fun i => byy s l i ((s.hours.length - 1 : Nat) : Int) * (s.parts.getD i default).long) fun i hi => by
    have h3 := byy_bd hg hf hi ((s.hours.length - 1 : Nat) : Int)
    have h4 := (hg.part hi).long
    have h5 : byy s l i ((s.hours.length - 1 : Nat) : Int) * 1 ≤ byy s l i ((s.hours.length - 1 : Nat) : Int) * (s.parts.getD i default).long := Int.mul_le_mul_of_nonneg_left (by omega) (by omega)
    simp only [before]
    rw [if_neg (by omega)]
    omega
  have h3 : canB s l = true → first? s l = none := fun h => by simpa [canB] using h
  have h4 := fst?_none_spec (h3 hc) (s.hours.length - 1) (by omega)
  have h4 : ¬ 0 < over s l (s.hours.length - 1) := of_decide_eq_false h4
  unfold over at h4
  have h5 := (worked_bd hg (d := s.hours.length - 1) (by omega)).2
  unfold takes at h4
  omega

def leC (x y : Int × Int) : Prop := x.2 < y.2 ∨ (x.2 = y.2 ∧ x.1 ≤ y.1)
theorem news_mem {s : ShopR} {l : List OrdR} {d np : Nat} {x : Int × Int} (h : x ∈ newsOf s l d np) : x.2 = d ∧ 0 ≤ x.1 ∧ x.1 < np := by
  unfold newsOf at h
  obtain ⟨i, hi, hx⟩ := List.mem_flatMap.1 h
  rw [List.mem_range] at hi
  have := (List.mem_replicate.1 hx).2
  subst this
  simp
  omega
theorem news_order (s : ShopR) (l : List OrdR) (d np : Nat) : (newsOf s l d np).Pairwise leC := by
  unfold newsOf
  rw [List.pairwise_flatMap]
  refine ⟨fun i _ => List.pairwise_replicate.2 (.inr (.inr ⟨rfl, Int.le_refl _⟩)), ?_⟩
  refine List.pairwise_lt_range.imp ?_
  intro i j hij x hx y hy
  rw [(List.mem_replicate.1 hx).2, (List.mem_replicate.1 hy).2]
  exact .inr ⟨rfl, by simp; omega⟩
theorem list_order (s : ShopR) (l : List OrdR) (k : Nat) : (listTo s l k).Pairwise leC := by
  unfold listTo
  rw [List.pairwise_flatMap]
  refine ⟨fun d _ => news_order s l d _, ?_⟩
  refine List.pairwise_lt_range.imp ?_
  intro i j hij x hx y hy
  have h1 := (news_mem hx).1
  have h2 := (news_mem hy).1
  exact .inl (by omega)
theorem list_mem {s : ShopR} {l : List OrdR} {k : Nat} {x : Int × Int} (h : x ∈ listTo s l k) : 0 ≤ x.2 ∧ x.2 < k ∧ 0 ≤ x.1 ∧ x.1 < s.parts.length := by
  unfold listTo at h
  obtain ⟨d, hd, hx⟩ := List.mem_flatMap.1 h
  rw [List.mem_range] at hd
  have := news_mem hx
  omega

/-! ### when castings are done -/
def longOf (s : ShopR) (x : Int × Int) : Int := (s.parts.getD x.1.toNat default).long
def usedOf (s : ShopR) (xs : List (Int × Int)) : Int := (xs.map (longOf s)).sum
def castsC (s : ShopR) (u : Int) : List (Int × Int) → List (Int × Int)
  | [] => []
  | x :: r => (x.1, (done s (u + longOf s x) : Int)) :: castsC s (u + longOf s x) r
theorem castsFrom_eq (s : ShopR) : ∀ (l : List (Nat × Nat)) (u : Int), castsFrom s u l = castsC s u (l.map fun x => ((x.1 : Int), (x.2 : Int))) := by
  intro l
  induction l with
  | nil => intro u; rfl
  | cons x l ih =>
    intro u
    obtain ⟨a, b⟩ := x
    simp only [castsFrom, List.map_cons, castsC, longOf, Int.toNat_natCast]
    rw [ih]
theorem castsL_eq (s : ShopR) (l : List OrdR) : castsL s l = castsC s 0 (listTo s l s.hours.length) := by
  unfold castsL
  rw [castsFrom_eq, needs_map]
theorem usedOf_snoc (s : ShopR) (xs : List (Int × Int)) (x : Int × Int) : usedOf s (xs ++ [x]) = usedOf s xs + longOf s x := by
  simp [usedOf]
theorem castsC_snoc (s : ShopR) (x : Int × Int) : ∀ (xs : List (Int × Int)) (u : Int), castsC s u (xs ++ [x]) = castsC s u xs ++ [(x.1, (done s (u + usedOf s xs + longOf s x) : Int))] := by
  intro xs
  induction xs with
  | nil => intro u; simp [castsC, usedOf]
  | cons y ys ih =>
    intro u
    simp only [List.cons_append, castsC]
    rw [ih]
    simp [usedOf, Int.add_assoc]
theorem castsC_len (s : ShopR) : ∀ (xs : List (Int × Int)) (u : Int), (castsC s u xs).length = xs.length := by
  intro xs
  induction xs with
  | nil => intro u; rfl
  | cons x xs ih => intro u; simp [castsC, ih]
theorem usedOf_bd {s : ShopR} (hg : Good s) {xs : List (Int × Int)} (h : ∀ x ∈ xs, 0 ≤ x.1 ∧ x.1 < s.parts.length) : 0 ≤ usedOf s xs ∧ usedOf s xs ≤ 48 * xs.length := by
  induction xs with
  | nil => simp [usedOf]
  | cons x xs ih =>
    have h1 := ih fun y hy => h y (by simp [hy])
    have h2 := h x (by simp)
    have h3 := (hg.part (i := x.1.toNat) (by omega)).long
    have e : usedOf s (x :: xs) = longOf s x + usedOf s xs := by simp [usedOf]
    rw [e]
    unfold longOf
    simp only [List.length_cons]
    omega
end Go.Proofs.Ytkmaapkbonkjfaa
