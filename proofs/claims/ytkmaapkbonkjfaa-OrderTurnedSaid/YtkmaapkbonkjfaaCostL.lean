/- Plain laws of what an order costs. -/
import Derived.Test.YtkmaapkbonkjfaaCanL
set_option linter.unusedSimpArgs false
set_option linter.unusedVariables false
namespace Go.Proofs.Ytkmaapkbonkjfaa

/-- the most that others are worth that can be kept with some: begun with best -/
def withFrom (s : ShopR) : Int → List OrdR → List OrdR → Int
  | best, _, [] => best
  | best, t, o :: r => withFrom s (if canB s (t ++ [o]) then max best (o.worth + withFrom s 0 (t ++ [o]) r) else best) t r
/-- what is reached -/
structure Reach (s : ShopR) (best : Int) (t r : List OrdR) (x : Int) : Prop where
  ge : best ≤ x
  all : ∀ z, z.Sublist r → z ≠ [] → canB s (t ++ z) = true → wsum z ≤ x
  hit : x = best ∨ ∃ z, z.Sublist r ∧ z ≠ [] ∧ canB s (t ++ z) = true ∧ wsum z = x
theorem withFrom_reach {s : ShopR} (hg : Good s) : ∀ (r : List OrdR) (best : Int) (t : List OrdR), (∀ o ∈ t ++ r, 0 ≤ o.many) → Reach s best t r (withFrom s best t r) := by
  intro r
  induction r with
  | nil => intro best t _; exact ⟨Int.le_refl _, fun z h1 h2 _ => absurd (List.sublist_nil.1 h1) h2, .inl rfl⟩
  | cons o r ih =>
    intro best t hm
    have hm1 : ∀ x ∈ t ++ r, 0 ≤ x.many := fun x hx => hm x (by rcases List.mem_append.1 hx with h | h <;> simp [h])
    have hm2 : ∀ x ∈ (t ++ [o]) ++ r, 0 ≤ x.many := fun x hx => hm x (by simpa using hx)
    unfold withFrom
    cases hc : canB s (t ++ [o]) with
    | false =>
      simp only [Bool.false_eq_true, if_false]
      obtain ⟨h1, h2, h3⟩ := ih best t hm1
      refine ⟨h1, fun z hz hz0 hcz => ?_, ?_⟩
      · cases hz with
        | cons _ hz => exact h2 z hz hz0 hcz
        | cons_cons _ hz =>
          rename_i z
          exfalso
          have : canB s (t ++ [o]) = true := canB_sub hg (m := t ++ o :: z) ((List.append_sublist_append_left t).2 (List.Sublist.cons_cons _ (List.nil_sublist _))) (fun x hx => hm x (by
            rcases List.mem_append.1 hx with h | h
            · simp [h]
            · rcases List.mem_cons.1 h with rfl | h
              · simp
              · have := hz.subset h; simp [this])) hcz
          rw [hc] at this
          cases this
      · rcases h3 with h3 | ⟨z, hz, h⟩
        · exact .inl h3
        · exact .inr ⟨z, hz.cons _, h⟩
    | true =>
      simp only [if_true]
      obtain ⟨g1, g2, g3⟩ := ih 0 (t ++ [o]) hm2
      obtain ⟨h1, h2, h3⟩ := ih (max best (o.worth + withFrom s 0 (t ++ [o]) r)) t hm1
      generalize withFrom s 0 (t ++ [o]) r = y at *
      refine ⟨by omega, fun z hz hz0 hcz => ?_, ?_⟩
      · cases hz with
        | cons _ hz => exact h2 z hz hz0 hcz
        | cons_cons _ hz =>
          rename_i z
          rw [wsum_cons]
          by_cases hz1 : z = []
          · subst hz1
            have : wsum [] = 0 := rfl
            omega
          · have := g2 z hz hz1 (by simpa using hcz)
            omega
      · rcases h3 with h3 | ⟨z, hz, h⟩
        · by_cases hb : o.worth + y ≤ best
          · exact .inl (by omega)
          · refine .inr ?_
            rcases g3 with g3 | ⟨z, hz, hz0, hcz, hw⟩
            · refine ⟨[o], List.Sublist.cons_cons _ (List.nil_sublist _), by simp, hc, ?_⟩
              rw [wsum_cons, show wsum [] = 0 from rfl]
              omega
            · refine ⟨o :: z, hz.cons_cons _, by simp, by simpa using hcz, ?_⟩
              rw [wsum_cons]
              omega
        · exact .inr ⟨z, hz.cons _, h⟩
/-- the most over some sets -/
structure MostOf (P : List Nat → Prop) (f : List Nat → Int) (start x : Int) : Prop where
  ge : start ≤ x
  all : ∀ y, P y → f y ≤ x
  hit : x = start ∨ ∃ y, P y ∧ f y = x
theorem fold_most (f : List Nat → Int) : ∀ (L : List (List Nat)) (start : Int), MostOf (· ∈ L) f start (L.foldl (fun m x => max m (f x)) start) := by
  intro L
  induction L with
  | nil => intro start; exact ⟨Int.le_refl _, by simp, .inl rfl⟩
  | cons x L ih =>
    intro start
    rw [List.foldl_cons]
    obtain ⟨h1, h2, h3⟩ := ih (max start (f x))
    refine ⟨by omega, fun y hy => ?_, ?_⟩
    · rcases List.mem_cons.1 hy with rfl | hy
      · omega
      · exact h2 y hy
    · rcases h3 with h3 | ⟨y, hy, h⟩
      · by_cases hx : f x ≤ start
        · exact .inl (by omega)
        · exact .inr ⟨x, by simp, by omega⟩
      · exact .inr ⟨y, by simp [hy], h⟩
theorem mostW_most (s : ShopR) (a b : Nat) (start sub : Int) : MostOf (· ∈ setsOf s a b) (fun x => worthOf s x - sub) start (mostW s a b start sub) := fold_most _ _ _

/-- the orders but one -/
def othersOf (s : ShopR) (o : Nat) : List OrdR := ordsOf s ((List.range s.orders.length).filter fun i => decide (i ≠ o))
theorem sub_others {s : ShopR} {o : Nat} {z : List OrdR} (h : z.Sublist (othersOf s o)) : ∃ x, Rise s.orders.length x ∧ o ∉ x ∧ ordsOf s x = z := by
  unfold othersOf ordsOf at h
  obtain ⟨x, hx, rfl⟩ := List.sublist_map_iff.1 h
  refine ⟨x, (rise_range _ _).sub hx, fun hm => ?_, rfl⟩
  have := (List.mem_filter.1 (hx.subset hm)).2
  simp at this
theorem others_sub {s : ShopR} {o : Nat} {x : List Nat} (h : Rise s.orders.length x) (ho : o ∉ x) : (ordsOf s x).Sublist (othersOf s o) := by
  unfold othersOf
  refine ords_sub ?_
  rw [rise_filter h]
  have : ((List.range s.orders.length).filter fun i => decide (i ∈ x)) = ((List.range s.orders.length).filter fun i => decide (i ≠ o)).filter fun i => decide (i ∈ x) := by
    rw [List.filter_filter]
    refine List.filter_congr fun i _ => ?_
    by_cases h1 : i ∈ x
    · have : i ≠ o := fun e => ho (e ▸ h1)
      simp [h1, this]
    · simp [h1]
  rw [this]
  exact List.filter_sublist
theorem others_many {s : ShopR} (hg : Good s) (o : Nat) : ∀ x ∈ othersOf s o, 0 ≤ x.many := ords_many hg (rise_range _ _)
/-- without the order -/
theorem most_without {s : ShopR} (hg : Good s) {o : Nat} (ho : o < s.orders.length) : mostW s 0 (2 ^ o) 0 0 = withFrom s 0 [] (othersOf s o) := by
  obtain ⟨h1, h2, h3⟩ := mostW_most s 0 (2 ^ o) 0 0
  obtain ⟨g1, g2, g3⟩ := withFrom_reach hg (othersOf s o) 0 [] (by simpa using others_many hg o)
  generalize mostW s 0 (2 ^ o) 0 0 = a at *
  generalize withFrom s 0 [] (othersOf s o) = b at *
  have le1 : a ≤ b := by
    rcases h3 with h3 | ⟨y, hy, e⟩
    · omega
    · obtain ⟨r1, r2, r3⟩ := (mem_sets_but ho).1 hy
      rw [worthOf_eq] at e
      by_cases hz : ordsOf s y = []
      · rw [hz] at e
        simp [wsum] at e
        omega
      · have := g2 _ (others_sub r1 r3) hz r2
        omega
  have le2 : b ≤ a := by
    rcases g3 with g3 | ⟨z, hz, hz0, hc, e⟩
    · omega
    · obtain ⟨x, r1, r2, rfl⟩ := sub_others hz
      have := h2 x ((mem_sets_but ho).2 ⟨r1, hc, r2⟩)
      simp only [worthOf_eq] at this
      omega
  omega
theorem ords_erase {s : ShopR} {x : List Nat} {o : Nat} (h : o ∈ x) : (ordsOf s x).Perm (s.orders.getD o default :: ordsOf s (x.erase o)) := by
  have := (List.perm_cons_erase h).map fun i => s.orders.getD i default
  simpa [ordsOf] using this
theorem rise_insert {n : Nat} {x : List Nat} (h : Rise n x) {o : Nat} (ho : o < n) (hx : o ∉ x) : ∃ y, Rise n y ∧ o ∈ y ∧ y.erase o = x := by
  refine ⟨(List.range n).filter fun i => decide (i ∈ x ∨ i = o), rise_range _ _, by simp [ho], ?_⟩
  have hr := rise_range n fun i => decide (i ∈ x ∨ i = o)
  have hnd : ((List.range n).filter fun i => decide (i ∈ x ∨ i = o)).Nodup := hr.1.imp (fun h => Nat.ne_of_lt h)
  refine rise_eq (hr.1.sublist List.erase_sublist) h.1 fun i => ?_
  rw [hnd.mem_erase_iff]
  simp only [List.mem_filter, List.mem_range, decide_eq_true_eq]
  constructor
  · rintro ⟨h1, _, h2 | h2⟩
    · exact h2
    · exact absurd h2 h1
  · intro hi
    exact ⟨fun e => hx (e ▸ hi), h.2 i hi, .inl hi⟩
theorem not_mem_erase {n : Nat} {x : List Nat} (h : Rise n x) (o : Nat) : o ∉ x.erase o := by
  have hnd : x.Nodup := h.1.imp (fun h => Nat.ne_of_lt h)
  rw [hnd.mem_erase_iff]
  simp
/-- with the order -/
theorem most_with {s : ShopR} (hg : Good s) {o : Nat} (ho : o < s.orders.length) (hc : canB s [s.orders.getD o default] = true) :
    mostW s (2 ^ o) 0 (-1) (s.orders.getD o default).worth = withFrom s 0 [s.orders.getD o default] (othersOf s o) := by
  obtain ⟨h1, h2, h3⟩ := mostW_most s (2 ^ o) 0 (-1) (s.orders.getD o default).worth
  have hm := (hg.ord ho).many
  obtain ⟨g1, g2, g3⟩ := withFrom_reach hg (othersOf s o) 0 [s.orders.getD o default] (fun x hx => by
    rcases List.mem_cons.1 hx with rfl | hx
    · omega
    · exact others_many hg o x hx)
  generalize mostW s (2 ^ o) 0 (-1) (s.orders.getD o default).worth = a at *
  generalize withFrom s 0 [s.orders.getD o default] (othersOf s o) = b at *
  -- a set with the order, and one of others with it
  have to : ∀ y, Rise s.orders.length y → canB s (ordsOf s y) = true → o ∈ y → ∃ z, z.Sublist (othersOf s o) ∧ canB s ([s.orders.getD o default] ++ z) = true ∧ wsum z = worthOf s y - (s.orders.getD o default).worth := fun y r1 r2 r3 => by
    have hp := ords_erase (s := s) r3
    refine ⟨ordsOf s (y.erase o), others_sub (r1.sub List.erase_sublist) (not_mem_erase r1 o), ?_, ?_⟩
    · rw [List.singleton_append, ← canB_perm hp]; exact r2
    · rw [worthOf_eq, wsum_perm hp, wsum_cons]; omega
  have fro : ∀ z, z.Sublist (othersOf s o) → canB s ([s.orders.getD o default] ++ z) = true → ∃ y, y ∈ setsOf s (2 ^ o) 0 ∧ wsum z = worthOf s y - (s.orders.getD o default).worth := fun z hz hcz => by
    obtain ⟨x, r1, r2, rfl⟩ := sub_others hz
    obtain ⟨y, q1, q2, q3⟩ := rise_insert r1 ho r2
    have hp := ords_erase (s := s) q2
    rw [q3] at hp
    refine ⟨y, (mem_sets_with ho).2 ⟨q1, ?_, q2⟩, ?_⟩
    · rw [canB_perm hp]; exact hcz
    · rw [worthOf_eq, wsum_perm hp, wsum_cons]; omega
  have h0 : 0 ≤ a := by
    obtain ⟨y, hy, e⟩ := fro [] (List.nil_sublist _) (by rw [List.append_nil]; exact hc)
    have := h2 y hy
    rw [show wsum [] = 0 from rfl] at e
    omega
  have le1 : a ≤ b := by
    rcases h3 with h3 | ⟨y, hy, e⟩
    · omega
    · obtain ⟨r1, r2, r3⟩ := (mem_sets_with ho).1 hy
      obtain ⟨z, hz, hcz, hw⟩ := to y r1 r2 r3
      by_cases hz0 : z = []
      · subst hz0; rw [show wsum [] = 0 from rfl] at hw; omega
      · have := g2 z hz hz0 hcz
        omega
  have le2 : b ≤ a := by
    rcases g3 with g3 | ⟨z, hz, hz0, hcz, e⟩
    · omega
    · obtain ⟨y, hy, hw⟩ := fro z hz hcz
      have := h2 y hy
      omega
  omega
/-- an order that cannot be kept alone is in no set -/
theorem most_never {s : ShopR} (hg : Good s) {o : Nat} (ho : o < s.orders.length) (hc : canB s [s.orders.getD o default] = false) (sub : Int) : mostW s (2 ^ o) 0 (-1) sub = -1 := by
  obtain ⟨h1, h2, h3⟩ := mostW_most s (2 ^ o) 0 (-1) sub
  rcases h3 with h3 | ⟨y, hy, e⟩
  · exact h3
  · obtain ⟨r1, r2, r3⟩ := (mem_sets_with ho).1 hy
    have : canB s [s.orders.getD o default] = true := canB_sub hg (m := ordsOf s y) (by
      have : [o].Sublist y := List.singleton_sublist.2 r3
      simpa [ordsOf] using this.map fun i => s.orders.getD i default) (ords_many hg r1) r2
    rw [hc] at this
    cases this
/-- what the reference says -/
theorem costsF_ref {s : ShopR} (hg : Good s) (he : errOf s = 0) {o : Nat} (ho : o < s.orders.length) : costsF s o =
    if canB s [s.orders.getD o default] then (withFrom s 0 [] (othersOf s o) - withFrom s 0 [s.orders.getD o default] (othersOf s o), 0) else (0, 9) := by
  unfold costsF
  have hin : inB (o : Int) 0 (s.orders.length - 1) = true := by rw [inB_iff]; omega
  rw [if_neg (by simp [he]), hin, if_neg (by simp), Int.toNat_natCast]
  cases hc : canB s [s.orders.getD o default] with
  | false =>
    rw [most_never hg ho hc]
    simp
  | true =>
    rw [most_without hg ho, most_with hg ho hc]
    have := (withFrom_reach hg (othersOf s o) 0 [s.orders.getD o default] (fun x hx => by
      rcases List.mem_cons.1 hx with rfl | hx
      · have := (hg.ord ho).many; omega
      · exact others_many hg o x hx)).ge
    rw [if_neg (by omega)]
    simp

/-! ### the law of what an order costs -/
theorem best_split {s : ShopR} (hg : Good s) {o : Nat} (ho : o < s.orders.length) :
    (o ∉ (bestL s).1 → (bestL s).2 = mostW s 0 (2 ^ o) 0 0 ∧ mostW s (2 ^ o) 0 (-1) (s.orders.getD o default).worth + (s.orders.getD o default).worth ≤ max (bestL s).2 ((s.orders.getD o default).worth - 1)) ∧
    (o ∈ (bestL s).1 → (bestL s).2 = mostW s (2 ^ o) 0 (-1) (s.orders.getD o default).worth + (s.orders.getD o default).worth ∧ mostW s 0 (2 ^ o) 0 0 ≤ (bestL s).2) := by
  have hB := bestL_best hg
  obtain ⟨h1, h2, h3⟩ := mostW_most s 0 (2 ^ o) 0 0
  obtain ⟨k1, k2, k3⟩ := mostW_most s (2 ^ o) 0 (-1) (s.orders.getD o default).worth
  generalize mostW s 0 (2 ^ o) 0 0 = a at *
  generalize mostW s (2 ^ o) 0 (-1) (s.orders.getD o default).worth = b at *
  have hw := hB.worth
  have h00 : worthOf s [] = 0 := rfl
  have hb0 : 0 ≤ (bestL s).2 := by have := hB.most [] (canSet_nil hg); omega
  constructor
  · intro hn
    have e1 := h2 (bestL s).1 ((mem_sets_but ho).2 ⟨hB.mem.1, hB.mem.2, hn⟩)
    constructor
    · rcases h3 with h3 | ⟨y, hy, e⟩
      · omega
      · obtain ⟨r1, r2, _⟩ := (mem_sets_but ho).1 hy
        have := hB.most y ⟨r1, r2⟩
        omega
    · rcases k3 with k3 | ⟨y, hy, e⟩
      · omega
      · obtain ⟨r1, r2, _⟩ := (mem_sets_with ho).1 hy
        have := hB.most y ⟨r1, r2⟩
        omega
  · intro hn
    have e1 := k2 (bestL s).1 ((mem_sets_with ho).2 ⟨hB.mem.1, hB.mem.2, hn⟩)
    constructor
    · rcases k3 with k3 | ⟨y, hy, e⟩
      · have := worthOf s (bestL s).1
        -- the best one has the order, so that what it is worth is at least the order's worth
        have hge : (s.orders.getD o default).worth ≤ worthOf s (bestL s).1 := by
          have hp := ords_erase (s := s) hn
          rw [worthOf_eq, wsum_perm hp, wsum_cons]
          have : 0 ≤ wsum (ordsOf s ((bestL s).1.erase o)) := by
            have hr : Rise s.orders.length ((bestL s).1.erase o) := hB.mem.1.sub List.erase_sublist
            generalize (bestL s).1.erase o = x at *
            have hall := hr.2
            clear hr hp
            induction x with
            | nil => simp [ordsOf, wsum]
            | cons i x ih =>
              have h1 := ih fun j hj => hall j (by simp [hj])
              have h2 := (hg.ord (hall i (by simp))).worth
              have : wsum (ordsOf s (i :: x)) = (s.orders.getD i default).worth + wsum (ordsOf s x) := by simp [ordsOf, wsum]
              omega
          omega
        omega
      · obtain ⟨r1, r2, _⟩ := (mem_sets_with ho).1 hy
        have := hB.most y ⟨r1, r2⟩
        omega
    · rcases h3 with h3 | ⟨y, hy, e⟩
      · omega
      · obtain ⟨r1, r2, _⟩ := (mem_sets_but ho).1 hy
        have := hB.most y ⟨r1, r2⟩
        omega
theorem costs_law {s : ShopR} (hg : Good s) (he : errOf s = 0) {o : Nat} (ho : o < s.orders.length) :
    if canB s [s.orders.getD o default] then ((costsF s o).2 = 0 ∧ 0 ≤ (costsF s o).1 ∧ ((costsF s o).1 < (s.orders.getD o default).worth → o ∈ (bestL s).1) ∧ ((s.orders.getD o default).worth < (costsF s o).1 → o ∉ (bestL s).1))
    else costsF s o = (0, 9) ∧ o ∉ (bestL s).1 := by
  have hB := bestL_best hg
  obtain ⟨b1, b2⟩ := best_split hg ho
  cases hc : canB s [s.orders.getD o default] with
  | false =>
    rw [if_neg (by simp)]
    refine ⟨by rw [costsF_ref hg he ho, hc]; simp, fun hm => ?_⟩
    have : canB s [s.orders.getD o default] = true := canB_sub hg (m := ordsOf s (bestL s).1) (by
      have : [o].Sublist (bestL s).1 := List.singleton_sublist.2 hm
      simpa [ordsOf] using this.map fun i => s.orders.getD i default) (ords_many hg hB.mem.1) hB.mem.2
    rw [hc] at this
    cases this
  | true =>
    rw [if_pos rfl]
    have hcost : costsF s o = (mostW s 0 (2 ^ o) 0 0 - mostW s (2 ^ o) 0 (-1) (s.orders.getD o default).worth, 0) := by
      rw [costsF_ref hg he ho, hc, most_without hg ho, most_with hg ho hc]; simp
    rw [hcost]
    obtain ⟨h1, h2, h3⟩ := mostW_most s 0 (2 ^ o) 0 0
    obtain ⟨k1, k2, k3⟩ := mostW_most s (2 ^ o) 0 (-1) (s.orders.getD o default).worth
    refine ⟨rfl, ?_, fun h => ?_, fun h hm => ?_⟩
    · -- without the order, the others of the best set with it can be kept
      have : mostW s (2 ^ o) 0 (-1) (s.orders.getD o default).worth ≤ mostW s 0 (2 ^ o) 0 0 := by
        rcases k3 with k3 | ⟨y, hy, e⟩
        · omega
        · obtain ⟨r1, r2, r3⟩ := (mem_sets_with ho).1 hy
          have hr := r1.sub (x := y.erase o) List.erase_sublist
          have hp := ords_erase (s := s) r3
          have hcan : canB s (ordsOf s (y.erase o)) = true := canB_sub hg (ords_sub List.erase_sublist) (ords_many hg r1) r2
          have h4 := h2 _ ((mem_sets_but ho).2 ⟨hr, hcan, not_mem_erase r1 o⟩)
          rw [worthOf_eq, wsum_perm hp, wsum_cons] at e
          rw [worthOf_eq] at h4
          omega
      show 0 ≤ _ - _
      omega
    · by_cases hm : o ∈ (bestL s).1
      · exact hm
      · exfalso
        obtain ⟨q1, q2⟩ := b1 hm
        simp only at h
        have hb : 0 ≤ mostW s (2 ^ o) 0 (-1) (s.orders.getD o default).worth := by
          rw [most_with hg ho hc]
          exact (withFrom_reach hg (othersOf s o) 0 [s.orders.getD o default] (fun x hx => by
            rcases List.mem_cons.1 hx with rfl | hx
            · have := (hg.ord ho).many; omega
            · exact others_many hg o x hx)).ge
        omega
    · obtain ⟨q1, q2⟩ := b2 hm
      simp only at h
      omega
end Go.Proofs.Ytkmaapkbonkjfaa
