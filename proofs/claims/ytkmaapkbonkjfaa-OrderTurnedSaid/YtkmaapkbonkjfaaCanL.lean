/- Plain laws: what can be kept, when less is asked. -/
import Derived.Test.YtkmaapkbonkjfaaGPure
set_option linter.unusedSimpArgs false
set_option linter.unusedVariables false
namespace Go.Proofs.Ytkmaapkbonkjfaa

theorem canB_iff {s : ShopR} {l : List OrdR} : canB s l = true ↔ ∀ d, d < s.hours.length → takes s l d ≤ worked s d := by
  unfold canB first?
  constructor
  · intro h d hd
    have h1 : fst? s.hours.length (fun d => decide (0 < over s l d)) = none := by simpa using h
    have h2 : ¬ 0 < over s l d := of_decide_eq_false (fst?_none_spec h1 d hd)
    unfold over at h2
    omega
  · intro h
    rw [fst?_none fun j hj => ?_]
    · rfl
    · have h1 := h j hj
      have : ¬ 0 < over s l j := by unfold over; omega
      exact decide_eq_false this
theorem takes_le {s : ShopR} (hg : Good s) {l m : List OrdR} {d e : Int} (h : ∀ i : Nat, i < s.parts.length → due l i d ≤ due m i e) : takes s l d ≤ takes s m e := by
  unfold takes
  refine sum_le _ _ _ fun i hi => ?_
  refine Int.mul_le_mul_of_nonneg_right (need_mono (hg.part hi) (h i hi)) ?_
  have := (hg.part hi).long
  omega
theorem canB_mono {s : ShopR} (hg : Good s) {l m : List OrdR} (h : ∀ (i d : Nat), i < s.parts.length → d < s.hours.length → due l i d ≤ due m i d) (hc : canB s m = true) : canB s l = true := by
  rw [canB_iff] at *
  intro d hd
  exact Int.le_trans (takes_le hg fun i hi => h i d hi hd) (hc d hd)
theorem canB_congr {s : ShopR} {l m : List OrdR} (h : ∀ (i d : Nat), i < s.parts.length → d < s.hours.length → due l i d = due m i d) : canB s l = canB s m := by
  have e : ∀ d, d < s.hours.length → takes s l d = takes s m d := fun d hd => by
    unfold takes byy
    congr 1
    refine List.map_congr_left fun i hi => ?_
    rw [h i d (List.mem_range.1 hi) hd]
  rw [Bool.eq_iff_iff, canB_iff, canB_iff]
  constructor
  · intro h d hd; rw [← e d hd]; exact h d hd
  · intro h d hd; rw [e d hd]; exact h d hd

theorem due_sub {l m : List OrdR} (hs : l.Sublist m) (hm : ∀ o ∈ m, 0 ≤ o.many) (part day : Int) : due l part day ≤ due m part day := by
  induction hs with
  | slnil => exact Int.le_refl _
  | cons a h ih =>
    have h1 := ih fun o ho => hm o (by simp [ho])
    have h2 := hm a (by simp)
    rw [due_cons]
    split <;> omega
  | cons_cons a h ih =>
    have h1 := ih fun o ho => hm o (by simp [ho])
    rw [due_cons, due_cons]
    omega
theorem due_perm {l m : List OrdR} (h : l.Perm m) (part day : Int) : due l part day = due m part day := by
  induction h with
  | nil => rfl
  | cons a h ih => rw [due_cons, due_cons, ih]
  | swap a b l => rw [due_cons, due_cons, due_cons, due_cons]; omega
  | trans h1 h2 ih1 ih2 => rw [ih1, ih2]
theorem canB_sub {s : ShopR} (hg : Good s) {l m : List OrdR} (hs : l.Sublist m) (hm : ∀ o ∈ m, 0 ≤ o.many) (hc : canB s m = true) : canB s l = true :=
  canB_mono hg (fun _ _ _ _ => due_sub hs hm _ _) hc
theorem canB_perm {s : ShopR} {l m : List OrdR} (h : l.Perm m) : canB s l = canB s m := canB_congr fun _ _ _ _ => due_perm h _ _
theorem worked_nonneg {s : ShopR} (hg : Good s) {d : Nat} (hd : d < s.hours.length) : 0 ≤ worked s d := (worked_bd hg hd).1
theorem canB_nil {s : ShopR} (hg : Good s) : canB s [] = true := by
  rw [canB_iff]
  intro d hd
  have e : takes s [] d = 0 := by
    have : takes s [] d = ((List.range s.parts.length).map fun _ => (0 : Int)).sum := by
      unfold takes byy
      congr 1
      refine List.map_congr_left fun i hi => ?_
      have hp := hg.part (List.mem_range.1 hi)
      have h1 := (need_le_iff hp (n := 0) 0 (by omega)).2 (by have := hp.stock; omega)
      have h2 := need_nonneg hp 0
      rw [due_nil, show need (s.parts.getD i default) 0 = 0 by omega]
      simp
    rw [this, sum_const]
    simp
  rw [e]
  exact worked_nonneg hg hd
/-- worth of orders -/
def wsum (l : List OrdR) : Int := (l.map (·.worth)).sum
theorem worthOf_eq (s : ShopR) (x : List Nat) : worthOf s x = wsum (ordsOf s x) := rfl
theorem wsum_append (l m : List OrdR) : wsum (l ++ m) = wsum l + wsum m := by simp [wsum]
theorem wsum_cons (o : OrdR) (l : List OrdR) : wsum (o :: l) = o.worth + wsum l := by simp [wsum]
theorem wsum_perm {l m : List OrdR} (h : l.Perm m) : wsum l = wsum m := by
  induction h with
  | nil => rfl
  | cons a h ih => rw [wsum_cons, wsum_cons, ih]
  | swap a b l => rw [wsum_cons, wsum_cons, wsum_cons, wsum_cons]; omega
  | trans h1 h2 ih1 ih2 => rw [ih1, ih2]
theorem ordsOf_append (s : ShopR) (x y : List Nat) : ordsOf s (x ++ y) = ordsOf s x ++ ordsOf s y := by simp [ordsOf]

/-! ### sets of orders, as rising lists of numbers -/
def Rise (n : Nat) (x : List Nat) : Prop := x.Pairwise (· < ·) ∧ ∀ i ∈ x, i < n
theorem rise_range (n : Nat) (p : Nat → Bool) : Rise n ((List.range n).filter p) :=
  ⟨List.pairwise_lt_range.filter p, fun i hi => List.mem_range.1 (List.mem_filter.1 hi).1⟩
theorem rise_eq {x y : List Nat} (hx : x.Pairwise (· < ·)) (hy : y.Pairwise (· < ·)) (h : ∀ i, i ∈ x ↔ i ∈ y) : x = y := by
  induction x generalizing y with
  | nil =>
    cases y with
    | nil => rfl
    | cons b y => exact absurd ((h b).2 (by simp)) (by simp)
  | cons a x ih =>
    cases y with
    | nil => exact absurd ((h a).1 (by simp)) (by simp)
    | cons b y =>
      rw [List.pairwise_cons] at hx hy
      have hab : a = b := by
        have h1 := (h a).1 (by simp)
        have h2 := (h b).2 (by simp)
        rcases List.mem_cons.1 h1 with h1 | h1
        · exact h1
        · rcases List.mem_cons.1 h2 with h2 | h2
          · exact h2.symm
          · have := hx.1 b h2; have := hy.1 a h1; omega
      subst hab
      congr 1
      refine ih hx.2 hy.2 fun i => ?_
      constructor
      · intro hi
        have h1 := (h i).1 (by simp [hi])
        rcases List.mem_cons.1 h1 with h1 | h1
        · have := hx.1 i hi; omega
        · exact h1
      · intro hi
        have h1 := (h i).2 (by simp [hi])
        rcases List.mem_cons.1 h1 with h1 | h1
        · have := hy.1 i hi; omega
        · exact h1
theorem rise_filter {n : Nat} {x : List Nat} (h : Rise n x) : x = (List.range n).filter fun i => decide (i ∈ x) := by
  refine rise_eq h.1 (rise_range n _).1 fun i => ?_
  rw [List.mem_filter, List.mem_range]
  simp
  exact fun hi => h.2 i hi
theorem rise_sub {n : Nat} {x : List Nat} (h : Rise n x) : x.Sublist (List.range n) := by rw [rise_filter h]; exact List.filter_sublist
theorem Rise.sub {n : Nat} {x y : List Nat} (h : Rise n y) (hs : x.Sublist y) : Rise n x := ⟨h.1.sublist hs, fun i hi => h.2 i (hs.subset hi)⟩
theorem bits_ex (n : Nat) (p : Nat → Bool) : ∃ k, k < 2 ^ n ∧ ∀ i, i < n → k.testBit i = p i := by
  induction n with
  | zero => exact ⟨0, by simp, by omega⟩
  | succ n ih =>
    obtain ⟨k, hk, h⟩ := ih
    cases hp : p n with
    | true =>
      refine ⟨2 ^ n + k, by rw [Nat.pow_succ]; omega, fun i hi => ?_⟩
      rcases Nat.lt_or_ge i n with h1 | h1
      · rw [Nat.testBit_two_pow_add_gt h1, h i h1]
      · have : i = n := by omega
        subst this
        rw [Nat.testBit_two_pow_add_eq, hp, Nat.testBit_lt_two_pow hk]
        rfl
    | false =>
      refine ⟨k, by rw [Nat.pow_succ]; omega, fun i hi => ?_⟩
      rcases Nat.lt_or_ge i n with h1 | h1
      · exact h i h1
      · have : i = n := by omega
        subst this
        rw [hp, Nat.testBit_lt_two_pow hk]
theorem bitsOf_ex {n : Nat} {x : List Nat} (h : Rise n x) : ∃ k, k < 2 ^ n ∧ bitsOf n k = x := by
  obtain ⟨k, hk, hb⟩ := bits_ex n fun i => decide (i ∈ x)
  refine ⟨k, hk, ?_⟩
  rw [rise_filter h]
  unfold bitsOf
  refine List.filter_congr fun i hi => ?_
  exact hb i (List.mem_range.1 hi)
theorem rise_bits (n k : Nat) : Rise n (bitsOf n k) := rise_range n _
theorem mem_bits {n k i : Nat} : i ∈ bitsOf n k ↔ i < n ∧ k.testBit i = true := by unfold bitsOf; simp
theorem mem_sets {s : ShopR} {x : List Nat} (a b : Nat) : x ∈ setsOf s a b ↔ ∃ k, k < 2 ^ s.orders.length ∧ (k &&& a == a) = true ∧ (k &&& b == 0) = true ∧ bitsOf s.orders.length k = x ∧ canB s (ordsOf s x) = true := by
  unfold setsOf
  rw [List.mem_filter, List.mem_map]
  constructor
  · rintro ⟨⟨k, hk, rfl⟩, hc⟩
    rw [List.mem_filter, List.mem_range, Bool.and_eq_true] at hk
    exact ⟨k, hk.1, hk.2.1, hk.2.2, rfl, hc⟩
  · rintro ⟨k, h1, h2, h3, h4, hc⟩
    exact ⟨⟨k, by rw [List.mem_filter, List.mem_range, Bool.and_eq_true]; exact ⟨h1, h2, h3⟩, h4⟩, hc⟩
theorem mem_sets0 {s : ShopR} {x : List Nat} : x ∈ setsOf s 0 0 ↔ Rise s.orders.length x ∧ canB s (ordsOf s x) = true := by
  rw [mem_sets]
  constructor
  · rintro ⟨k, _, _, _, rfl, hc⟩
    exact ⟨rise_bits _ _, hc⟩
  · rintro ⟨h, hc⟩
    obtain ⟨k, hk, e⟩ := bitsOf_ex h
    exact ⟨k, hk, by simp, by simp, e, hc⟩
theorem and_pow (k o : Nat) : (k &&& 2 ^ o == 2 ^ o) = k.testBit o ∧ (k &&& 2 ^ o == 0) = !k.testBit o := by
  have h : k &&& 2 ^ o = if k.testBit o then 2 ^ o else 0 := by
    apply Nat.eq_of_testBit_eq
    intro i
    rw [Nat.testBit_and, Nat.testBit_two_pow]
    by_cases e : o = i
    · subst e
      cases hb : k.testBit o <;> simp
    · cases hb : k.testBit o <;> simp [e]
  have hp : 0 < 2 ^ o := Nat.two_pow_pos o
  rw [h]
  cases k.testBit o <;> simp <;> omega
theorem mem_sets_with {s : ShopR} {x : List Nat} {o : Nat} (ho : o < s.orders.length) : x ∈ setsOf s (2 ^ o) 0 ↔ Rise s.orders.length x ∧ canB s (ordsOf s x) = true ∧ o ∈ x := by
  rw [mem_sets]
  constructor
  · rintro ⟨k, _, h1, _, rfl, hc⟩
    rw [(and_pow k o).1] at h1
    exact ⟨rise_bits _ _, hc, mem_bits.2 ⟨ho, h1⟩⟩
  · rintro ⟨h, hc, hm⟩
    obtain ⟨k, hk, e⟩ := bitsOf_ex h
    refine ⟨k, hk, ?_, by simp, e, hc⟩
    rw [(and_pow k o).1]
    rw [← e] at hm
    exact (mem_bits.1 hm).2
theorem mem_sets_but {s : ShopR} {x : List Nat} {o : Nat} (ho : o < s.orders.length) : x ∈ setsOf s 0 (2 ^ o) ↔ Rise s.orders.length x ∧ canB s (ordsOf s x) = true ∧ o ∉ x := by
  rw [mem_sets]
  constructor
  · rintro ⟨k, _, _, h1, rfl, hc⟩
    rw [(and_pow k o).2] at h1
    refine ⟨rise_bits _ _, hc, fun hm => ?_⟩
    rw [(mem_bits.1 hm).2] at h1
    cases h1
  · rintro ⟨h, hc, hm⟩
    obtain ⟨k, hk, e⟩ := bitsOf_ex h
    refine ⟨k, hk, by simp, ?_, e, hc⟩
    rw [(and_pow k o).2]
    cases hb : k.testBit o with
    | false => rfl
    | true => exact absurd (by rw [← e]; exact mem_bits.2 ⟨ho, hb⟩) hm
theorem ords_many {s : ShopR} (hg : Good s) {x : List Nat} (h : Rise s.orders.length x) : ∀ o ∈ ordsOf s x, 0 ≤ o.many := by
  intro o ho
  unfold ordsOf at ho
  obtain ⟨i, hi, rfl⟩ := List.mem_map.1 ho
  have := (hg.ord (h.2 i hi)).many
  omega
theorem ords_sub {s : ShopR} {x y : List Nat} (h : x.Sublist y) : (ordsOf s x).Sublist (ordsOf s y) := h.map _

/-! ### the order of lists of numbers -/
theorem lex_total (x y : List Nat) : x < y ∨ x = y ∨ y < x := by
  induction x generalizing y with
  | nil => cases y with
    | nil => exact .inr (.inl rfl)
    | cons b y => exact .inl (List.nil_lt_cons _ _)
  | cons a x ih => cases y with
    | nil => exact .inr (.inr (List.nil_lt_cons _ _))
    | cons b y =>
      rw [List.cons_lt_cons_iff, List.cons_lt_cons_iff]
      rcases Nat.lt_trichotomy a b with h | h | h
      · exact .inl (.inl h)
      · subst h
        rcases ih y with h | h | h
        · exact .inl (.inr ⟨rfl, h⟩)
        · exact .inr (.inl (by rw [h]))
        · exact .inr (.inr (.inr ⟨rfl, h⟩))
      · exact .inr (.inr (.inl h))
theorem lex_asymm (x y : List Nat) (h : x < y) (h2 : y < x) : False := by
  induction x generalizing y with
  | nil => exact absurd h2 (List.not_lt_nil _)
  | cons a x ih => cases y with
    | nil => exact absurd h (List.not_lt_nil _)
    | cons b y =>
      rw [List.cons_lt_cons_iff] at h h2
      rcases h with h | ⟨rfl, h⟩
      · rcases h2 with h2 | ⟨rfl, h2⟩ <;> omega
      · rcases h2 with h2 | ⟨_, h2⟩
        · omega
        · exact ih y h h2
theorem lex_trans {x y z : List Nat} (h : x < y) (h2 : y < z) : x < z := by
  induction x generalizing y z with
  | nil => cases z with
    | nil => exact absurd h2 (List.not_lt_nil _)
    | cons c z => exact List.nil_lt_cons _ _
  | cons a x ih => cases y with
    | nil => exact absurd h (List.not_lt_nil _)
    | cons b y => cases z with
      | nil => exact absurd h2 (List.not_lt_nil _)
      | cons c z =>
        rw [List.cons_lt_cons_iff] at *
        rcases h with h | ⟨rfl, h⟩
        · rcases h2 with h2 | ⟨rfl, h2⟩
          · exact .inl (by omega)
          · exact .inl h
        · rcases h2 with h2 | ⟨rfl, h2⟩
          · exact .inl h2
          · exact .inr ⟨rfl, ih h h2⟩
theorem lex_ext (b : List Nat) (i : Nat) (z : List Nat) : b < b ++ i :: z := by
  induction b with
  | nil => exact List.nil_lt_cons _ _
  | cons a b ih => rw [List.cons_append, List.cons_lt_cons_iff]; exact .inr ⟨rfl, ih⟩
theorem lex_branch (b : List Nat) {i j : Nat} (h : i < j) (z z' : List Nat) : b ++ i :: z < b ++ j :: z' := by
  induction b with
  | nil => rw [List.nil_append, List.nil_append, List.cons_lt_cons_iff]; exact .inl h
  | cons a b ih => rw [List.cons_append, List.cons_append, List.cons_lt_cons_iff]; exact .inr ⟨rfl, ih⟩

/-! ### the best of some sets -/
/-- b is worth most of those of P, and the first of these -/
structure IsBest (s : ShopR) (P : List Nat → Prop) (b : List Nat × Int) : Prop where
  mem : P b.1
  worth : b.2 = worthOf s b.1
  most : ∀ y, P y → worthOf s y < b.2 ∨ (worthOf s y = b.2 ∧ (b.1 = y ∨ b.1 < y))
theorem IsBest.unique {s : ShopR} {P : List Nat → Prop} {b c : List Nat × Int} (hb : IsBest s P b) (hc : IsBest s P c) : b = c := by
  have h1 := hb.most c.1 hc.mem
  have h2 := hc.most b.1 hb.mem
  have e1 := hb.worth
  have e2 := hc.worth
  have e3 : b.2 = c.2 := by omega
  have e4 : b.1 = c.1 := by
    rcases h1 with h1 | ⟨_, h1 | h1⟩
    · omega
    · exact h1
    · rcases h2 with h2 | ⟨_, h2 | h2⟩
      · omega
      · exact h2.symm
      · exact (lex_asymm _ _ h1 h2).elim
  exact Prod.ext e4 e3
theorem IsBest.congr {s : ShopR} {P Q : List Nat → Prop} {b : List Nat × Int} (hb : IsBest s P b) (h : ∀ y, P y ↔ Q y) : IsBest s Q b :=
  ⟨(h _).1 hb.mem, hb.worth, fun y hy => hb.most y ((h y).2 hy)⟩
theorem better_best {s : ShopR} {P : List Nat → Prop} {b : List Nat × Int} (hb : IsBest s P b) (x : List Nat) : IsBest s (fun y => P y ∨ y = x) (better s b x) := by
  unfold better
  split
  · rename_i h
    refine ⟨.inr rfl, rfl, fun y hy => ?_⟩
    rcases hy with hy | rfl
    · have h1 := hb.most y hy
      rcases h with h | ⟨h, h'⟩
      · exact .inl (by show worthOf s y < worthOf s x; omega)
      · rcases h1 with h1 | ⟨h1, h2⟩
        · exact .inl (by show worthOf s y < worthOf s x; omega)
        · refine .inr ⟨by show worthOf s y = worthOf s x; omega, .inr ?_⟩
          rcases h2 with h2 | h2
          · rw [← h2]; exact h'
          · exact lex_trans h' h2
    · exact .inr ⟨rfl, .inl rfl⟩
  · rename_i h
    refine ⟨.inl hb.mem, hb.worth, fun y hy => ?_⟩
    rcases hy with hy | rfl
    · exact hb.most y hy
    · have h1 : ¬ b.2 < worthOf s y := fun h' => h (.inl h')
      by_cases h2 : worthOf s y = b.2
      · refine .inr ⟨h2, ?_⟩
        rcases lex_total b.1 y with h3 | h3 | h3
        · exact .inr h3
        · exact .inl h3
        · exact absurd (.inr ⟨h2, h3⟩) h
      · exact .inl (by omega)
theorem fold_best {s : ShopR} : ∀ (L : List (List Nat)) (P : List Nat → Prop) (b : List Nat × Int), IsBest s P b → IsBest s (fun y => P y ∨ y ∈ L) (L.foldl (better s) b) := by
  intro L
  induction L with
  | nil => intro P b h; exact h.congr fun y => by simp
  | cons x L ih =>
    intro P b h
    rw [List.foldl_cons]
    exact (ih _ _ (better_best h x)).congr fun y => by rw [List.mem_cons, or_assoc]
/-- sets of orders that can be kept -/
def CanSet (s : ShopR) (x : List Nat) : Prop := Rise s.orders.length x ∧ canB s (ordsOf s x) = true
theorem canSet_nil {s : ShopR} (hg : Good s) : CanSet s [] := ⟨⟨List.Pairwise.nil, by simp⟩, canB_nil hg⟩
theorem bestL_best {s : ShopR} (hg : Good s) : IsBest s (CanSet s) (bestL s) := by
  have h0 : IsBest s (fun y => y = []) ([], 0) := ⟨rfl, rfl, fun y hy => by subst hy; exact .inr ⟨rfl, .inl rfl⟩⟩
  refine (fold_best (setsOf s 0 0) _ _ h0).congr fun y => ?_
  rw [mem_sets0]
  constructor
  · rintro (rfl | h)
    · exact canSet_nil hg
    · exact h
  · exact .inr

/-! ### the recursion over beginnings -/
def mostF (s : ShopR) : Nat → List Nat → Nat → List Nat × Int
  | 0, b, _ => (b, worthOf s b)
  | f + 1, b, k => (List.range' k (s.orders.length - k)).foldl (fun best i => if canB s (ordsOf s (b ++ [i])) then (if best.2 < (mostF s f (b ++ [i]) (i + 1)).2 then mostF s f (b ++ [i]) (i + 1) else best) else best) (b, worthOf s b)
/-- sets that begin so, and go on from k on -/
def Ext (s : ShopR) (b : List Nat) (k : Nat) (y : List Nat) : Prop := ∃ z, y = b ++ z ∧ z.Pairwise (· < ·) ∧ (∀ i ∈ z, k ≤ i ∧ i < s.orders.length) ∧ (z ≠ [] → canB s (ordsOf s y) = true)
/-- the same, the next one below m -/
def ExtTo (s : ShopR) (b : List Nat) (k m : Nat) (y : List Nat) : Prop := y = b ∨ ∃ i z, k ≤ i ∧ i < m ∧ y = b ++ i :: z ∧ (i :: z).Pairwise (· < ·) ∧ (∀ j ∈ z, j < s.orders.length) ∧ canB s (ordsOf s y) = true
theorem ext_of_to {s : ShopR} {b : List Nat} {k : Nat} (y : List Nat) : ExtTo s b k s.orders.length y ↔ Ext s b k y := by
  constructor
  · rintro (rfl | ⟨i, z, h1, h2, rfl, h3, h4, h5⟩)
    · exact ⟨[], by simp, List.Pairwise.nil, by simp, fun h => absurd rfl h⟩
    · refine ⟨i :: z, rfl, h3, fun j hj => ?_, fun _ => h5⟩
      rcases List.mem_cons.1 hj with rfl | hj
      · exact ⟨h1, h2⟩
      · have := (List.pairwise_cons.1 h3).1 j hj
        exact ⟨by omega, h4 j hj⟩
  · rintro ⟨z, rfl, h1, h2, h3⟩
    cases z with
    | nil => exact .inl (by simp)
    | cons i z =>
      have h4 := h2 i (by simp)
      exact .inr ⟨i, z, h4.1, h4.2, rfl, h1, fun j hj => (h2 j (by simp [hj])).2, h3 (by simp)⟩
theorem mem_or_ext {s : ShopR} (hm : ∀ o ∈ s.orders, 0 ≤ o.many) {b : List Nat} (hb : ∀ j ∈ b, j < s.orders.length) {i k m : Nat} (hk : k ≤ m) (hm' : m < s.orders.length) (hi : i = m) (hg : Good s) (y : List Nat) :
    ExtTo s b k (m + 1) y ↔ ExtTo s b k m y ∨ (canB s (ordsOf s (b ++ [i])) = true ∧ Ext s (b ++ [i]) (i + 1) y) := by
  subst hi
  constructor
  · rintro (rfl | ⟨j, z, h1, h2, rfl, h3, h4, h5⟩)
    · exact .inl (.inl rfl)
    · by_cases hj : j < i
      · exact .inl (.inr ⟨j, z, h1, hj, rfl, h3, h4, h5⟩)
      · obtain rfl : j = i := by omega
        refine .inr ⟨?_, z, by simp, (List.pairwise_cons.1 h3).2, fun x hx => ⟨(List.pairwise_cons.1 h3).1 x hx, h4 x hx⟩, fun _ => h5⟩
        refine canB_sub hg (ords_sub (x := b ++ [j]) (y := b ++ j :: z) ?_) ?_ h5
        · exact (List.append_sublist_append_left b).2 (List.Sublist.cons_cons _ (List.nil_sublist _))
        · intro o ho
          unfold ordsOf at ho
          obtain ⟨x, hx, rfl⟩ := List.mem_map.1 ho
          refine hm _ (getD_mem ?_ _)
          rcases List.mem_append.1 hx with hx | hx
          · exact hb x hx
          · rcases List.mem_cons.1 hx with rfl | hx
            · exact hm'
            · exact h4 x hx
  · rintro ((rfl | ⟨j, z, h1, h2, rfl, h3, h4, h5⟩) | ⟨hc, z, rfl, h1, h2, h3⟩)
    · exact .inl rfl
    · exact .inr ⟨j, z, h1, by omega, rfl, h3, h4, h5⟩
    · refine .inr ⟨i, z, hk, by omega, by simp, ?_, fun x hx => (h2 x hx).2, ?_⟩
      · rw [List.pairwise_cons]; exact ⟨fun x hx => by have := (h2 x hx).1; omega, h1⟩
      · by_cases hz : z = []
        · subst hz; simpa using hc
        · exact h3 hz
theorem mostF_best {s : ShopR} (hg : Good s) : ∀ (f : Nat) (b : List Nat) (k : Nat), s.orders.length - k ≤ f → (∀ j ∈ b, j < s.orders.length) → k ≤ s.orders.length → IsBest s (Ext s b k) (mostF s f b k) := by
  have hm : ∀ o ∈ s.orders, 0 ≤ o.many := fun o ho => by have := (hg.orders o ho).many; omega
  have h0 : ∀ b k, IsBest s (ExtTo s b k k) (b, worthOf s b) := fun b k => ⟨.inl rfl, rfl, fun y hy => by
    rcases hy with rfl | ⟨i, z, h1, h2, _⟩
    · exact .inr ⟨rfl, .inl rfl⟩
    · omega⟩
  intro f
  induction f with
  | zero =>
    intro b k hf hb hk
    have hkn : k = s.orders.length := by omega
    subst hkn
    exact (h0 b _).congr fun y => ext_of_to y
  | succ f ih =>
    intro b k hf hb hk
    have key : ∀ c, k + c ≤ s.orders.length → IsBest s (ExtTo s b k (k + c)) ((List.range' k c).foldl (fun best i => if canB s (ordsOf s (b ++ [i])) then (if best.2 < (mostF s f (b ++ [i]) (i + 1)).2 then mostF s f (b ++ [i]) (i + 1) else best) else best) (b, worthOf s b)) := by
      intro c
      induction c with
      | zero => intro _; exact h0 b k
      | succ c ihc =>
        intro hc
        have hI := ihc (by omega)
        rw [List.range'_concat, List.foldl_append]
        simp only [List.foldl_cons, List.foldl_nil, Nat.one_mul]
        generalize ((List.range' k c).foldl _ (b, worthOf s b)) = best at *
        have hs : ∀ y, ExtTo s b k (k + (c + 1)) y ↔ ExtTo s b k (k + c) y ∨ (canB s (ordsOf s (b ++ [k + c])) = true ∧ Ext s (b ++ [k + c]) (k + c + 1) y) := fun y => mem_or_ext (m := k + c) hm hb (by omega) (by omega) rfl hg y
        have hlow : ∀ x y, ExtTo s b k (k + c) x → Ext s (b ++ [k + c]) (k + c + 1) y → x < y := by
          rintro x y hx ⟨z, rfl, _⟩
          rw [List.append_assoc, List.singleton_append]
          rcases hx with rfl | ⟨i, z', _, h2, rfl, _⟩
          · exact lex_ext _ _ _
          · exact lex_branch _ h2 _ _
        cases hcb : canB s (ordsOf s (b ++ [k + c])) with
        | false =>
          simp only [Bool.false_eq_true, if_false]
          exact hI.congr fun y => by rw [hs y, hcb]; simp
        | true =>
          have hX := ih (b ++ [k + c]) (k + c + 1) (by omega) (fun j hj => by
            rcases List.mem_append.1 hj with hj | hj
            · exact hb j hj
            · rw [List.mem_singleton.1 hj]; omega) (by omega)
          simp only [if_true]
          generalize mostF s f (b ++ [k + c]) (k + c + 1) = x at *
          split
          · rename_i hlt
            refine ⟨(hs _).2 (.inr ⟨hcb, hX.mem⟩), hX.worth, fun y hy => ?_⟩
            rcases (hs y).1 hy with hy | ⟨_, hy⟩
            · have := hI.most y hy
              exact .inl (by omega)
            · exact hX.most y hy
          · rename_i hlt
            refine ⟨(hs _).2 (.inl hI.mem), hI.worth, fun y hy => ?_⟩
            rcases (hs y).1 hy with hy | ⟨_, hy⟩
            · exact hI.most y hy
            · have h1 := hX.most y hy
              by_cases h2 : worthOf s y = best.2
              · exact .inr ⟨h2, .inr (hlow _ _ hI.mem hy)⟩
              · exact .inl (by omega)
    have := key (s.orders.length - k) (by omega)
    rw [show k + (s.orders.length - k) = s.orders.length by omega] at this
    exact this.congr fun y => ext_of_to y
/-- both ways find the same -/
theorem most_best {s : ShopR} (hg : Good s) {f : Nat} (hf : s.orders.length ≤ f) : mostF s f [] 0 = bestL s := by
  refine IsBest.unique (P := CanSet s) ((mostF_best hg f [] 0 (by omega) (by simp) (by omega)).congr fun y => ?_) (bestL_best hg)
  constructor
  · rintro ⟨z, rfl, h1, h2, h3⟩
    refine ⟨⟨h1, fun i hi => (h2 i hi).2⟩, ?_⟩
    by_cases hz : y = []
    · subst hz; exact canB_nil hg
    · exact h3 hz
  · rintro ⟨h1, h2⟩
    exact ⟨y, by simp, h1.1, fun i hi => ⟨Nat.zero_le _, h1.2 i hi⟩, fun _ => h2⟩
end Go.Proofs.Ytkmaapkbonkjfaa
