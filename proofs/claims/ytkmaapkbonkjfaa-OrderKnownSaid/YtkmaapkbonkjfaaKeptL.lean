/- Plain laws of what is kept: comings and goings day by day, and their sums. -/
import Derived.Test.YtkmaapkbonkjfaaPlanL
import Derived.Test.YtkmaapkbonkjfaaDays
namespace Go.Proofs.Ytkmaapkbonkjfaa

theorem used_append (s : ShopR) (a b : List (Int × Int)) : usedOf s (a ++ b) = usedOf s a + usedOf s b := by simp [usedOf]
theorem used_replicate (s : ShopR) (n : Nat) (x : Int × Int) : usedOf s (List.replicate n x) = n * longOf s x := by
  unfold usedOf
  induction n with
  | zero => simp
  | succ n ih => rw [List.replicate_succ, List.map_cons, List.sum_cons, ih, Int.natCast_add, Int.add_mul]; omega
theorem used_news {s : ShopR} {l : List OrdR} (hg : Good s) (hf : Fit s l) (k : Nat) : ∀ np, np ≤ s.parts.length → usedOf s (newsOf s l k np) = ((List.range np).map fun i => (before s l (k + 1) i - before s l k i) * (s.parts.getD i default).long).sum := by
  intro np
  induction np with
  | zero => intro _; rfl
  | succ np ih =>
    intro h
    have := newBy_bd hg hf (i := np) (by omega) k
    rw [newsOf_succ, used_append, used_replicate, List.range_succ, List.map_append, List.sum_append, ih (by omega), Int.toNat_of_nonneg this.1, newBy_before]
    simp [longOf]
theorem used_list {s : ShopR} {l : List OrdR} (hg : Good s) (hf : Fit s l) (k : Nat) : usedOf s (listTo s l k) = ((List.range s.parts.length).map fun i => before s l k i * (s.parts.getD i default).long).sum := by
  induction k with
  | zero =>
    have : ((List.range s.parts.length).map fun i => before s l 0 i * (s.parts.getD i default).long).sum = 0 := by
      have e : (fun i => before s l 0 i * (s.parts.getD i default).long) = fun _ => 0 := by funext i; simp [before]
      rw [e, sum_const]; simp
    rw [this]
    simp [listTo, usedOf]
  | succ k ih =>
    rw [listTo_succ, used_append, ih, used_news hg hf k _ (Nat.le_refl _)]
    have e : (fun i => (before s l (k + 1) i - before s l k i) * (s.parts.getD i default).long) = fun i => before s l (k + 1) i * (s.parts.getD i default).long - before s l k i * (s.parts.getD i default).long := by
      funext i; rw [Int.sub_mul]
    rw [e, sum_sub s.parts.length (fun i => before s l (k + 1) i * (s.parts.getD i default).long) (fun i => before s l k i * (s.parts.getD i default).long)]
    omega
/-- the castings that are needed by a day take the hours that the document says -/
theorem used_takes {s : ShopR} {l : List OrdR} (hg : Good s) (hf : Fit s l) (d : Nat) : usedOf s (listTo s l (d + 1)) = takes s l d := by
  rw [used_list hg hf]
  unfold takes
  simp [before]
theorem can_spec {s : ShopR} {l : List OrdR} (hc : canB s l = true) {d : Nat} (hd : d < s.hours.length) : takes s l d ≤ worked s d := by
  have h3 : first? s l = none := by simpa [canB] using hc
  have h4 : ¬ 0 < over s l d := of_decide_eq_false (fst?_none_spec h3 d hd)
  unfold over at h4
  omega
theorem done_le {s : ShopR} {u : Int} {d : Nat} (hd : d < s.hours.length) (h : u ≤ worked s d) : done s u ≤ d := by
  unfold done
  cases hf : fst? s.hours.length fun d => decide (u ≤ worked s d) with
  | none => have := fst?_none_spec hf d hd; simp at this; omega
  | some k =>
    simp only [Option.getD_some]
    obtain ⟨_, _, h3⟩ := fst?_spec hf
    by_cases hk : d < k
    · have := h3 d hk; simp at this; omega
    · omega
theorem castsC_mem (s : ShopR) (n : Nat) (hn : n < s.hours.length) : ∀ (xs : List (Int × Int)) (u : Int), (∀ x ∈ xs, 0 ≤ longOf s x) → u + usedOf s xs ≤ worked s n → ∀ y ∈ castsC s u xs, 0 ≤ y.2 ∧ y.2 ≤ n ∧ ∃ x ∈ xs, y.1 = x.1 := by
  intro xs
  induction xs with
  | nil => intro u _ _ y hy; cases hy
  | cons x xs ih =>
    intro u hl hu y hy
    have e : usedOf s (x :: xs) = longOf s x + usedOf s xs := by simp [usedOf]
    have h0 : 0 ≤ usedOf s xs := by
      clear ih hu hy e
      induction xs with
      | nil => simp [usedOf]
      | cons z zs ih2 =>
        have := ih2 fun w hw => hl w (by simp at hw ⊢; rcases hw with hw | hw <;> simp [hw])
        have := hl z (by simp)
        have e : usedOf s (z :: zs) = longOf s z + usedOf s zs := by simp [usedOf]
        omega
    simp only [castsC, List.mem_cons] at hy
    rcases hy with rfl | hy
    · have := done_le hn (u := u + longOf s x) (by omega)
      exact ⟨by simp, by simp; omega, x, by simp, rfl⟩
    · obtain ⟨h1, h2, z, hz, h3⟩ := ih (u + longOf s x) (fun z hz => hl z (by simp [hz])) (by omega) y hy
      exact ⟨h1, h2, z, by simp [hz], h3⟩
theorem casts_mem {s : ShopR} {l : List OrdR} (hg : Good s) (hf : Fit s l) (hc : canB s l = true) {y : Int × Int} (hy : y ∈ castsL s l) : 0 ≤ y.2 ∧ y.2 < s.hours.length ∧ 0 ≤ y.1 ∧ y.1 < s.parts.length := by
  have hh := hg.hlen
  rw [castsL_eq] at hy
  have hl : ∀ x ∈ listTo s l s.hours.length, 0 ≤ longOf s x := fun x hx => by
    have := list_mem hx
    have := (hg.part (i := x.1.toNat) (by omega)).long
    unfold longOf
    omega
  have hu : 0 + usedOf s (listTo s l s.hours.length) ≤ worked s (s.hours.length - 1) := by
    have h1 := used_takes hg hf (s.hours.length - 1)
    have h2 := can_spec hc (d := s.hours.length - 1) (by omega)
    rw [show s.hours.length - 1 + 1 = s.hours.length by omega] at h1
    omega
  obtain ⟨h1, h2, x, hx, h3⟩ := castsC_mem s _ (by omega) _ 0 hl hu y hy
  have := list_mem hx
  omega

/-! ### comings and goings -/
def cntAt (xs : List (Int × Int)) (part day : Int) : Int := ((xs.filter fun x => x.1 == part && x.2 == day).length : Int)
def cntTo (xs : List (Int × Int)) (part day : Int) : Int := ((xs.filter fun x => x.1 == part && decide (x.2 ≤ day)).length : Int)
theorem cntAt_snoc (xs : List (Int × Int)) (x : Int × Int) (part day : Int) : cntAt (xs ++ [x]) part day = cntAt xs part day + if x.1 = part ∧ x.2 = day then 1 else 0 := by
  unfold cntAt
  rw [List.filter_append]
  by_cases h : x.1 = part <;> by_cases h2 : x.2 = day <;> simp [h, h2, List.filter_cons]
theorem cntAt_cons (x : Int × Int) (xs : List (Int × Int)) (part day : Int) : cntAt (x :: xs) part day = (if x.1 = part ∧ x.2 = day then 1 else 0) + cntAt xs part day := by
  unfold cntAt
  by_cases h : x.1 = part <;> by_cases h2 : x.2 = day <;> simp [h, h2] <;> omega
theorem cntTo_cons (x : Int × Int) (xs : List (Int × Int)) (part day : Int) : cntTo (x :: xs) part day = (if x.1 = part ∧ x.2 ≤ day then 1 else 0) + cntTo xs part day := by
  unfold cntTo
  by_cases h : x.1 = part <;> by_cases h2 : x.2 ≤ day <;> simp [List.filter_cons, h, h2] <;> omega
theorem cntTo_step (xs : List (Int × Int)) (part : Int) (d : Nat) : cntTo xs part ((d + 1 : Nat) : Int) = cntTo xs part d + cntAt xs part ((d + 1 : Nat) : Int) := by
  induction xs with
  | nil => rfl
  | cons x xs ih =>
    rw [cntTo_cons, cntTo_cons, cntAt_cons, ih]
    by_cases h : x.1 = part
    · by_cases h1 : x.2 ≤ (d : Int)
      · rw [if_pos ⟨h, by omega⟩, if_pos ⟨h, h1⟩, if_neg (by omega)]; omega
      · by_cases h4 : x.2 = ((d + 1 : Nat) : Int)
        · rw [if_pos ⟨h, by omega⟩, if_neg (by omega), if_pos ⟨h, h4⟩]; omega
        · rw [if_neg (by omega), if_neg (by omega), if_neg (by omega)]; omega
    · rw [if_neg (by omega), if_neg (by omega), if_neg (by omega)]; omega
theorem cntTo_zero (xs : List (Int × Int)) (part : Int) (h : ∀ x ∈ xs, 0 ≤ x.2) : cntTo xs part 0 = cntAt xs part 0 := by
  induction xs with
  | nil => rfl
  | cons x xs ih =>
    have h0 := h x (by simp)
    rw [cntTo_cons, cntAt_cons, ih fun y hy => h y (by simp [hy])]
    by_cases e : x.1 = part ∧ x.2 = 0
    · rw [if_pos e, if_pos (by omega)]
    · rw [if_neg e, if_neg (by omega)]
/-- after k castings -/
def kF1 (stock batch part : Int) (xs : List (Int × Int)) (d : Nat) : Int := (if d = 0 then stock else 0) + batch * cntAt xs part d
/-- after all castings and k orders -/
def kF2 (stock batch part : Int) (xs : List (Int × Int)) (l : List OrdR) (d : Nat) : Int := kF1 stock batch part xs d - due0 l part d
def psum (F : Nat → Int) (d : Nat) : Int := ((List.range (d + 1)).map F).sum
def kF3 (F : Nat → Int) (k d : Nat) : Int := if d ≤ k then psum F d else F d
theorem psum_succ (F : Nat → Int) (d : Nat) : psum F (d + 1) = psum F d + F (d + 1) := by
  unfold psum
  rw [List.range_succ, List.map_append, List.sum_append]; simp
theorem psum_zero (F : Nat → Int) : psum F 0 = F 0 := by simp [psum]
theorem kF3_zero (F : Nat → Int) : kF3 F 0 = F := by
  funext d
  unfold kF3
  split
  · obtain rfl : d = 0 := by omega
    exact psum_zero F
  · rfl
theorem kF3_step (F : Nat → Int) (k d : Nat) : (if d = k + 1 then kF3 F k (k + 1) + kF3 F k k else kF3 F k d) = kF3 F (k + 1) d := by
  unfold kF3
  split
  · rename_i h
    subst h
    rw [if_neg (by omega), if_pos (Nat.le_refl _), if_pos (Nat.le_refl _), psum_succ]
    omega
  · by_cases h2 : d ≤ k
    · rw [if_pos h2, if_pos (by omega)]
    · rw [if_neg h2, if_neg (by omega)]
theorem cntAt_yes {xs : List (Int × Int)} {x : Int × Int} {part day : Int} (h : x.1 = part) (h2 : x.2 = day) : cntAt (xs ++ [x]) part day = cntAt xs part day + 1 := by rw [cntAt_snoc, if_pos ⟨h, h2⟩]
theorem cntAt_no {xs : List (Int × Int)} {x : Int × Int} {part day : Int} (h : ¬ (x.1 = part ∧ x.2 = day)) : cntAt (xs ++ [x]) part day = cntAt xs part day := by rw [cntAt_snoc, if_neg h]; omega
theorem kF1_step (stock batch part : Int) (xs : List (Int × Int)) (x : Int × Int) (hx : x.1 = part) (q : Nat) (hq : x.2 = q) (d : Nat) :
    (if d = q then kF1 stock batch part xs q + batch else kF1 stock batch part xs d) = kF1 stock batch part (xs ++ [x]) d := by
  unfold kF1
  by_cases h : d = q
  · subst h
    rw [if_pos rfl, cntAt_yes hx hq, Int.mul_add]
    omega
  · rw [if_neg h, cntAt_no (by omega)]
theorem kF1_same (stock batch part : Int) (xs : List (Int × Int)) (x : Int × Int) (hx : x.1 ≠ part) (d : Nat) : kF1 stock batch part xs d = kF1 stock batch part (xs ++ [x]) d := by
  unfold kF1
  rw [cntAt_no (by simp [hx])]
theorem due0_one (l : List OrdR) (o : OrdR) (part day : Int) : due0 (l ++ [o]) part day = due0 l part day + if o.part = part ∧ o.due = day then o.many else 0 := by
  unfold due0
  rw [List.filter_append, List.map_append, List.sum_append]
  by_cases h : o.part = part <;> by_cases h2 : o.due = day <;> simp [h, h2, List.filter_cons]
theorem kF2_step (stock batch part : Int) (xs : List (Int × Int)) (l : List OrdR) (o : OrdR) (ho : o.part = part) (q : Nat) (hq : o.due = q) (d : Nat) :
    (if d = q then kF2 stock batch part xs l q - o.many else kF2 stock batch part xs l d) = kF2 stock batch part xs (l ++ [o]) d := by
  unfold kF2
  rw [due0_one]
  by_cases h : d = q
  · subst h
    rw [if_pos rfl, if_pos ⟨ho, hq⟩]
    omega
  · rw [if_neg h, if_neg (by omega)]
    omega
theorem kF2_same (stock batch part : Int) (xs : List (Int × Int)) (l : List OrdR) (o : OrdR) (ho : o.part ≠ part) (d : Nat) : kF2 stock batch part xs l d = kF2 stock batch part xs (l ++ [o]) d := by
  unfold kF2
  rw [due0_one, if_neg (by simp [ho])]
  omega
theorem psum_kF2 {stock batch part : Int} {xs : List (Int × Int)} {l : List OrdR} (hx : ∀ x ∈ xs, 0 ≤ x.2) (hl : ∀ o ∈ l, 0 ≤ o.due) (d : Nat) :
    psum (kF2 stock batch part xs l) d = stock - due l part d + batch * cntTo xs part d := by
  induction d with
  | zero =>
    have h1 := cntTo_zero xs part hx
    have h2 := due0_split l part 0
    have h3 := due_neg hl part
    rw [psum_zero]
    unfold kF2 kF1
    simp only [if_true]
    rw [show ((0 : Nat) : Int) = 0 from rfl, ← h1, h2]
    rw [show (0 : Int) - 1 = -1 from rfl, h3]
    omega
  | succ d ih =>
    have h1 := cntTo_step xs part d
    have h2 := due0_split l part ((d + 1 : Nat) : Int)
    rw [show ((d + 1 : Nat) : Int) - 1 = (d : Int) by omega] at h2
    rw [psum_succ, ih, h1, h2, Int.mul_add]
    unfold kF2 kF1
    rw [if_neg (by omega)]
    omega

theorem cnt_bd (xs : List (Int × Int)) (part day : Int) : 0 ≤ cntAt xs part day ∧ cntAt xs part day ≤ xs.length := by
  unfold cntAt
  exact ⟨by omega, by have := List.length_filter_le (fun x : Int × Int => x.1 == part && x.2 == day) xs; omega⟩
theorem kF1_bd {stock batch part : Int} {xs : List (Int × Int)} (hs : 0 ≤ stock ∧ stock ≤ 50) (hb : 1 ≤ batch ∧ batch ≤ 10) (hx : xs.length ≤ 1350) (d : Nat) : 0 ≤ kF1 stock batch part xs d ∧ kF1 stock batch part xs d ≤ 13550 := by
  have h := cnt_bd xs part d
  have h1 : 0 ≤ batch * cntAt xs part d := Int.mul_nonneg (by omega) h.1
  have h2 : batch * cntAt xs part d ≤ 10 * 1350 := Int.mul_le_mul (by omega) (by omega) h.1 (by omega)
  unfold kF1
  split <;> omega
theorem kF2_bd {stock batch part : Int} {xs : List (Int × Int)} {l : List OrdR} (hs : 0 ≤ stock ∧ stock ≤ 50) (hb : 1 ≤ batch ∧ batch ≤ 10) (hx : xs.length ≤ 1350) (hl : l.length ≤ 9) (hm : ∀ o ∈ l, 1 ≤ o.many ∧ o.many ≤ 50) (d : Nat) :
    -450 ≤ kF2 stock batch part xs l d ∧ kF2 stock batch part xs l d ≤ 13550 := by
  have h := kF1_bd (part := part) hs hb hx d
  have h2 := due0_bd hm part d
  unfold kF2
  omega
theorem psum_bd {F : Nat → Int} (h : ∀ d, -450 ≤ F d ∧ F d ≤ 13550) (d : Nat) : -450 * ((d : Int) + 1) ≤ psum F d ∧ psum F d ≤ 13550 * ((d : Int) + 1) := by
  induction d with
  | zero => rw [psum_zero]; have := h 0; omega
  | succ d ih => rw [psum_succ]; have := h (d + 1); omega
theorem kF3_bd {F : Nat → Int} (h : ∀ d, -450 ≤ F d ∧ F d ≤ 13550) (k : Nat) {d : Nat} (hd : d ≤ 20) : -10000 ≤ kF3 F k d ∧ kF3 F k d ≤ 300000 := by
  have h1 := psum_bd h d
  have h2 := h d
  unfold kF3
  split <;> omega
end Go.Proofs.Ytkmaapkbonkjfaa
