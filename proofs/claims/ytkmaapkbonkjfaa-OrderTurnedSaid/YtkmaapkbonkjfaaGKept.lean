/- Plain laws of what is kept: comings and goings day by day, and their sums. Walks of the layer order: words for Kept. Walks of the layer order: Kept of the program. -/
import Derived.Test.YtkmaapkbonkjfaaGPure
import Derived.Test.YtkmaapkbonkjfaaGDays
import Derived.Test.YtkmaapkbonkjfaaGPlan
import Derived.Laws.MakeOwn
import Derived.Laws.OwnMore
import Derived.Test.YtkmaapkbonkjfaaGTail
set_option linter.unusedSimpArgs false
set_option linter.unusedVariables false
namespace Go.Proofs.Ytkmaapkbonkjfaa

theorem used_append (s : ShopR) (a b : List (Int × Int)) : usedOf s (a ++ b) = usedOf s a + usedOf s b := by simp [usedOf]
theorem used_replicate (s : ShopR) (n : Nat) (x : Int × Int) : usedOf s (List.replicate n x) = n * longOf s x := by
  unfold usedOf
  induction n with
  | zero => simp
  | succ n ih => rw [List.replicate_succ, List.map_cons, List.sum_cons, ih, Int.natCast_add, Int.add_mul]; omega
theorem used_news {s : ShopR} {l : List OrdR} (hg : Good s) (hf : Fit s l) (k : Nat) : ∀ np, np ≤ s.parts.length → usedOf s (newsOf s l k np) = ((List.range np).map fun i => (before s l (k + 1) i - before s l k i) * (s.parts.getD i default).long).sum := by
  intro np
  induction np with
  | zero => intro _; rfl
  | succ np ih =>
    intro h
    have := newBy_bd hg hf (i := np) (by omega) k
    rw [newsOf_succ, used_append, used_replicate, List.range_succ, List.map_append, List.sum_append, ih (by omega), Int.toNat_of_nonneg this.1, newBy_before]
    simp [longOf]
theorem used_list {s : ShopR} {l : List OrdR} (hg : Good s) (hf : Fit s l) (k : Nat) : usedOf s (listTo s l k) = ((List.range s.parts.length).map fun i => before s l k i * (s.parts.getD i default).long).sum := by
  induction k with
  | zero =>
    have : ((List.range s.parts.length).map fun i => before s l 0 i * (s.parts.getD i default).long).sum = 0 := by
      have e : (fun i => before s l 0 i * (s.parts.getD i default).long) = fun _ => 0 := by funext i; simp [before]
      rw [e, sum_const]; simp
    rw [this]
    simp [listTo, usedOf]
  | succ k ih =>
    rw [listTo_succ, used_append, ih, used_news hg hf k _ (Nat.le_refl _)]
    have e : (fun i => (before s l (k + 1) i - before s l k i) * (s.parts.getD i default).long) = fun i => before s l (k + 1) i * (s.parts.getD i default).long - before s l k i * (s.parts.getD i default).long := by
      funext i; rw [Int.sub_mul]
    rw [e, sum_sub s.parts.length (fun i => before s l (k + 1) i * (s.parts.getD i default).long) (fun i => before s l k i * (s.parts.getD i default).long)]
    omega
/-- the castings that are needed by a day take the hours that the document says -/
theorem used_takes {s : ShopR} {l : List OrdR} (hg : Good s) (hf : Fit s l) (d : Nat) : usedOf s (listTo s l (d + 1)) = takes s l d := by
  rw [used_list hg hf]
  unfold takes
  simp [before]
theorem can_spec {s : ShopR} {l : List OrdR} (hc : canB s l = true) {d : Nat} (hd : d < s.hours.length) : takes s l d ≤ worked s d := by
  have h3 : first? s l = none := by simpa [canB] using hc
  have h4 : ¬ 0 < over s l d := of_decide_eq_false (fst?_none_spec h3 d hd)
  unfold over at h4
  omega
theorem done_le {s : ShopR} {u : Int} {d : Nat} (hd : d < s.hours.length) (h : u ≤ worked s d) : done s u ≤ d := by
  unfold done
  cases hf : fst? s.hours.length fun d => decide (u ≤ worked s d) with
  | none => have := fst?_none_spec hf d hd; simp at this; omega
  | some k =>
    simp only [Option.getD_some]
    obtain ⟨_, _, h3⟩ := fst?_spec hf
    by_cases hk : d < k
    · have := h3 d hk; simp at this; omega
    · omega
theorem castsC_mem (s : ShopR) (n : Nat) (hn : n < s.hours.length) : ∀ (xs : List (Int × Int)) (u : Int), (∀ x ∈ xs, 0 ≤ longOf s x) → u + usedOf s xs ≤ worked s n → ∀ y ∈ castsC s u xs, 0 ≤ y.2 ∧ y.2 ≤ n ∧ ∃ x ∈ xs, y.1 = x.1 := by
  intro xs
  induction xs with
  | nil => intro u _ _ y hy; cases hy
  | cons x xs ih =>
    intro u hl hu y hy
    have e : usedOf s (x :: xs) = longOf s x + usedOf s xs := by simp [usedOf]
    have h0 : 0 ≤ usedOf s xs := by
      clear ih hu hy e
      induction xs with
      | nil => simp [usedOf]
      | cons z zs ih2 =>
        have := ih2 fun w hw => hl w (by simp at hw ⊢; rcases hw with hw | hw <;> simp [hw])
        have := hl z (by simp)
        have e : usedOf s (z :: zs) = longOf s z + usedOf s zs := by simp [usedOf]
        omega
    simp only [castsC, List.mem_cons] at hy
    rcases hy with rfl | hy
    · have := done_le hn (u := u + longOf s x) (by omega)
      exact ⟨by simp, by simp; omega, x, by simp, rfl⟩
    · obtain ⟨h1, h2, z, hz, h3⟩ := ih (u + longOf s x) (fun z hz => hl z (by simp [hz])) (by omega) y hy
      exact ⟨h1, h2, z, by simp [hz], h3⟩
theorem casts_mem {s : ShopR} {l : List OrdR} (hg : Good s) (hf : Fit s l) (hc : canB s l = true) {y : Int × Int} (hy : y ∈ castsL s l) : 0 ≤ y.2 ∧ y.2 < s.hours.length ∧ 0 ≤ y.1 ∧ y.1 < s.parts.length := by
  have hh := hg.hlen
  rw [castsL_eq] at hy
  have hl : ∀ x ∈ listTo s l s.hours.length, 0 ≤ longOf s x := fun x hx => by
    have := list_mem hx
    have := (hg.part (i := x.1.toNat) (by omega)).long
    unfold longOf
    omega
  have hu : 0 + usedOf s (listTo s l s.hours.length) ≤ worked s (s.hours.length - 1) := by
    have h1 := used_takes hg hf (s.hours.length - 1)
    have h2 := can_spec hc (d := s.hours.length - 1) (by omega)
    rw [show s.hours.length - 1 + 1 = s.hours.length by omega] at h1
    omega
  obtain ⟨h1, h2, x, hx, h3⟩ := castsC_mem s _ (by omega) _ 0 hl hu y hy
  have := list_mem hx
  omega

/-! ### comings and goings -/
def cntAt (xs : List (Int × Int)) (part day : Int) : Int := ((xs.filter fun x => x.1 == part && x.2 == day).length : Int)
def cntTo (xs : List (Int × Int)) (part day : Int) : Int := ((xs.filter fun x => x.1 == part && decide (x.2 ≤ day)).length : Int)
theorem cntAt_snoc (xs : List (Int × Int)) (x : Int × Int) (part day : Int) : cntAt (xs ++ [x]) part day = cntAt xs part day + if x.1 = part ∧ x.2 = day then 1 else 0 := by
  unfold cntAt
  rw [List.filter_append]
  by_cases h : x.1 = part <;> by_cases h2 : x.2 = day <;> simp [h, h2]
theorem cntAt_cons (x : Int × Int) (xs : List (Int × Int)) (part day : Int) : cntAt (x :: xs) part day = (if x.1 = part ∧ x.2 = day then 1 else 0) + cntAt xs part day := by
  unfold cntAt
  by_cases h : x.1 = part <;> by_cases h2 : x.2 = day <;> simp [h, h2] <;> omega
theorem cntTo_cons (x : Int × Int) (xs : List (Int × Int)) (part day : Int) : cntTo (x :: xs) part day = (if x.1 = part ∧ x.2 ≤ day then 1 else 0) + cntTo xs part day := by
  unfold cntTo
  by_cases h : x.1 = part <;> by_cases h2 : x.2 ≤ day <;> simp [h, h2] <;> omega
theorem cntTo_step (xs : List (Int × Int)) (part : Int) (d : Nat) : cntTo xs part ((d + 1 : Nat) : Int) = cntTo xs part d + cntAt xs part ((d + 1 : Nat) : Int) := by
  induction xs with
  | nil => rfl
  | cons x xs ih =>
    rw [cntTo_cons, cntTo_cons, cntAt_cons, ih]
    by_cases h : x.1 = part
    · by_cases h1 : x.2 ≤ (d : Int)
      · rw [if_pos ⟨h, by omega⟩, if_pos ⟨h, h1⟩, if_neg (by omega)]; omega
      · by_cases h4 : x.2 = ((d + 1 : Nat) : Int)
        · rw [if_pos ⟨h, by omega⟩, if_neg (by omega), if_pos ⟨h, h4⟩]; omega
        · rw [if_neg (by omega), if_neg (by omega), if_neg (by omega)]; omega
    · rw [if_neg (by omega), if_neg (by omega), if_neg (by omega)]; omega
theorem cntTo_zero (xs : List (Int × Int)) (part : Int) (h : ∀ x ∈ xs, 0 ≤ x.2) : cntTo xs part 0 = cntAt xs part 0 := by
  induction xs with
  | nil => rfl
  | cons x xs ih =>
    have h0 := h x (by simp)
    rw [cntTo_cons, cntAt_cons, ih fun y hy => h y (by simp [hy])]
    by_cases e : x.1 = part ∧ x.2 = 0
    · rw [if_pos e, if_pos (by omega)]
    · rw [if_neg e, if_neg (by omega)]
/-- after k castings -/
def kF1 (stock batch part : Int) (xs : List (Int × Int)) (d : Nat) : Int := (if d = 0 then stock else 0) + batch * cntAt xs part d
/-- after all castings and k orders -/
def kF2 (stock batch part : Int) (xs : List (Int × Int)) (l : List OrdR) (d : Nat) : Int := kF1 stock batch part xs d - due0 l part d
def psum (F : Nat → Int) (d : Nat) : Int := ((List.range (d + 1)).map F).sum
def kF3 (F : Nat → Int) (k d : Nat) : Int := if d ≤ k then psum F d else F d
theorem psum_succ (F : Nat → Int) (d : Nat) : psum F (d + 1) = psum F d + F (d + 1) := by
  unfold psum
  rw [List.range_succ, List.map_append, List.sum_append]; simp
theorem psum_zero (F : Nat → Int) : psum F 0 = F 0 := by simp [psum]
theorem kF3_zero (F : Nat → Int) : kF3 F 0 = F := by
  funext d
  unfold kF3
  split
  · obtain rfl : d = 0 := by omega
    exact psum_zero F
  · rfl
theorem kF3_step (F : Nat → Int) (k d : Nat) : (if d = k + 1 then kF3 F k (k + 1) + kF3 F k k else kF3 F k d) = kF3 F (k + 1) d := by
  unfold kF3
  split
  · rename_i h
    subst h
    rw [if_neg (by omega), if_pos (Nat.le_refl _), if_pos (Nat.le_refl _), psum_succ]
    omega
  · by_cases h2 : d ≤ k
    · rw [if_pos h2, if_pos (by omega)]
    · rw [if_neg h2, if_neg (by omega)]
theorem cntAt_yes {xs : List (Int × Int)} {x : Int × Int} {part day : Int} (h : x.1 = part) (h2 : x.2 = day) : cntAt (xs ++ [x]) part day = cntAt xs part day + 1 := by rw [cntAt_snoc, if_pos ⟨h, h2⟩]
theorem cntAt_no {xs : List (Int × Int)} {x : Int × Int} {part day : Int} (h : ¬ (x.1 = part ∧ x.2 = day)) : cntAt (xs ++ [x]) part day = cntAt xs part day := by rw [cntAt_snoc, if_neg h]; omega
theorem kF1_step (stock batch part : Int) (xs : List (Int × Int)) (x : Int × Int) (hx : x.1 = part) (q : Nat) (hq : x.2 = q) (d : Nat) :
    (if d = q then kF1 stock batch part xs q + batch else kF1 stock batch part xs d) = kF1 stock batch part (xs ++ [x]) d := by
  unfold kF1
  by_cases h : d = q
  · subst h
    rw [if_pos rfl, cntAt_yes hx hq, Int.mul_add]
    omega
  · rw [if_neg h, cntAt_no (by omega)]
theorem kF1_same (stock batch part : Int) (xs : List (Int × Int)) (x : Int × Int) (hx : x.1 ≠ part) (d : Nat) : kF1 stock batch part xs d = kF1 stock batch part (xs ++ [x]) d := by
  unfold kF1
  rw [cntAt_no (by simp [hx])]
theorem due0_one (l : List OrdR) (o : OrdR) (part day : Int) : due0 (l ++ [o]) part day = due0 l part day + if o.part = part ∧ o.due = day then o.many else 0 := by
  unfold due0
  rw [List.filter_append, List.map_append, List.sum_append]
  by_cases h : o.part = part <;> by_cases h2 : o.due = day <;> simp [h, h2]
theorem kF2_step (stock batch part : Int) (xs : List (Int × Int)) (l : List OrdR) (o : OrdR) (ho : o.part = part) (q : Nat) (hq : o.due = q) (d : Nat) :
    (if d = q then kF2 stock batch part xs l q - o.many else kF2 stock batch part xs l d) = kF2 stock batch part xs (l ++ [o]) d := by
  unfold kF2
  rw [due0_one]
  by_cases h : d = q
  · subst h
    rw [if_pos rfl, if_pos ⟨ho, hq⟩]
    omega
  · rw [if_neg h, if_neg (by omega)]
    omega
theorem kF2_same (stock batch part : Int) (xs : List (Int × Int)) (l : List OrdR) (o : OrdR) (ho : o.part ≠ part) (d : Nat) : kF2 stock batch part xs l d = kF2 stock batch part xs (l ++ [o]) d := by
  unfold kF2
  rw [due0_one, if_neg (by simp [ho])]
  omega
theorem psum_kF2 {stock batch part : Int} {xs : List (Int × Int)} {l : List OrdR} (hx : ∀ x ∈ xs, 0 ≤ x.2) (hl : ∀ o ∈ l, 0 ≤ o.due) (d : Nat) :
    psum (kF2 stock batch part xs l) d = stock - due l part d + batch * cntTo xs part d := by
  induction d with
  | zero =>
    have h1 := cntTo_zero xs part hx
    have h2 := due0_split l part 0
    have h3 := due_neg hl part
    rw [psum_zero]
    unfold kF2 kF1
    simp only [if_true]
    rw [show ((0 : Nat) : Int) = 0 from rfl, ← h1, h2]
    rw [show (0 : Int) - 1 = -1 from rfl, h3]
    omega
  | succ d ih =>
    have h1 := cntTo_step xs part d
    have h2 := due0_split l part ((d + 1 : Nat) : Int)
    rw [show ((d + 1 : Nat) : Int) - 1 = (d : Int) by omega] at h2
    rw [psum_succ, ih, h1, h2, Int.mul_add]
    unfold kF2 kF1
    rw [if_neg (by omega)]
    omega

theorem cnt_bd (xs : List (Int × Int)) (part day : Int) : 0 ≤ cntAt xs part day ∧ cntAt xs part day ≤ xs.length := by
  unfold cntAt
  exact ⟨by omega, by have := List.length_filter_le (fun x : Int × Int => x.1 == part && x.2 == day) xs; omega⟩
theorem kF1_bd {stock batch part : Int} {xs : List (Int × Int)} (hs : 0 ≤ stock ∧ stock ≤ 50) (hb : 1 ≤ batch ∧ batch ≤ 10) (hx : xs.length ≤ 1350) (d : Nat) : 0 ≤ kF1 stock batch part xs d ∧ kF1 stock batch part xs d ≤ 13550 := by
  have h := cnt_bd xs part d
  have h1 : 0 ≤ batch * cntAt xs part d := Int.mul_nonneg (by omega) h.1
  have h2 : batch * cntAt xs part d ≤ 10 * 1350 := Int.mul_le_mul (by omega) (by omega) h.1 (by omega)
  unfold kF1
  split <;> omega
theorem kF2_bd {stock batch part : Int} {xs : List (Int × Int)} {l : List OrdR} (hs : 0 ≤ stock ∧ stock ≤ 50) (hb : 1 ≤ batch ∧ batch ≤ 10) (hx : xs.length ≤ 1350) (hl : l.length ≤ 9) (hm : ∀ o ∈ l, 1 ≤ o.many ∧ o.many ≤ 50) (d : Nat) :
    -450 ≤ kF2 stock batch part xs l d ∧ kF2 stock batch part xs l d ≤ 13550 := by
  have h := kF1_bd (part := part) hs hb hx d
  have h2 := due0_bd hm part d
  unfold kF2
  omega
theorem psum_bd {F : Nat → Int} (h : ∀ d, -450 ≤ F d ∧ F d ≤ 13550) (d : Nat) : -450 * ((d : Int) + 1) ≤ psum F d ∧ psum F d ≤ 13550 * ((d : Int) + 1) := by
  induction d with
  | zero => rw [psum_zero]; have := h 0; omega
  | succ d ih => rw [psum_succ]; have := h (d + 1); omega
theorem kF3_bd {F : Nat → Int} (h : ∀ d, -450 ≤ F d ∧ F d ≤ 13550) (k : Nat) {d : Nat} (hd : d ≤ 20) : -10000 ≤ kF3 F k d ∧ kF3 F k d ≤ 300000 := by
  have h1 := psum_bd h d
  have h2 := h d
  unfold kF3
  split <;> omega
end Go.Proofs.Ytkmaapkbonkjfaa
namespace Go.Proofs.Ytkmaapkbonkjfaa
open Go.RowKit

/-- numbers, as cells -/
def intsC (n : Nat) (F : Nat → Int) : Array Value := ((List.range n).map fun d => Value.int .i64 (F d)).toArray
/-- block g holds n numbers -/
def IArr (w : World) (g n : Nat) (F : Nat → Int) : Prop := w.heap[g]? = some (.cells (intsC n F) 3)
theorem IArr.cell {w : World} {g n : Nat} {F : Nat → Int} (h : IArr w g n F) {i : Nat} (hi : i < n) : w.cell? ⟨g, i, none⟩ = some (.int .i64 (F i)) :=
  cellOf h i (by simp [intsC, hi])
theorem IArr.frozen {w : World} {g n : Nat} {F : Nat → Int} (h : IArr w g n F) (i : Nat) : w.frozen? ⟨g, i, none⟩ = false := by
  unfold IArr at h
  simp [World.frozen?, h]
theorem intsC_set (n : Nat) (F : Nat → Int) (i : Nat) (v : Int) : (intsC n F).setIfInBounds i (.int .i64 v) = intsC n fun d => if d = i then v else F d := by
  unfold intsC
  apply Array.ext_getElem?
  intro j
  by_cases hj : j < n
  · by_cases e : i = j
    · subst e
      simp [hj]
    · simp [hj, e, Ne.symm e]
  · simp [hj]
theorem IArr.set_ {w : World} {g n : Nat} {F : Nat → Int} (h : IArr w g n F) (i : Nat) (v : Int) : IArr (w.setCell ⟨g, i, none⟩ (.int .i64 v)) g n fun d => if d = i then v else F d := by
  unfold IArr at h ⊢
  rw [← intsC_set]
  simp [World.setCell, Array.getElem?_modify, h]
theorem IArr.below {w w' : World} {g n : Nat} {F : Nat → Int} (h : IArr w g n F) (hb : Below w.heap.size w w') : IArr w' g n F := (hb.block g (lt_of_block h)).trans h
theorem IArr.congr {w : World} {g n : Nat} {F G : Nat → Int} (h : IArr w g n F) (e : ∀ d, F d = G d) : IArr w g n G := by
  have : F = G := funext e
  rw [← this]
  exact h
theorem IArr.rd {w : World} {g n : Nat} {F : Nat → Int} (h : IArr w g n F) (hn : n ≤ 9223372036854775807) : Rd IntAt 1 (g + 1) w (.slice (some ⟨g, 0, none⟩) n n) ((List.range n).map F) := by
  refine ⟨some ⟨g, 0, none⟩, n, by simp, by simp, hn, fun i x hx => ⟨_, rfl, Nat.lt_succ_self g, ?_⟩⟩
  rw [List.getElem?_map] at hx
  obtain ⟨j, hj, rfl⟩ := Option.map_eq_some_iff.1 hx
  have hj2 : i < n := by
    have := (List.getElem?_eq_some_iff.1 hj).1
    simpa using this
  rw [List.getElem?_range hj2] at hj
  injection hj with hj
  subst hj
  have hadd : (⟨g, 0, none⟩ : Addr).add (i * 1) = ⟨g, i, none⟩ := by unfold Addr.add; split <;> simp_all
  unfold IntAt
  rw [hadd]
  exact h.cell hj2

theorem make_ints (n : Nat) (hn : n ≤ 1000) (w : World) : (Instr.makeSlice 22 (.int .i64 n) (.int .i64 n)).run Try.prog w = .ok (.slice (some ⟨w.heap.size, 0, none⟩) n n) (w.alloc (.cells (intsC n fun _ => 0) 3)) := by
  obtain ⟨i, hi, hi2⟩ := Option.map_eq_some_iff.1 (show (Try.prog.info? 3).map (fun i => (i.size, i.bytes, i.zero)) = some (1, 8, some (.int .i64 0)) by kernel_rfl)
  simp only [Prod.mk.injEq] at hi2
  obtain ⟨hsize, hby, hz⟩ := hi2
  have ht : Try.prog.underlying 22 = some (.slice 3) := by kernel_rfl
  have e : madeCells (Value.int .i64 0).cells n = intsC n fun _ => 0 := by
    apply Array.ext'
    rw [show (Value.int .i64 0).cells = #[.int .i64 0] from rfl, toList_madeCells_one]
    simp only [intsC]
    apply List.ext_getElem?
    intro j
    by_cases hj : j < n <;> simp [hj]
  have h := run_make (P := Try.prog) w 22 3 i (.int .i64 0) ht hi hz .i64 .i64 n n (by omega) (Int.le_refl _) (by rw [hby]; omega) (by omega)
  rw [hsize, Int.toNat_natCast, Nat.mul_one, e] at h
  exact h

theorem KeepM.cellN {g : Nat} {w w' : World} (h : KeepM g w w') {a : Addr} {v : Value} (hc : w.cell? a = some v) (hne : a.block ≠ g) : w'.cell? a = some v := by
  rw [World.cell?_of_block (h.block a.block (cell_lt hc) hne)]
  exact hc
theorem KeepM.setAt {g : Nat} {w A : World} (h : KeepM g w A) (i : Nat) (v : Value) : KeepM g w (A.setCell ⟨g, i, none⟩ v) :=
  ⟨h.os, h.tape, h.output, by simpa [World.setCell] using h.size, fun k hk hn => by rw [Below.heap_setCell _ _ _ _ (by simpa using hn)]; exact h.block k hk hn⟩
theorem KeepM.alloc {g : Nat} {w A : World} (h : KeepM g w A) (o : Obj) : KeepM g w (A.alloc o) := h.trans (.of_below ((Below.refl _ _).alloc (Nat.le_refl _) _))
theorem KeepM.drewN {g : Nat} {w A : World} (h : KeepM g w A) (n : Nat) : KeepM g w (A.drewN n) := h.trans (.of_below (below_drewN (Below.refl _ _) n))
theorem Rd.keepG {α : Type} {At : World → Addr → α → Prop} [AtKeep At] {sz B g : Nat} {w w' : World} {v : Value} {xs : List α} (h : Rd At sz B w v xs) (k : KeepM g w w') (hB : B ≤ w.heap.size) (hs : B ≤ g ∨ SlFrom (g + 1) v) : Rd At sz B w' v xs := by
  rcases hs with hs | hs
  · exact h.below (k.below hB hs)
  · obtain ⟨A, cap, e, h1, h2, h3⟩ := h
    refine ⟨A, cap, e, h1, h2, fun i x hx => ?_⟩
    obtain ⟨ad, e2, hb, ha⟩ := h3 i x hx
    refine ⟨ad, e2, hb, AtKeep.keep w w' _ x (fun p hp => ?_) ha⟩
    rw [block_add] at hp
    have := hs ad _ _ (by rw [e, e2])
    exact World.cell?_of_block (k.block p.block (by omega) (by omega))
end Go.Proofs.Ytkmaapkbonkjfaa
namespace Go.Proofs.Ytkmaapkbonkjfaa
open Go.RowKit

def KeptR (w : World) (s : ShopR) (t : List Int) (part : Int) (e : Ending) (w' : World) : Prop :=
  ∃ A c, e = .returned (.tuple #[.slice A (keptF s t part).1.length c, .int .i64 (keptF s t part).2]) ∧ Rd IntAt 1 w'.heap.size w' (.slice A (keptF s t part).1.length c) (keptF s t part).1 ∧ Below w.heap.size w w'
theorem keptR_eq {w w' : World} {s : ShopR} {t : List Int} {part : Int} {e : Ending} {l : List Int} {n : Int} (h : keptF s t part = (l, n)) {A : Option Addr} {c : Nat} (he : e = .returned (.tuple #[.slice A l.length c, .int .i64 n])) (hr : Rd IntAt 1 w'.heap.size w' (.slice A l.length c) l) (hb : Below w.heap.size w w') : KeptR w s t part e w' := by
  unfold KeptR
  rw [h]
  exact ⟨A, c, he, hr, hb⟩

set_option maxRecDepth 100000 in
theorem pkept_any {B : Nat} {w : World} {v vt : Value} {s : ShopR} {t : List Int} (h : Given B w v vt s t) (part : Int) :
    Calls Try.prog 27 #[v, vt, .int .i64 part] w (KeptR w s t part) := by
  obtain ⟨Ah, ch, Ap, cp, Ao, co, At_, ct, rfl, rfl⟩ := h.form
  obtain ⟨W, hW, c0, c1, c2, hz, hb, _⟩ := shop_box w (.slice Ah s.hours.length ch) (.slice Ap s.parts.length cp) (.slice Ao s.orders.length co)
  go_enter Try.func27, Try.ntmps27
  go_upto_region 1 with (fail)
  rw [← hW]
  have hG := Lib.hid (h.below hb)
  have Hb := Lib.hid hb
  have Hz := Lib.hid hz
  clear hW hz hb h
  by_cases he : takenErr s t = 0
  · have hq := Lib.hid (enter_ok hG.out he)
    obtain ⟨_, hg, hf, ht8⟩ := fit_of he
    have He := Lib.hid he
    clear he
    have hplen := hg.plen
    have hhlen := hg.hlen
    cases n1 : inB part 0 (s.parts.length - 1) with
    | false =>
      have e := Lib.hid (show keptF s t part = ([], 4) by unfold keptF; rw [if_neg (by simp [He.out]), if_pos n1])
      have n1 := (outB_one 0 (s.parts.length - 1) part).trans (by rw [n1])
      have HX := Lib.hid (Below.refl W.heap.size W)
      go_wp2_with (first | (go_at_call 52; refine hq.out.mono ?_; rintro e wx ⟨p, bm, A, c, rfl, hE⟩; have c1 := (hE.bl.cell (cell_lt c1)).trans c1; have HX := Lib.hid (HX.out.trans (hE.bl.mono HX.out.size)); clear hE) | (go_at_call 44; refine (out1 _ _ _ _).mono ?_; rintro e wo ⟨rfl, hbx⟩; have HX := Lib.hid (HX.out.trans (hbx.mono HX.out.size)); clear hbx))
      go_ret2
      exact keptR_eq e.out rfl (Rd.nil _ _) (Hb.out.trans (HX.out.mono Hb.out.size))
    | true =>
    have n2 := (inB_iff.1 n1)
    obtain ⟨q, rfl⟩ : ∃ q : Nat, part = q := ⟨part.toNat, by omega⟩
    have hq3 : q < s.parts.length := by omega
    cases hc : canB s (ofL s t) with
    | false =>
      have e := Lib.hid (show keptF s t q = ([], 9) by unfold keptF; rw [if_neg (by simp [He.out]), if_neg (by simp [n1]), if_neg (by simp [hc])])
      have n1 : outB 0 (s.parts.length - 1) [(q : Int)] = false := by rw [outB_one, n1]; rfl
      have hc' := Lib.hid hc
      clear hc
      go_wp2_with (first | (go_at_call 52; refine hq.out.mono ?_; rintro e wx ⟨p, bm, A, c, rfl, hE⟩; have c1 := (hE.bl.cell (cell_lt c1)).trans c1; have HE := Lib.hid hE; clear hE) | (go_at_call 44; refine (out1 _ _ _ _).mono ?_; rintro e wo ⟨rfl, hbx⟩; have HX := Lib.hid hbx; clear hbx) | (go_at_call 60; refine (pcan_any (HE.out.shop.below HX.out) (HE.out.ls.below HX.out) hg hf HX.out.size).mono ?_; rw [hc'.out]; rintro e wy ⟨rfl, hk, _⟩; have HK := Lib.hid hk; clear hk))
      go_ret2
      exact keptR_eq e.out rfl (Rd.nil _ _) (Hb.out.trans ((HE.out.after ((KeepM.of_below HX.out).trans HK.out)).mono Hb.out.size))
    | true =>
      have e := Lib.hid (show keptF s t q = (keptL s (ofL s t) q, 0) by unfold keptF; rw [if_neg (by simp [He.out]), if_neg (by simp [n1]), if_pos hc]; rfl)
      have n1 : outB 0 (s.parts.length - 1) [(q : Int)] = false := by rw [outB_one, n1]; rfl
      have hc' := Lib.hid hc
      clear hc
      go_upto_region 8 with (first | (go_at_call 52; refine hq.out.mono ?_; rintro e wx ⟨p, bm, A, c, rfl, hE⟩; have c0 := (hE.bl.cell (cell_lt c0)).trans c0; have c1 := (hE.bl.cell (cell_lt c1)).trans c1; have HE := Lib.hid hE; clear hE) | (go_at_call 44; refine (out1 _ _ _ _).mono ?_; rintro e wo ⟨rfl, hbx⟩; have c0 := (hbx.cell (cell_lt c0)).trans c0; have c1 := (hbx.cell (cell_lt c1)).trans c1; have HX := Lib.hid hbx; clear hbx) | (go_at_call 60; refine (pcan_any (HE.out.shop.below HX.out) (HE.out.ls.below HX.out) hg hf HX.out.size).mono ?_; rw [hc'.out]; rintro e wy ⟨rfl, hk, hm⟩; have c0 := hk.cell (HE.out.shop.map.below HX.out) c0; have c1 := hk.cell (HE.out.shop.map.below HX.out) c1; have HK := Lib.hid hk; have HM := Lib.hid hm; clear hk hm))
      have hbw : Below W.heap.size W wy := HE.out.after ((KeepM.of_below HX.out).trans HK.out)
      have hpp : Rd PartAt 4 B W (.slice Ap s.parts.length cp) s.parts := by
        obtain ⟨vh, vp, vo, hv, _, hp, _⟩ := hG.out.shop
        cases hv
        exact hp
      have hle := hG.out.le
      obtain ⟨ap, rfl, hapb, p0, p1, p2, p3⟩ := (hpp.below (hbw.mono hle)).part hq3
      have hok := hg.part hq3
      rw [List.getD_eq_getElem?_getD] at hok
      obtain ⟨pp, hpe⟩ : ∃ pp, pp = s.parts[q]?.getD default := ⟨_, rfl⟩
      rw [← hpe] at p0 p1 p2 p3 hok
      have hb1 := hok.batch
      have hb3 := hok.stock
      have hmk := make_ints s.hours.length (by omega)
      have hqi : (q : Int) < s.parts.length := by omega
      have hsz1 := hbw.size
      have hsz0 := Hz.out
      have hsw : w.heap.size < wy.heap.size := by omega
      have hpb2 : (ap.add (q * 4)).block < wy.heap.size := by rw [block_add]; omega
      obtain ⟨W5, hW5, r5, z5, b5⟩ := box_any wy (intsC s.hours.length fun _ => 0) 3
      have hI5 : IArr W5 wy.heap.size s.hours.length fun _ => 0 := r5
      have k0 := hI5.cell (i := 0) (by omega)
      have kf0 := hI5.frozen 0
      have c0 := (b5.cell (cell_lt c0)).trans c0
      have c1 := (b5.cell (cell_lt c1)).trans c1
      have p1 := (b5.cell (cell_lt p1)).trans p1
      have p3 := (b5.cell (cell_lt p3)).trans p3
      have Hpe := Lib.hid hpe
      have Hbw := Lib.hid hbw
      have HI5 := Lib.hid hI5
      have B5 := Lib.hid b5
      have Z5 := Lib.hid z5
      clear hpe hbw hI5 b5 z5 r5 hpp p0 p2 hsz0
      go_upto_region 9 with (fail)
      rw [← hW5]
      clear hW5 hmk
      go_upto_region 10 with (fail)
      obtain ⟨W6, hW6⟩ : ∃ W6, W6 = W5.setCell ⟨wy.heap.size, 0, none⟩ (.int .i64 pp.stock) := ⟨_, rfl⟩
      rw [← hW6]
      have hI6 : IArr W6 wy.heap.size s.hours.length (kF1 pp.stock pp.batch q []) := by
        rw [hW6]
        exact (HI5.out.set_ 0 pp.stock).congr fun d => by simp [kF1, cntAt]
      have hb6 : Below wy.heap.size wy W6 := by rw [hW6]; exact B5.out.setCell (p := ⟨wy.heap.size, 0, none⟩) (Nat.le_refl _) _
      have hz6 : W6.heap.size = wy.heap.size + 1 := by rw [hW6]; have := Z5.out; simpa [World.setCell] using this
      have c0 := (show W6.cell? ⟨w.heap.size, 0, none⟩ = W5.cell? ⟨w.heap.size, 0, none⟩ by rw [hW6, World.cell?_setCell_other _ _ _ _ (by first | (simp; done) | (simp; omega))]).trans c0
      have c1 := (show W6.cell? ⟨w.heap.size, 1, none⟩ = W5.cell? ⟨w.heap.size, 1, none⟩ by rw [hW6, World.cell?_setCell_other _ _ _ _ (by first | (simp; done) | (simp; omega))]).trans c1
      have p1 := (show W6.cell? ⟨(ap.add (q * 4)).block, (ap.add (q * 4)).off + 1, none⟩ = W5.cell? ⟨(ap.add (q * 4)).block, (ap.add (q * 4)).off + 1, none⟩ by rw [hW6, World.cell?_setCell_other _ _ _ _ (by first | (simp; done) | (simp; omega))]).trans p1
      have hs6 := (((HE.out.shop.below HX.out).keep HK.out HM.out).below hb6)
      have hl6 := ((HE.out.ls.below HX.out).keepM HK.out (HE.out.shop.map.below HX.out)).below (hb6.mono (Nat.le_trans HX.out.size HK.out.size))
      have hbm : bm < wy.heap.size := by obtain ⟨_, _, hh, _⟩ := HM.out; exact lt_of_block hh
      have hxy : wx.heap.size ≤ wy.heap.size := Nat.le_trans HX.out.size HK.out.size
      have hpl := Lib.hid (plan_any hs6 hl6 hg hf hc'.out (by omega))
      have hmem := fun y hy => casts_mem hg hf hc'.out (y := y) hy
      have hcl : (castsL s (ofL s t)).length ≤ 1350 := by rw [castsL_eq, castsC_len]; exact list_bd hg hf _
      have hke : keptL s (ofL s t) q = (List.range s.hours.length).map fun d => psum (kF2 pp.stock pp.batch q (castsL s (ofL s t)) (ofL s t)) d := by
        unfold keptL leftF
        refine List.map_congr_left fun d _ => ?_
        rw [psum_kF2 (fun x hx => (hmem x hx).1) (fun o ho => (hf.all o ho).due.1), List.getD_eq_getElem?_getD, ← Hpe.out]
        rfl
      rw [hke] at e
      have HI6 := Lib.hid hI6
      have Hb6 := Lib.hid hb6
      have Hz6 := Lib.hid hz6
      have Hl6 := Lib.hid hl6
      have Hmem := Lib.hid hmem
      have Hmap := Lib.hid hs6.map
      clear hW6 hI6 hb6 hz6 hs6 hl6 hmem hke p3 k0 kf0
      generalize castsL s (ofL s t) = cs at *
      go_wp2_with (go_at_call 61; refine hpl.out.mono ?_; rintro e wz ⟨A3, c3, rfl, hr3, hk3, hm3, hf3⟩; have c0 := hk3.cell Hmap.out c0; have c1 := hk3.cell Hmap.out c1; have p1 := hk3.cell Hmap.out p1; have HR3 := Lib.hid hr3; have HK3 := Lib.hid hk3; have HF3 := Lib.hid hf3; clear hr3 hk3 hm3 hf3)
      have hIz : IArr wz wy.heap.size s.hours.length (kF1 pp.stock pp.batch q []) := (HK3.out.block _ (by have := Hz6.out; omega) (by omega)).trans HI6.out
      have HIz := Lib.hid hIz
      have hgz : wy.heap.size < wz.heap.size := lt_of_block hIz
      clear hIz
      clear hpl n1
      have Ek := e
      clear e
      go_loopw [55] (fun i wr => ∃ k : Nat, k ≤ cs.length ∧ i = .int .i64 k ∧ IArr wr wy.heap.size s.hours.length (kF1 pp.stock pp.batch q (cs.take k)) ∧ KeepM wy.heap.size wz wr) (fun i _ => cs.length - (intOf i).toNat)
      case atStart => exact ⟨0, Nat.zero_le _, rfl, HIz.out, .refl _ _⟩
      case round =>
        obtain ⟨k, hk, rfl, hI, hkm⟩ := hrel
        have hszr := hkm.size
        have c0 := hkm.cellN c0 (by simp; omega)
        have c1 := hkm.cellN c1 (by simp; omega)
        have p1 := hkm.cellN p1 (by simp; omega)
        by_cases hlt : k < cs.length
        · have hrd := HR3.out.keepG hkm (Nat.le_refl _) (.inr (HF3.out.mono (by have := Hz6.out; omega)))
          obtain ⟨ad, rfl, _⟩ := hrd.cast hlt
          obtain ⟨x0, x1⟩ := cmpAt hrd hlt
          have htk : cs.take (k + 1) = cs.take k ++ [cs[k]?.getD default] := by rw [take_succ_getD hlt default, List.getD_eq_getElem?_getD]
          have hxm := Hmem.out (cs[k]?.getD default) (by rw [← List.getD_eq_getElem?_getD]; exact getD_mem hlt default)
          have hxl : (cs.take k).length ≤ 1350 := by rw [List.length_take]; omega
          have Htk := Lib.hid htk
          have HI := Lib.hid hI
          have HKM := Lib.hid hkm
          clear htk hrd hI hkm
          generalize cs[k]?.getD default = x at *
          obtain ⟨xi, xd⟩ := x
          simp only at x0 x1 hxm
          obtain ⟨d, rfl⟩ := Int.eq_ofNat_of_zero_le hxm.1
          have hd : d < s.hours.length := by omega
          obtain ⟨W8, hW8, r8, z8, d8⟩ := box_any wr #[.int .i64 xi, .int .i64 d] 55
          have e0 := cellOf r8 0 (v := .int .i64 xi) rfl
          have e1 := cellOf r8 1 (v := .int .i64 d) rfl
          have c0 := (d8.cell (cell_lt c0)).trans c0
          have c1 := (d8.cell (cell_lt c1)).trans c1
          have p1 := (d8.cell (cell_lt p1)).trans p1
          have HI8 := Lib.hid (HI.out.below d8)
          have HK8 := Lib.hid (HKM.out.trans (.of_below d8))
          have Z8 := Lib.hid z8
          clear r8 z8 d8
          go_upto_region 13 with (fail)
          rw [← hW8]
          clear hW8 x0 x1
          by_cases hx : xi = q
          · have hx2 : (xi == (q : Int)) = true := by simp [hx]
            have hb := kF1_bd (part := q) hb3 hb1 hxl d
            have kd := HI8.out.cell (i := d) hd
            have kfd := HI8.out.frozen d
            have Hx := Lib.hid hx
            clear hx
            go_upto_region 14 with (fail)
            refine region_quiet_tail (C := fun w' => ∃ n, w' = W8.drewN n) 13 (by kernel_rfl) (by kernel_rfl) ⟨1, rfl⟩ ?_
            simp only [List.take_succ_cons, List.take_zero, List.drop_succ_cons, List.drop_zero]
            repeat (first | go_big_quiet_step (fail) | quiet_step (fail))
            refine wpQuiet_nil ?_
            rintro _ ⟨n1, rfl⟩
            go_wp2
            go_roundw
            case rel =>
              refine ⟨k + 1, by omega, by go_num, ?_, (HK8.out.drewN n1).setAt _ _⟩
              rw [Htk.out]
              exact (IArr.set_ (w := W8.drewN n1) HI8.out d _).congr fun j => kF1_step _ _ _ _ _ Hx.out d rfl j
            case measure => simp [intOf]; omega
          · have hx2 : (xi == (q : Int)) = false := by simp [hx]
            have Hx := Lib.hid hx
            clear hx
            go_wp2
            go_roundw
            case rel =>
              refine ⟨k + 1, by omega, by go_num, ?_, HK8.out⟩
              rw [Htk.out]
              exact HI8.out.congr fun j => kF1_same _ _ _ _ _ Hx.out j
            case measure => simp [intOf]; omega
        · have hkn : k = cs.length := by omega
          subst hkn
          rw [List.take_of_length_le (Nat.le_refl _)] at hI
          have HI := Lib.hid hI
          have HKM := Lib.hid hkm
          clear hI hkm
          have hrl := (Hl6.out.keepM HK3.out Hmap.out).keepG HKM.out (by omega) (.inl hxy)
          have hlt9 : (ofL s t).length = t.length := ofL_len s t
          have hlm := Lib.hid (fun o ho => hf.all o ho)
          have HRL := Lib.hid hrl
          have hll : t.length ≤ 9 := by omega
          have hmany := Lib.hid hf.many
          clear hrl
          generalize ofL s t = l at *
          obtain ⟨wq, rfl⟩ : ∃ wq : World, wq = wr := ⟨_, rfl⟩
          go_wp2
          go_loopw [79] (fun i wr => ∃ k : Nat, k ≤ t.length ∧ i = .int .i64 k ∧ IArr wr wy.heap.size s.hours.length (kF2 pp.stock pp.batch q cs (l.take k)) ∧ KeepM wy.heap.size wq wr) (fun i _ => t.length - (intOf i).toNat)
          case atStart => exact ⟨0, Nat.zero_le _, rfl, HI.out.congr fun d => by simp [kF2, due0], .refl _ _⟩
          case round =>
            obtain ⟨k, hk, rfl, hI, hkm⟩ := hrel
            have hszr := hkm.size
            by_cases hlt : k < t.length
            · have hrd := HRL.out.keepG hkm (by omega) (.inl hxy)
              obtain ⟨ad, rfl, _, x0, x1, x2, x3⟩ := hrd.ord (i := k) (by omega)
              have htk : l.take (k + 1) = l.take k ++ [l[k]?.getD default] := by rw [take_succ_getD (by omega) default, List.getD_eq_getElem?_getD]
              have hxm := hlm.out (l[k]?.getD default) (by rw [← List.getD_eq_getElem?_getD]; exact getD_mem (by omega) default)
              have hxl : (l.take k).length ≤ 9 := by rw [List.length_take]; omega
              have hbd := fun d => kF2_bd (part := q) (l := l.take k) hb3 hb1 hcl hxl (fun o ho => hmany.out o (List.mem_of_mem_take ho)) d
              have Htk := Lib.hid htk
              have HI := Lib.hid hI
              have HKM2 := Lib.hid hkm
              clear htk hrd hI hkm
              generalize l[k]?.getD default = o at *
              obtain ⟨op, om, od, ow⟩ := o
              simp only at x0 x1 x2 x3
              have hdue := hxm.due
              have hmy := hxm.many
              simp only at hdue hmy
              obtain ⟨d, rfl⟩ := Int.eq_ofNat_of_zero_le hdue.1
              have hd : d < s.hours.length := by omega
              have hb := hbd d
              obtain ⟨W8, hW8, r8, z8, d8⟩ := box_any wr #[.int .i64 op, .int .i64 om, .int .i64 d, .int .i64 ow] 60
              have e0 := cellOf r8 0 (v := .int .i64 op) rfl
              have e1 := cellOf r8 1 (v := .int .i64 om) rfl
              have e2 := cellOf r8 2 (v := .int .i64 d) rfl
              have HI8 := Lib.hid (HI.out.below d8)
              have HK8 := Lib.hid (HKM2.out.trans (.of_below d8))
              clear r8 z8 d8 hbd hxm
              go_upto_region 19 with (fail)
              rw [← hW8]
              clear hW8 x0 x1 x2 x3
              by_cases hx : op = q
              · have hx2 : (op == (q : Int)) = true := by simp [hx]
                have kd := HI8.out.cell (i := d) hd
                have kfd := HI8.out.frozen d
                have Hx := Lib.hid hx
                clear hx
                go_upto_region 20 with (fail)
                refine region_quiet_tail (C := fun w' => ∃ n, w' = W8.drewN n) 9 (by kernel_rfl) (by kernel_rfl) ⟨1, rfl⟩ ?_
                simp only [List.take_succ_cons, List.take_zero, List.drop_succ_cons, List.drop_zero]
                repeat (first | go_big_quiet_step (fail) | quiet_step (fail))
                refine wpQuiet_nil ?_
                rintro _ ⟨n1, rfl⟩
                go_wp2
                go_roundw
                case rel =>
                  refine ⟨k + 1, by omega, by go_num, ?_, (HK8.out.drewN n1).setAt _ _⟩
                  rw [Htk.out]
                  exact (IArr.set_ (w := W8.drewN n1) HI8.out d _).congr fun j => kF2_step _ _ _ _ _ ⟨op, om, d, ow⟩ Hx.out d rfl j
                case measure => simp [intOf]; omega
              · have hx2 : (op == (q : Int)) = false := by simp [hx]
                have Hx := Lib.hid hx
                clear hx
                go_wp2
                go_roundw
                case rel =>
                  refine ⟨k + 1, by omega, by go_num, ?_, HK8.out⟩
                  rw [Htk.out]
                  exact HI8.out.congr fun j => kF2_same _ _ _ _ _ ⟨op, om, d, ow⟩ Hx.out j
                case measure => simp [intOf]; omega
            · have hkn : k = t.length := by omega
              subst hkn
              rw [List.take_of_length_le (by omega)] at hI
              have HI := Lib.hid hI
              have HKM2 := Lib.hid (HKM.out.trans hkm)
              have hbd := Lib.hid (fun d => kF2_bd (part := q) (l := l) hb3 hb1 hcl (by omega) (fun o ho => hmany.out o ho) d)
              clear hI hkm
              obtain ⟨wu, rfl⟩ : ∃ wu : World, wu = wr := ⟨_, rfl⟩
              generalize kF2 pp.stock pp.batch q cs l = F at *
              go_wp2
              go_loopw [100] (fun i wr => ∃ k : Nat, k ≤ s.hours.length - 1 ∧ i = .int .i64 k ∧ IArr wr wy.heap.size s.hours.length (kF3 F k) ∧ KeepM wy.heap.size wu wr) (fun i _ => s.hours.length - 1 - (intOf i).toNat)
              case atStart => exact ⟨0, Nat.zero_le _, rfl, by rw [kF3_zero]; exact HI.out, .refl _ _⟩
              case round =>
                obtain ⟨k, hk, rfl, hI, hkm⟩ := hrel
                by_cases hlt : k < s.hours.length - 1
                · have k0 := hI.cell (i := k) (by omega)
                  have k1 := hI.cell (i := k + 1) (by omega)
                  have kf1 := hI.frozen (k + 1)
                  have g0 := kF3_bd hbd.out k (d := k) (by omega)
                  have g1 := kF3_bd hbd.out k (d := k + 1) (by omega)
                  have HI2 := Lib.hid hI
                  have HKM3 := Lib.hid hkm
                  clear hI hkm
                  go_upto_region 25 with (fail)
                  refine region_quiet_tail (C := fun w' => ∃ n, w' = wr.drewN n) 11 (by kernel_rfl) (by kernel_rfl) ⟨1, rfl⟩ ?_
                  simp only [List.take_succ_cons, List.take_zero, List.drop_succ_cons, List.drop_zero]
                  repeat (first | go_big_quiet_step (fail) | quiet_step (fail))
                  refine wpQuiet_nil ?_
                  rintro _ ⟨n1, rfl⟩
                  go_wp2
                  go_roundw
                  case rel =>
                    refine ⟨k + 1, by omega, by go_num, ?_, (HKM3.out.drewN n1).setAt _ _⟩
                    exact (IArr.set_ (w := wr.drewN n1) HI2.out (k + 1) _).congr fun j => kF3_step _ _ _
                  case measure => simp [intOf]; omega
                · have hkn : k = s.hours.length - 1 := by omega
                  have HI2 := Lib.hid hI
                  have HKM3 := Lib.hid hkm
                  clear hI hkm
                  go_wp2
                  go_ret2
                  have hkk := HKM2.out.trans HKM3.out
                  have hI9 := (HI2.out.congr (G := kF3 F k) fun _ => rfl).rd (by omega)
                  have hfin : (List.range s.hours.length).map (kF3 F k) = (List.range s.hours.length).map fun d => psum F d := by
                    refine List.map_congr_left fun d hd => ?_
                    rw [List.mem_range] at hd
                    unfold kF3
                    rw [if_pos (by omega)]
                  rw [hfin] at hI9
                  have hlen : ((List.range s.hours.length).map fun d => psum F d).length = s.hours.length := by simp
                  refine keptR_eq Ek.out (A := some ⟨wy.heap.size, 0, none⟩) (c := s.hours.length) ?_ ?_ ?_
                  · rw [hlen]; rfl
                  · rw [hlen]; exact hI9.mono (lt_of_block HI2.out)
                  · have b1 := Hbw.out.trans (Hb6.out.mono hsz1)
                    have b2 := b1.trans (HK3.out.below b1.size HE.out.hm)
                    exact Hb.out.trans ((b2.trans (hkk.below b2.size hsz1)).mono Hb.out.size)
  · have hq := Lib.hid (enter_bad hG.out he)
    have e := Lib.hid (show keptF s t part = ([], takenErr s t) by unfold keptF; rw [if_pos he])
    have hne : (takenErr s t != 0) = true := by simpa using he
    clear he
    go_wp2_with (go_at_call 52; refine hq.out.mono ?_; rintro e wx ⟨rfl, hbx⟩)
    go_ret2
    exact keptR_eq e.out rfl (Rd.nil _ _) (Hb.out.trans (hbx.mono Hb.out.size))
end Go.Proofs.Ytkmaapkbonkjfaa
