/- Plain laws of the layer order: bounds, one step of each sum. -/
import Derived.Test.YtkmaapkbonkjfaaPure
namespace Go.Proofs.Ytkmaapkbonkjfaa

structure PartOK (p : PartR) : Prop where
  batch : 1 ≤ p.batch ∧ p.batch ≤ 10
  long : 1 ≤ p.long ∧ p.long ≤ 48
  stock : 0 ≤ p.stock ∧ p.stock ≤ 50
structure OrdOK (np nh : Nat) (o : OrdR) : Prop where
  part : 0 ≤ o.part ∧ o.part < np
  many : 1 ≤ o.many ∧ o.many ≤ 50
  due : 0 ≤ o.due ∧ o.due < nh
  worth : 0 ≤ o.worth ∧ o.worth ≤ 10000
/-- a shop without an error -/
structure Good (s : ShopR) : Prop where
  hlen : 1 ≤ s.hours.length ∧ s.hours.length ≤ 20
  hours : ∀ h ∈ s.hours, 0 ≤ h ∧ h ≤ 24
  plen : 1 ≤ s.parts.length ∧ s.parts.length ≤ 3
  parts : ∀ p ∈ s.parts, PartOK p
  olen : s.orders.length ≤ 8
  orders : ∀ o ∈ s.orders, OrdOK s.parts.length s.hours.length o
/-- orders that fit a shop -/
structure Fit (s : ShopR) (l : List OrdR) : Prop where
  len : l.length ≤ 9
  all : ∀ o ∈ l, OrdOK s.parts.length s.hours.length o

theorem getD_at {α : Type} {l : List α} {i : Nat} (h : i < l.length) (d : α) : l.getD i d = l[i] := by
  simp [List.getD, List.getElem?_eq_getElem h]
theorem inB_iff {n lo hi : Int} : inB n lo hi = true ↔ lo ≤ n ∧ n ≤ hi := by simp [inB]
theorem inB_false {n lo hi : Int} : inB n lo hi = false ↔ ¬ (lo ≤ n ∧ n ≤ hi) := by rw [← inB_iff]; simp

theorem getD_mem {α : Type} [Inhabited α] {l : List α} {i : Nat} (h : i < l.length) (d : α) : l.getD i d ∈ l := by
  simp [List.getD, List.getElem?_eq_getElem h]

theorem good_of_valid {s : ShopR} (h : Valid s) : Good s := by
  unfold Valid errOf check at h
  split at h
  · simp at h
  · rename_i h0
    simp only [Bool.or_eq_true, Bool.not_eq_true', inB_false, decide_eq_true_eq, not_or, Decidable.not_not] at h0
    obtain ⟨⟨hh, hp⟩, ho⟩ := h0
    split at h
    · simp at h
    · rename_i hd
      split at h
      · rename_i i hi
        have := (fst?_spec hi).2.1
        simp only at h
        rw [h] at this
        simp at this
      · rename_i hpn
        split at h
        · rename_i i hi
          have := (fst?_spec hi).2.1
          simp only at h
          rw [h] at this
          simp at this
        · rename_i hon
          refine ⟨by omega, ?_, by omega, ?_, by omega, ?_⟩
          · intro x hx
            obtain ⟨i, hi, rfl⟩ := List.getElem_of_mem hx
            have := fst?_none_spec hd i hi
            simp only [Bool.not_eq_false', inB_iff, getD_at hi] at this
            exact this
          · intro x hx
            obtain ⟨i, hi, rfl⟩ := List.getElem_of_mem hx
            have := fst?_none_spec hpn i hi
            simp only [bne_eq_false_iff_eq, partErr, getD_at hi] at this
            split at this
            · simp at this
            · split at this
              · simp at this
              · split at this
                · rename_i h3
                  simp only [Bool.and_eq_true, inB_iff] at h3
                  exact ⟨h3.1.1, h3.1.2, h3.2⟩
                · simp at this
          · intro x hx
            obtain ⟨i, hi, rfl⟩ := List.getElem_of_mem hx
            have := fst?_none_spec hon i hi
            simp only [bne_eq_false_iff_eq, ordErr, getD_at hi] at this
            split at this
            · simp at this
            · rename_i h2
              split at this
              · rename_i h3
                simp only [Bool.and_eq_true, inB_iff, Bool.not_eq_false] at h2 h3
                exact ⟨by omega, h3.1.1, by omega, h3.2⟩
              · simp at this

theorem Good.part {s : ShopR} (h : Good s) {i : Nat} (hi : i < s.parts.length) : PartOK (s.parts.getD i default) := h.parts _ (getD_mem hi _)
theorem Good.ord {s : ShopR} (h : Good s) {i : Nat} (hi : i < s.orders.length) : OrdOK s.parts.length s.hours.length (s.orders.getD i default) := h.orders _ (getD_mem hi _)
theorem Good.hour {s : ShopR} (h : Good s) {i : Nat} (hi : i < s.hours.length) : 0 ≤ s.hours.getD i 0 ∧ s.hours.getD i 0 ≤ 24 := h.hours _ (getD_mem hi _)

theorem take_succ_getD {α : Type} {l : List α} {k : Nat} (h : k < l.length) (d : α) : l.take (k + 1) = l.take k ++ [l.getD k d] := by
  rw [List.take_succ_eq_append_getElem h, getD_at h]

/-! ### due -/
theorem due_nil (part day : Int) : due [] part day = 0 := rfl
theorem due_append (l m : List OrdR) (part day : Int) : due (l ++ m) part day = due l part day + due m part day := by
  simp [due, List.filter_append, List.sum_append]
theorem due_one (o : OrdR) (part day : Int) : due [o] part day = if o.part = part ∧ o.due ≤ day then o.many else 0 := by
  unfold due
  by_cases h : o.part = part <;> by_cases h2 : o.due ≤ day <;> simp [List.filter_cons, h, h2]
theorem due_cons (o : OrdR) (l : List OrdR) (part day : Int) : due (o :: l) part day = (if o.part = part ∧ o.due ≤ day then o.many else 0) + due l part day := by
  rw [← due_one o part day, ← due_append]; rfl
theorem due_snoc {l : List OrdR} {k : Nat} (h : k < l.length) (part day : Int) (d : OrdR) :
    due (l.take (k + 1)) part day = due (l.take k) part day + if (l.getD k d).part = part ∧ (l.getD k d).due ≤ day then (l.getD k d).many else 0 := by
  rw [take_succ_getD h d, due_append, due_one]
theorem due_bd {l : List OrdR} (h : ∀ o ∈ l, 1 ≤ o.many ∧ o.many ≤ 50) (part day : Int) : 0 ≤ due l part day ∧ due l part day ≤ 50 * l.length := by
  induction l with
  | nil => simp [due]
  | cons o l ih =>
    have h1 := h o (by simp)
    have h2 := ih fun x hx => h x (by simp [hx])
    rw [due_cons]
    simp only [List.length_cons]
    split <;> omega
theorem Fit.many {s : ShopR} {l : List OrdR} (h : Fit s l) : ∀ o ∈ l, 1 ≤ o.many ∧ o.many ≤ 50 := fun o ho => (h.all o ho).many
theorem Fit.due_bd {s : ShopR} {l : List OrdR} (h : Fit s l) (part day : Int) : 0 ≤ due l part day ∧ due l part day ≤ 450 := by
  have := @Go.Proofs.Ytkmaapkbonkjfaa.due_bd l h.many part day
  have := h.len
  omega
theorem due_mono {l : List OrdR} (h : ∀ o ∈ l, 1 ≤ o.many ∧ o.many ≤ 50) (part : Int) {d e : Int} (hde : d ≤ e) : due l part d ≤ due l part e := by
  induction l with
  | nil => simp [due]
  | cons o l ih =>
    have h1 := h o (by simp)
    have h2 := ih fun x hx => h x (by simp [hx])
    rw [due_cons, due_cons]
    by_cases h3 : o.part = part
    · by_cases h4 : o.due ≤ d
      · rw [if_pos ⟨h3, h4⟩, if_pos ⟨h3, by omega⟩]; omega
      · rw [if_neg (by simp [h4])]
        split <;> omega
    · rw [if_neg (by simp [h3]), if_neg (by simp [h3])]; omega

/-! ### need -/
theorem need_le_iff {p : PartR} (hp : PartOK p) {n : Int} (k : Int) (hk : 0 ≤ k) : need p n ≤ k ↔ n ≤ p.stock + k * p.batch := by
  unfold need
  have hb := hp.batch
  constructor
  · intro h
    have h1 := Int.lt_ediv_add_one_mul_self (max 0 (n - p.stock + p.batch - 1)) (show 0 < p.batch by omega)
    have h2 : (max 0 (n - p.stock + p.batch - 1) / p.batch + 1) * p.batch ≤ (k + 1) * p.batch := Int.mul_le_mul_of_nonneg_right (by omega) (by omega)
    rw [Int.add_mul k 1] at h2
    omega
  · intro h
    have h3 : max 0 (n - p.stock + p.batch - 1) / p.batch < k + 1 := by
      apply Int.ediv_lt_of_lt_mul (by omega)
      have : 0 ≤ k * p.batch := Int.mul_nonneg hk (by omega)
      rw [Int.add_mul]
      omega
    omega
theorem need_nonneg {p : PartR} (hp : PartOK p) (n : Int) : 0 ≤ need p n := Int.ediv_nonneg (by omega) (by have := hp.batch; omega)
theorem need_le {p : PartR} (hp : PartOK p) {n : Int} (hn : n ≤ 450) : need p n ≤ 450 := by
  rw [need_le_iff hp 450 (by omega)]
  have := hp.batch; have := hp.stock
  have : 450 * 1 ≤ 450 * p.batch := Int.mul_le_mul_of_nonneg_left (by omega) (by omega)
  omega
/-- the loop that counts up ends just there -/
theorem need_eq {p : PartR} (hp : PartOK p) {n k : Int} (hk : 0 ≤ k) (hlt : ∀ j, 0 ≤ j → j < k → p.stock + j * p.batch < n) (hge : n ≤ p.stock + k * p.batch) : need p n = k := by
  have h1 := (need_le_iff hp k hk).2 hge
  have h0 := need_nonneg hp n
  by_cases h : need p n < k
  · have := hlt _ h0 h
    have := (need_le_iff hp (n := n) _ h0).1 (Int.le_refl _)
    omega
  · omega
theorem need_mono {p : PartR} (hp : PartOK p) {n m : Int} (h : n ≤ m) : need p n ≤ need p m := by
  unfold need
  exact Int.ediv_le_ediv (by have := hp.batch; omega) (by omega)

theorem byy_bd {s : ShopR} {l : List OrdR} (hg : Good s) (hf : Fit s l) {i : Nat} (hi : i < s.parts.length) (day : Int) : 0 ≤ byy s l i day ∧ byy s l i day ≤ 450 :=
  ⟨need_nonneg (hg.part hi) _, need_le (hg.part hi) (hf.due_bd _ _).2⟩
theorem byy_mono {s : ShopR} {l : List OrdR} (hg : Good s) (hf : Fit s l) {i : Nat} (hi : i < s.parts.length) {d e : Int} (h : d ≤ e) : byy s l i d ≤ byy s l i e :=
  need_mono (hg.part hi) (due_mono hf.many _ h)

/-! ### takes, worked -/
def takesTo (s : ShopR) (l : List OrdR) (day : Int) (k : Nat) : Int := ((List.range k).map fun i => byy s l i day * (s.parts.getD i default).long).sum
theorem takesTo_succ (s : ShopR) (l : List OrdR) (day : Int) (k : Nat) : takesTo s l day (k + 1) = takesTo s l day k + byy s l k day * (s.parts.getD k default).long := by
  simp [takesTo, List.range_succ, List.sum_append]
theorem takesTo_bd {s : ShopR} {l : List OrdR} (hg : Good s) (hf : Fit s l) (day : Int) {k : Nat} (hk : k ≤ s.parts.length) : 0 ≤ takesTo s l day k ∧ takesTo s l day k ≤ 21600 * k := by
  induction k with
  | zero => simp [takesTo]
  | succ k ih =>
    have h1 := ih (by omega)
    have h2 := byy_bd hg hf (i := k) (by omega) day
    have h3 := (hg.part (i := k) (by omega)).long
    have h4 : byy s l k day * (s.parts.getD k default).long ≤ 450 * 48 := Int.mul_le_mul h2.2 h3.2 (by omega) (by omega)
    have h5 : 0 ≤ byy s l k day * (s.parts.getD k default).long := Int.mul_nonneg h2.1 (by omega)
    rw [takesTo_succ]
    omega
theorem takes_bd {s : ShopR} {l : List OrdR} (hg : Good s) (hf : Fit s l) (day : Int) : 0 ≤ takes s l day ∧ takes s l day ≤ 64800 := by
  have := takesTo_bd hg hf day (Nat.le_refl _)
  have h2 : takesTo s l day s.parts.length = takes s l day := rfl
  have := hg.plen
  omega
theorem sum_take_succ {l : List Int} {k : Nat} (h : k < l.length) : (l.take (k + 1)).sum = (l.take k).sum + l.getD k 0 := by
  rw [take_succ_getD h 0, List.sum_append]; simp
theorem sum_take_bd {s : ShopR} (hg : Good s) (k : Nat) (hk : k ≤ s.hours.length) : 0 ≤ (s.hours.take k).sum ∧ (s.hours.take k).sum ≤ 24 * k := by
  induction k with
  | zero => simp
  | succ k ih =>
    have h1 := ih (by omega)
    have h2 := hg.hour (i := k) (by omega)
    rw [sum_take_succ (by omega)]
    omega
theorem worked_bd {s : ShopR} (hg : Good s) {d : Nat} (hd : d < s.hours.length) : 0 ≤ worked s d ∧ worked s d ≤ 480 := by
  have := sum_take_bd hg (d + 1) (by omega)
  have := hg.hlen
  unfold worked
  omega
end Go.Proofs.Ytkmaapkbonkjfaa
