/- Plain laws: when a shop is valid; a shop with a further order; an order that is parted. -/
import Derived.Test.YtkmaapkbonkjfaaCanL
set_option linter.unusedSimpArgs false
set_option linter.unusedVariables false
namespace Go.Proofs.Ytkmaapkbonkjfaa

theorem getD_left {α : Type} {l m : List α} {i : Nat} (h : i < l.length) {d : α} : (l ++ m).getD i d = l.getD i d := by
  rw [List.getD_eq_getElem?_getD, List.getD_eq_getElem?_getD, List.getElem?_append_left h]
theorem any_false {α : Type} {l : List α} {p : α → Bool} : l.any p = false ↔ ∀ x ∈ l, p x = false := by
  rw [List.any_eq_false]
  simp
theorem partErr_zero {before : List PartR} {p : PartR} : partErr before p = 0 ↔ nameB p.name = true ∧ (∀ x ∈ before, x.name.toList ≠ p.name.toList) ∧ PartOK p := by
  unfold partErr
  constructor
  · intro h
    split at h
    · simp at h
    · rename_i h1
      split at h
      · simp at h
      · rename_i h2
        split at h
        · rename_i h3
          simp only [Bool.and_eq_true, inB_iff] at h3
          refine ⟨by simpa using h1, fun x hx he => ?_, h3.1.1, h3.1.2, h3.2⟩
          have h4 := any_false.1 (Bool.eq_false_iff.2 h2) x hx
          simp [he] at h4
        · simp at h
  · rintro ⟨h1, h2, h3⟩
    rw [if_neg (by simp [h1])]
    have : before.any (fun x => x.name.toList == p.name.toList) = false := any_false.2 fun x hx => beq_false_of_ne (h2 x hx)
    rw [this, if_neg (by simp), if_pos]
    simp only [Bool.and_eq_true, inB_iff]
    exact ⟨⟨h3.batch, h3.long⟩, h3.stock⟩
theorem ordErr_zero {np nh : Nat} {o : OrdR} : ordErr np nh o = 0 ↔ OrdOK np nh o := by
  unfold ordErr
  constructor
  · intro h
    split at h
    · simp at h
    · rename_i h2
      split at h
      · rename_i h3
        simp only [Bool.and_eq_true, inB_iff, Bool.not_eq_false] at h2 h3
        exact ⟨by omega, h3.1.1, by omega, h3.2⟩
      · simp at h
  · intro h
    have h1 := h.part; have h2 := h.many; have h3 := h.due; have h4 := h.worth
    rw [if_neg (by simp only [Bool.not_eq_false, inB_iff]; omega), if_pos (by simp only [Bool.and_eq_true, inB_iff]; omega)]
/-- the names of the parts are names, and no two are alike -/
structure Named (ps : List PartR) : Prop where
  name : ∀ p ∈ ps, nameB p.name = true
  apart : ps.Pairwise fun a b => a.name.toList ≠ b.name.toList
theorem valid_iff {s : ShopR} : errOf s = 0 ↔ Good s ∧ Named s.parts := by
  constructor
  · intro h
    have hg := good_of_valid h
    refine ⟨hg, ?_⟩
    have key : ∀ i, i < s.parts.length → partErr (s.parts.take i) (s.parts.getD i default) = 0 := by
      unfold errOf check at h
      split at h
      · simp at h
      · split at h
        · simp at h
        · split at h
          · rename_i i hi
            have := (fst?_spec hi).2.1
            simp only at h
            rw [h] at this
            simp at this
          · rename_i hpn
            intro i hi
            have := fst?_none_spec hpn i hi
            simpa using this
    constructor
    · intro p hp
      obtain ⟨i, hi, rfl⟩ := List.getElem_of_mem hp
      have := (partErr_zero.1 (key i hi)).1
      rwa [getD_at hi] at this
    · rw [List.pairwise_iff_getElem]
      intro i j hi hj hij
      have := (partErr_zero.1 (key j hj)).2.1 s.parts[i] (List.mem_take_iff_getElem.2 ⟨i, by omega, rfl⟩)
      rwa [getD_at hj] at this
  · rintro ⟨hg, hn⟩
    have hl := hg.hlen; have hp := hg.plen; have ho := hg.olen
    have e1 : inB (s.hours.length : Int) 1 20 = true := by rw [inB_iff]; omega
    have e2 : inB (s.parts.length : Int) 1 3 = true := by rw [inB_iff]; omega
    have e3 : decide (8 < (s.orders.length : Int)) = false := decide_eq_false (by omega)
    have f1 : (fst? s.hours.length fun d => !(inB (s.hours.getD d 0) 0 24)) = none := fst?_none fun j hj => by
      have := hg.hour hj
      simp only [Bool.not_eq_false', inB_iff]
      exact this
    have f2 : (fst? s.parts.length fun i => partErr (s.parts.take i) (s.parts.getD i default) != 0) = none := fst?_none fun j hj => by
      have : partErr (s.parts.take j) (s.parts.getD j default) = 0 := partErr_zero.2 ⟨hn.name _ (getD_mem hj _), fun x hx => by
        obtain ⟨i, hi, rfl⟩ := List.mem_take_iff_getElem.1 hx
        rw [getD_at hj]
        exact List.pairwise_iff_getElem.1 hn.apart i j (by omega) hj (by omega), hg.part hj⟩
      rw [this]; rfl
    have f3 : (fst? s.orders.length fun i => ordErr s.parts.length s.hours.length (s.orders.getD i default) != 0) = none := fst?_none fun j hj => by
      have : ordErr s.parts.length s.hours.length (s.orders.getD j default) = 0 := ordErr_zero.2 (hg.ord hj)
      rw [this]; rfl
    unfold errOf check
    rw [e1, e2, e3, f1, f2, f3]
    rfl

/-! ### a further order -/
def moreS (s : ShopR) (o : OrdR) : ShopR := { s with orders := s.orders ++ [o] }
theorem more_valid {s : ShopR} {o : OrdR} (h : errOf s = 0) (hl : s.orders.length < 8) (ho : OrdOK s.parts.length s.hours.length o) : errOf (moreS s o) = 0 := by
  obtain ⟨hg, hn⟩ := valid_iff.1 h
  refine valid_iff.2 ⟨⟨hg.hlen, hg.hours, hg.plen, hg.parts, by show (s.orders ++ [o]).length ≤ 8; simp; omega, fun x hx => ?_⟩, hn⟩
  have hx' : x ∈ s.orders ++ [o] := hx
  rcases List.mem_append.1 hx' with hx | hx
  · exact hg.orders x hx
  · rw [List.mem_singleton.1 hx]; exact ho
theorem first_more (s : ShopR) (o : OrdR) (l : List OrdR) : first? (moreS s o) l = first? s l := rfl
theorem over_more (s : ShopR) (o : OrdR) (l : List OrdR) (d : Nat) : over (moreS s o) l d = over s l d := rfl
theorem canB_more (s : ShopR) (o : OrdR) (l : List OrdR) : canB (moreS s o) l = canB s l := rfl
theorem needed_more (s : ShopR) (o : OrdR) (l : List OrdR) : neededL (moreS s o) l = neededL s l := rfl
theorem ofL_more {s : ShopR} {o : OrdR} {t : List Int} (ht : ∀ i ∈ t, 0 ≤ i ∧ i < s.orders.length) : ofL (moreS s o) (t ++ [(s.orders.length : Int)]) = ofL s t ++ [o] := by
  unfold ofL
  rw [List.map_append]
  congr 1
  · refine List.map_congr_left fun i hi => ?_
    have := ht i hi
    show (s.orders ++ [o]).getD i.toNat default = _
    rw [getD_left (by omega)]
  · show [(s.orders ++ [o]).getD (s.orders.length : Int).toNat default] = [o]
    simp
/-- what a late order more makes is late too -/
theorem due_later (l : List OrdR) (part many : Int) (hm : 0 ≤ many) {d e : Int} (hde : d ≤ e) (i day : Int) : due (l ++ [⟨part, many, e, 0⟩]) i day ≤ due (l ++ [⟨part, many, d, 0⟩]) i day := by
  rw [due_append, due_append, due_one, due_one]
  simp only
  by_cases h1 : part = i
  · by_cases h2 : e ≤ day
    · rw [if_pos ⟨h1, h2⟩, if_pos ⟨h1, by omega⟩]; omega
    · rw [if_neg (by omega)]
      split <;> omega
  · rw [if_neg (by simp [h1]), if_neg (by simp [h1])]; omega
theorem promise_law {s : ShopR} (hg : Good s) {l : List OrdR} {part many : Int} (hm : 0 ≤ many) (day : Nat) (hd : day < s.hours.length) :
    match promiseL s l part many with
    | some d => d < s.hours.length ∧ canB s (l ++ [⟨part, many, day, 0⟩]) = decide (d ≤ day)
    | none => canB s (l ++ [⟨part, many, day, 0⟩]) = false := by
  unfold promiseL
  split
  · rename_i d h
    obtain ⟨h1, h2, h3⟩ := fst?_spec h
    refine ⟨h1, ?_⟩
    by_cases hdd : d ≤ day
    · rw [decide_eq_true hdd]
      exact canB_mono hg (fun i e _ _ => due_later l part many hm (by omega) i e) h2
    · rw [decide_eq_false hdd]
      exact h3 day (by omega)
  · rename_i h
    exact fst?_none_spec h day hd

/-! ### an order that is parted -/
def partedS (s : ShopR) (k : Nat) (one : Int) : ShopR := { s with orders := s.orders.set k { s.orders.getD k default with many := one } ++ [{ s.orders.getD k default with many := (s.orders.getD k default).many - one }] }
theorem parted_valid {s : ShopR} {k : Nat} {one : Int} (h : errOf s = 0) (hl : s.orders.length < 8) (hk : k < s.orders.length) (h1 : 1 ≤ one) (h2 : one < (s.orders.getD k default).many) : errOf (partedS s k one) = 0 := by
  obtain ⟨hg, hn⟩ := valid_iff.1 h
  have ho := hg.ord hk
  have hm := ho.many
  refine valid_iff.2 ⟨⟨hg.hlen, hg.hours, hg.plen, hg.parts, ?_, fun x hx => ?_⟩, hn⟩
  · show (s.orders.set k _ ++ [_]).length ≤ 8
    simp; omega
  · have hx' : x ∈ s.orders.set k { s.orders.getD k default with many := one } ++ [{ s.orders.getD k default with many := (s.orders.getD k default).many - one }] := hx
    rcases List.mem_append.1 hx' with hx | hx
    · rcases List.mem_or_eq_of_mem_set hx with hx | rfl
      · exact hg.orders x hx
      · exact ⟨ho.part, by show 1 ≤ one ∧ one ≤ 50; omega, ho.due, ho.worth⟩
    · rw [List.mem_singleton.1 hx]
      exact ⟨ho.part, by show 1 ≤ _ - one ∧ _ - one ≤ 50; omega, ho.due, ho.worth⟩
theorem due_map_one {f g : Nat → OrdR} {k : Nat} (h : ∀ i, i ≠ k → f i = g i) (part day : Int) : ∀ {x : List Nat}, x.Nodup → k ∈ x → due (x.map f) part day + due [g k] part day = due (x.map g) part day + due [f k] part day := by
  intro x
  induction x with
  | nil => intro _ hk; cases hk
  | cons i x ih =>
    intro hnd hk
    rw [List.nodup_cons] at hnd
    rw [List.map_cons, List.map_cons, due_cons (f i), due_cons (g i)]
    by_cases hik : i = k
    · subst hik
      have : x.map f = x.map g := List.map_congr_left fun j hj => h j fun e => hnd.1 (e ▸ hj)
      rw [this, due_one, due_one]
      omega
    · have hkx : k ∈ x := by
        rcases List.mem_cons.1 hk with h | h
        · exact absurd h.symm hik
        · exact h
      have := ih hnd.2 hkx
      rw [h i hik]
      omega
theorem due_parted {s : ShopR} {k : Nat} {one : Int} {x : List Nat} (hx : Rise s.orders.length x) (hk : k ∈ x) (part day : Int) :
    due (ordsOf (partedS s k one) (x ++ [s.orders.length])) part day = due (ordsOf s x) part day := by
  have hkl := hx.2 k hk
  have hnd : x.Nodup := hx.1.imp (fun h => Nat.ne_of_lt h)
  have e1 : ordsOf (partedS s k one) x = x.map fun i => if i = k then { s.orders.getD k default with many := one } else s.orders.getD i default := by
    unfold ordsOf
    refine List.map_congr_left fun i hi => ?_
    have hil := hx.2 i hi
    show (s.orders.set k _ ++ [_]).getD i default = _
    rw [getD_left (by simpa using hil)]
    by_cases h : i = k
    · subst h; simp [hkl]
    · rw [if_neg h, List.getD_eq_getElem?_getD, List.getElem?_set_ne (Ne.symm h), List.getD_eq_getElem?_getD]
  have e2 : ordsOf (partedS s k one) [s.orders.length] = [{ s.orders.getD k default with many := (s.orders.getD k default).many - one }] := by
    show [(s.orders.set k _ ++ [_]).getD s.orders.length default] = _
    simp
  rw [ordsOf_append, due_append, e1, e2]
  have := due_map_one (f := fun i => if i = k then { s.orders.getD k default with many := one } else s.orders.getD i default) (g := fun i => s.orders.getD i default) (k := k) (fun i hi => by simp only [if_neg hi]) part day hnd hk
  have e3 : x.map (fun i => s.orders.getD i default) = ordsOf s x := rfl
  rw [e3] at this
  simp only [if_true, due_one] at this ⊢
  by_cases hc : (s.orders.getD k default).part = part ∧ (s.orders.getD k default).due ≤ day
  · rw [if_pos hc, if_pos hc] at this
    rw [if_pos hc]
    omega
  · rw [if_neg hc, if_neg hc] at this
    rw [if_neg hc]
    omega
end Go.Proofs.Ytkmaapkbonkjfaa
