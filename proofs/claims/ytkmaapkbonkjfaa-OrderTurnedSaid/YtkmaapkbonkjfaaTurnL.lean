/- Plain laws of the layer order: orders and parts in another order. -/
import Derived.Test.YtkmaapkbonkjfaaFewL
import Derived.Test.YtkmaapkbonkjfaaLawT
set_option linter.unusedSimpArgs false
set_option linter.unusedVariables false
namespace Go.Proofs.Ytkmaapkbonkjfaa

theorem named_rev {ps : List PartR} (h : Named ps) : Named ps.reverse :=
  ⟨fun p hp => h.name p (by simpa using hp), List.pairwise_reverse.2 (h.apart.imp fun hne e => hne e.symm)⟩
theorem best_le {s s' : ShopR} (hg : Good s) (hg' : Good s') (h : ∀ x, CanSet s x → ∃ y, CanSet s' y ∧ worthOf s' y = worthOf s x) : (bestL s).2 ≤ (bestL s').2 := by
  have hb := bestL_best hg
  obtain ⟨y, hy, hw⟩ := h _ hb.mem
  have := hb.worth
  rcases (bestL_best hg').most y hy with h | ⟨h, _⟩ <;> omega

/-! ### the orders turned -/
def backS (s : ShopR) : ShopR := { s with orders := s.orders.reverse }
theorem back_back (s : ShopR) : backS (backS s) = s := by unfold backS; simp
theorem back_valid {s : ShopR} (he : errOf s = 0) : errOf (backS s) = 0 := by
  obtain ⟨hg, hn⟩ := valid_iff.1 he
  exact valid_iff.2 ⟨⟨hg.hlen, hg.hours, hg.plen, hg.parts, by show s.orders.reverse.length ≤ 8; rw [List.length_reverse]; exact hg.olen, fun o ho => hg.orders o (by have : o ∈ s.orders.reverse := ho; simpa using this)⟩, hn⟩
/-- the same orders in the shop whose orders are turned -/
def turnX (n : Nat) (x : List Nat) : List Nat := (x.map fun i => n - 1 - i).reverse
theorem turn_rise {n : Nat} {x : List Nat} (h : Rise n x) : Rise n (turnX n x) := by
  unfold turnX
  refine ⟨List.pairwise_reverse.2 (List.pairwise_map.2 ?_), fun i hi => ?_⟩
  · have h2 := h.2
    have h1 := h.1
    clear h
    induction x with
    | nil => exact List.Pairwise.nil
    | cons a x ih =>
      rw [List.pairwise_cons] at h1 ⊢
      exact ⟨fun b hb => by have := h1.1 b hb; have := h2 b (by simp [hb]); omega, ih (fun i hi => h2 i (by simp [hi])) h1.2⟩
  · rw [List.mem_reverse] at hi
    obtain ⟨j, hj, rfl⟩ := List.mem_map.1 hi
    have := h.2 j hj
    omega
theorem turn_ords {s : ShopR} {x : List Nat} (h : Rise s.orders.length x) : ordsOf (backS s) (turnX s.orders.length x) = (ordsOf s x).reverse := by
  unfold ordsOf turnX
  rw [List.map_reverse, List.map_map]
  congr 1
  refine List.map_congr_left fun i hi => ?_
  have := h.2 i hi
  show (s.orders.reverse).getD (s.orders.length - 1 - i) default = s.orders.getD i default
  rw [getD_at (by rw [List.length_reverse]; omega), getD_at this, List.getElem_reverse]
  congr 1
  omega
theorem turn_can {s : ShopR} {x : List Nat} (h : CanSet s x) : CanSet (backS s) (turnX s.orders.length x) := by
  refine ⟨by show Rise s.orders.reverse.length _; rw [List.length_reverse]; exact turn_rise h.1, ?_⟩
  rw [turn_ords h.1]
  show canB s _ = true
  rw [canB_perm (List.reverse_perm _)]
  exact h.2
theorem turn_worth {s : ShopR} {x : List Nat} (h : Rise s.orders.length x) : worthOf (backS s) (turnX s.orders.length x) = worthOf s x := by
  rw [worthOf_eq, worthOf_eq, turn_ords h]
  exact wsum_perm (List.reverse_perm _)
theorem back_best {s : ShopR} (he : errOf s = 0) : (bestL (backS s)).2 = (bestL s).2 := by
  have hg := good_of_valid he
  have hg' := good_of_valid (back_valid he)
  refine Int.le_antisymm (best_le hg' hg fun x hx => ?_) (best_le hg hg' fun x hx => ⟨_, turn_can hx, turn_worth hx.1⟩)
  have h1 := turn_can hx
  have h2 := turn_worth hx.1
  rw [back_back] at h1 h2
  exact ⟨_, h1, h2⟩
theorem back_late {s : ShopR} (he : errOf s = 0) {x : List Nat} (h : Rise s.orders.length x) : lateF (backS s) ((turnX s.orders.length x).map Int.ofNat) = lateF s (x.map Int.ofNat) := by
  have hr : Rise (backS s).orders.length (turnX s.orders.length x) := by show Rise s.orders.reverse.length _; rw [List.length_reverse]; exact turn_rise h
  refine (late_eq (s := s) (s' := backS s) rfl rfl (taken_rise he h) (taken_rise (back_valid he) hr) fun i d => ?_).1
  rw [ofL_ords, ofL_ords, turn_ords h]
  exact due_perm (List.reverse_perm _) _ _

/-! ### the parts turned -/
def flipO (n : Nat) (o : OrdR) : OrdR := { o with part := (n : Int) - 1 - o.part }
def otherS (s : ShopR) : ShopR := { hours := s.hours, parts := s.parts.reverse, orders := s.orders.map (flipO s.parts.length) }
theorem other_valid {s : ShopR} (he : errOf s = 0) : errOf (otherS s) = 0 := by
  obtain ⟨hg, hn⟩ := valid_iff.1 he
  have ep : (otherS s).parts.length = s.parts.length := by show s.parts.reverse.length = _; simp
  refine valid_iff.2 ⟨⟨hg.hlen, hg.hours, by rw [ep]; exact hg.plen, fun p hp => hg.parts p (by have : p ∈ s.parts.reverse := hp; simpa using this), by show (s.orders.map _).length ≤ 8; rw [List.length_map]; exact hg.olen, fun o ho => ?_⟩, named_rev hn⟩
  obtain ⟨q, hq, rfl⟩ := List.mem_map.1 ho
  have h := hg.orders q hq
  have := h.part
  rw [ep]
  exact ⟨by show 0 ≤ (s.parts.length : Int) - 1 - q.part ∧ (s.parts.length : Int) - 1 - q.part < _; omega, h.many, h.due, h.worth⟩
theorem sum_flip (n : Nat) (f : Nat → Int) : ((List.range n).map fun i => f (n - 1 - i)).sum = ((List.range n).map f).sum := by
  have e : ((List.range n).map fun i => f (n - 1 - i)) = ((List.range n).map f).reverse := by
    refine List.ext_getElem (by simp) fun i h1 h2 => ?_
    simp
  rw [e]
  exact List.sum_reverse _
theorem due_flip (n : Nat) (l : List OrdR) (i : Nat) (hi : i < n) (day : Int) : due (l.map (flipO n)) (n - 1 - i : Nat) day = due l i day := by
  induction l with
  | nil => rfl
  | cons o l ih =>
    rw [List.map_cons, due_cons, due_cons, ih]
    have e : ((flipO n o).part = ((n - 1 - i : Nat) : Int) ∧ (flipO n o).due ≤ day) ↔ (o.part = (i : Int) ∧ o.due ≤ day) := by
      show ((n : Int) - 1 - o.part = _ ∧ o.due ≤ day) ↔ _
      constructor <;> (rintro ⟨h1, h2⟩; exact ⟨by omega, h2⟩)
    by_cases h : o.part = (i : Int) ∧ o.due ≤ day
    · rw [if_pos h, if_pos (e.2 h)]; rfl
    · rw [if_neg h, if_neg (fun h' => h (e.1 h'))]
theorem other_takes (s : ShopR) (l : List OrdR) (day : Int) : takes (otherS s) (l.map (flipO s.parts.length)) day = takes s l day := by
  unfold takes
  have ep : (otherS s).parts.length = s.parts.length := by show s.parts.reverse.length = _; simp
  rw [ep, ← sum_flip]
  congr 1
  refine List.map_congr_left fun i hi => ?_
  have hi := List.mem_range.1 hi
  have e : (otherS s).parts.getD (s.parts.length - 1 - i) default = s.parts.getD i default := by
    show (s.parts.reverse).getD _ default = _
    rw [getD_at (by rw [List.length_reverse]; omega), getD_at hi, List.getElem_reverse]
    congr 1
    omega
  unfold byy
  rw [e, due_flip _ _ _ hi]
theorem other_ords {s : ShopR} {x : List Nat} (h : ∀ i ∈ x, i < s.orders.length) : ordsOf (otherS s) x = (ordsOf s x).map (flipO s.parts.length) := by
  unfold ordsOf
  rw [List.map_map]
  refine List.map_congr_left fun i hi => ?_
  have := h i hi
  show (s.orders.map _).getD i default = _
  rw [getD_at (by rw [List.length_map]; exact this), List.getElem_map]
  show _ = flipO _ (s.orders.getD i default)
  rw [getD_at this]
theorem other_over (s : ShopR) (l : List OrdR) (d : Nat) : over (otherS s) (l.map (flipO s.parts.length)) d = over s l d := by
  unfold over
  rw [other_takes]
  rfl
theorem other_first (s : ShopR) (l : List OrdR) : first? (otherS s) (l.map (flipO s.parts.length)) = first? s l := by
  unfold first?
  show fst? s.hours.length _ = _
  congr 1
  funext d
  rw [other_over]
theorem other_can {s : ShopR} {x : List Nat} (h : Rise s.orders.length x) : canB (otherS s) (ordsOf (otherS s) x) = canB s (ordsOf s x) := by
  rw [other_ords h.2]
  unfold canB
  rw [other_first]
theorem other_worth {s : ShopR} {x : List Nat} (h : Rise s.orders.length x) : worthOf (otherS s) x = worthOf s x := by
  unfold worthOf
  rw [other_ords h.2, List.map_map]
  rfl
theorem other_best {s : ShopR} (he : errOf s = 0) : (bestL (otherS s)).2 = (bestL s).2 := by
  have hg := good_of_valid he
  have hg' := good_of_valid (other_valid he)
  have hl : (otherS s).orders.length = s.orders.length := by show (s.orders.map _).length = _; simp
  refine Int.le_antisymm (best_le hg' hg fun x hx => ?_) (best_le hg hg' fun x hx => ?_)
  · have hr : Rise s.orders.length x := by have := hx.1; rwa [hl] at this
    exact ⟨x, ⟨hr, by rw [← other_can hr]; exact hx.2⟩, (other_worth hr).symm⟩
  · exact ⟨x, ⟨by rw [hl]; exact hx.1, by rw [other_can hx.1]; exact hx.2⟩, other_worth hx.1⟩
theorem other_late {s : ShopR} (he : errOf s = 0) {x : List Nat} (h : Rise s.orders.length x) : lateF (otherS s) (x.map Int.ofNat) = lateF s (x.map Int.ofNat) := by
  have hl : (otherS s).orders.length = s.orders.length := by show (s.orders.map _).length = _; simp
  have h1 := taken_rise he h
  have h2 : takenErr (otherS s) (x.map Int.ofNat) = 0 := taken_rise (other_valid he) (by rw [hl]; exact h)
  unfold lateF
  rw [h1, h2, ofL_ords, ofL_ords, other_ords h.2, other_first]
  simp only [other_over]
end Go.Proofs.Ytkmaapkbonkjfaa
