/- Plain laws of the layer order: what is easier can still be kept. -/
import Derived.Test.YtkmaapkbonkjfaaGWorth
set_option linter.unusedSimpArgs false
set_option linter.unusedVariables false
namespace Go.Proofs.Ytkmaapkbonkjfaa

/-! ### an easier shop -/
def easyP (st b l : Int) (p : PartR) : PartR := { p with stock := min 50 (p.stock + st), batch := min 10 (p.batch + b), long := max 1 (p.long - l) }
def easyS (s : ShopR) (h st b l : Int) : ShopR := { hours := s.hours.map fun x => min 24 (x + h), parts := s.parts.map (easyP st b l), orders := s.orders }
theorem easyP_ok {st b l : Int} (h1 : 0 ≤ st) (h2 : 0 ≤ b) (h3 : 0 ≤ l) {p : PartR} (hp : PartOK p) : PartOK (easyP st b l p) := by
  have := hp.batch; have := hp.long; have := hp.stock
  unfold easyP
  exact ⟨by show 1 ≤ min 10 _ ∧ min 10 _ ≤ 10; omega, by show 1 ≤ max 1 _ ∧ max 1 _ ≤ 48; omega, by show 0 ≤ min 50 _ ∧ min 50 _ ≤ 50; omega⟩
theorem easy_valid {s : ShopR} {h st b l : Int} (h0 : 0 ≤ h) (h1 : 0 ≤ st) (h2 : 0 ≤ b) (h3 : 0 ≤ l) (he : errOf s = 0) : errOf (easyS s h st b l) = 0 := by
  obtain ⟨hg, hn⟩ := valid_iff.1 he
  have eh : (easyS s h st b l).hours.length = s.hours.length := by simp [easyS]
  have ep : (easyS s h st b l).parts.length = s.parts.length := by simp [easyS]
  refine valid_iff.2 ⟨⟨eh ▸ hg.hlen, fun x hx => ?_, ep ▸ hg.plen, fun p hp => ?_, hg.olen, fun o ho => ?_⟩, ⟨fun p hp => ?_, ?_⟩⟩
  · obtain ⟨y, hy, rfl⟩ := List.mem_map.1 hx
    have := hg.hours y hy
    omega
  · obtain ⟨q, hq, rfl⟩ := List.mem_map.1 hp
    exact easyP_ok h1 h2 h3 (hg.parts q hq)
  · rw [eh, ep]; exact hg.orders o ho
  · obtain ⟨q, hq, rfl⟩ := List.mem_map.1 hp
    exact hn.name q hq
  · exact List.pairwise_map.2 hn.apart
theorem sum_le2 (h : Int) : ∀ l : List Int, (∀ x ∈ l, x ≤ 24) → 0 ≤ h → l.sum ≤ (l.map fun x => min 24 (x + h)).sum := by
  intro l
  induction l with
  | nil => intro _ _; exact Int.le_refl _
  | cons a l ih =>
    intro hx h0
    have := ih (fun x hx' => hx x (by simp [hx'])) h0
    have := hx a (by simp)
    simp only [List.map_cons, List.sum_cons]
    omega
theorem canB_easy {s : ShopR} (hg : Good s) {h st b l : Int} (h0 : 0 ≤ h) (h1 : 0 ≤ st) (h2 : 0 ≤ b) (h3 : 0 ≤ l) {m : List OrdR} (hc : canB s m = true) : canB (easyS s h st b l) m = true := by
  rw [canB_iff] at *
  intro d hd
  have hd' : d < s.hours.length := by simpa [easyS] using hd
  refine Int.le_trans (Int.le_trans ?_ (hc d hd')) ?_
  · unfold takes
    have ep : (easyS s h st b l).parts.length = s.parts.length := by simp [easyS]
    rw [ep]
    refine sum_le _ _ _ fun i hi => ?_
    have hp := hg.part hi
    have e : (easyS s h st b l).parts.getD i default = easyP st b l (s.parts.getD i default) := by
      show (s.parts.map (easyP st b l)).getD i default = _
      rw [getD_at (by simpa using hi), getD_at hi, List.getElem_map]
    unfold byy
    rw [e]
    have hl := hp.long
    have hl2 : (easyP st b l (s.parts.getD i default)).long ≤ (s.parts.getD i default).long := by show max 1 _ ≤ _; omega
    have hn0 := need_nonneg hp (due m i d)
    have hne : need (easyP st b l (s.parts.getD i default)) (due m i d) ≤ need (s.parts.getD i default) (due m i d) := by
      rw [need_le_iff (easyP_ok h1 h2 h3 hp) _ hn0]
      have hle := (need_le_iff hp _ hn0).1 (Int.le_refl _)
      have hb := hp.batch; have hs := hp.stock
      generalize s.parts.getD i default = p at *
      have hm : need p (due m i d) * p.batch ≤ need p (due m i d) * min 10 (p.batch + b) := Int.mul_le_mul_of_nonneg_left (by omega) hn0
      show _ ≤ min 50 (p.stock + st) + need p (due m i d) * min 10 (p.batch + b)
      have : p.stock ≤ min 50 (p.stock + st) := by omega
      omega
    have hn1 := need_nonneg (easyP_ok h1 h2 h3 hp) (due m i d)
    exact Int.le_trans (Int.mul_le_mul_of_nonneg_left hl2 hn1) (Int.mul_le_mul_of_nonneg_right hne (by omega))
  · unfold worked
    show _ ≤ ((s.hours.map _).take (d + 1)).sum
    rw [← List.map_take]
    exact sum_le2 h _ (fun x hx => (hg.hours x (List.mem_of_mem_take hx)).2) h0
theorem best_easy {s : ShopR} {h st b l : Int} (h0 : 0 ≤ h) (h1 : 0 ≤ st) (h2 : 0 ≤ b) (h3 : 0 ≤ l) (he : errOf s = 0) : (bestL s).2 ≤ (bestL (easyS s h st b l)).2 := by
  have hg := good_of_valid he
  have hb := bestL_best hg
  have hb2 := bestL_best (good_of_valid (easy_valid h0 h1 h2 h3 he))
  have hm : CanSet (easyS s h st b l) (bestL s).1 := ⟨hb.mem.1, canB_easy hg h0 h1 h2 h3 hb.mem.2⟩
  have hw : worthOf (easyS s h st b l) (bestL s).1 = worthOf s (bestL s).1 := rfl
  have := hb.worth
  rcases hb2.most _ hm with h | ⟨h, _⟩ <;> omega

/-! ### one order left out -/
theorem less_eq (x : List Nat) (k : Nat) : (x.map Int.ofNat).take k ++ (x.map Int.ofNat).drop (k + 1) = (x.eraseIdx k).map Int.ofNat := by
  rw [List.eraseIdx_eq_take_drop_succ, List.map_append, List.map_take, List.map_drop]
theorem less_taken {s : ShopR} (he : errOf s = 0) {x : List Nat} (hx : Rise s.orders.length x) (k : Nat) : takenErr s ((x.map Int.ofNat).take k ++ (x.map Int.ofNat).drop (k + 1)) = 0 := by
  rw [less_eq]
  exact taken_rise he (hx.sub (List.eraseIdx_sublist x k))
theorem less_can {s : ShopR} (he : errOf s = 0) {x : List Nat} (hx : Rise s.orders.length x) (k : Nat) (hc : canB s (ofL s (x.map Int.ofNat)) = true) : canB s (ofL s ((x.map Int.ofNat).take k ++ (x.map Int.ofNat).drop (k + 1))) = true := by
  have hg := good_of_valid he
  rw [less_eq, ofL_ords]
  rw [ofL_ords] at hc
  exact canB_sub hg (ords_sub (List.eraseIdx_sublist x k)) (ords_many hg hx) hc

/-! ### one order made easier -/
def laterO (n : Nat) (l f : Int) (o : OrdR) : OrdR := { o with due := min ((n : Int) - 1) (o.due + l), many := max 1 (o.many - f) }
def laterS (s : ShopR) (j : Nat) (l f : Int) : ShopR := { s with orders := s.orders.set j (laterO s.hours.length l f (s.orders.getD j default)) }
theorem laterO_ok {np n : Nat} {l f : Int} (h0 : 0 ≤ l) (h1 : 0 ≤ f) {o : OrdR} (h : OrdOK np n o) : OrdOK np n (laterO n l f o) := by
  have := h.due; have := h.many
  exact ⟨h.part, by show 1 ≤ max 1 _ ∧ max 1 _ ≤ 50; omega, by show 0 ≤ min _ _ ∧ min _ _ < _; omega, h.worth⟩
theorem later_valid {s : ShopR} {j : Nat} {l f : Int} (h0 : 0 ≤ l) (h1 : 0 ≤ f) (hj : j < s.orders.length) (he : errOf s = 0) : errOf (laterS s j l f) = 0 := by
  obtain ⟨hg, hn⟩ := valid_iff.1 he
  refine valid_iff.2 ⟨⟨hg.hlen, hg.hours, hg.plen, hg.parts, ?_, fun x hx => ?_⟩, hn⟩
  · show (s.orders.set j _).length ≤ 8
    rw [List.length_set]; exact hg.olen
  · have hx' : x ∈ s.orders.set j (laterO s.hours.length l f (s.orders.getD j default)) := hx
    rcases List.mem_or_eq_of_mem_set hx' with hx | rfl
    · exact hg.orders x hx
    · exact laterO_ok h0 h1 (hg.ord hj)
theorem due_easy {f g : Nat → OrdR} : ∀ (x : List Nat), (∀ i ∈ x, (g i).part = (f i).part ∧ (f i).due ≤ (g i).due ∧ 0 ≤ (g i).many ∧ (g i).many ≤ (f i).many) → ∀ part day : Int, due (x.map g) part day ≤ due (x.map f) part day := by
  intro x
  induction x with
  | nil => intro _ _ _; exact Int.le_refl _
  | cons i x ih =>
    intro h part day
    have h1 := ih (fun j hj => h j (by simp [hj])) part day
    obtain ⟨a, b, c, d⟩ := h i (by simp)
    rw [List.map_cons, List.map_cons, due_cons (g i), due_cons (f i), a]
    split <;> split <;> omega
theorem later_can {s : ShopR} (he : errOf s = 0) {j : Nat} {l f : Int} (h0 : 0 ≤ l) (h1 : 0 ≤ f) (hj : j < s.orders.length) {x : List Nat} (hx : Rise s.orders.length x) (hc : canB s (ofL s (x.map Int.ofNat)) = true) : canB (laterS s j l f) (ofL (laterS s j l f) (x.map Int.ofNat)) = true := by
  have hg := good_of_valid he
  rw [ofL_ords] at *
  show canB s (ordsOf (laterS s j l f) x) = true
  refine canB_mono hg (fun i d _ _ => due_easy x (fun k hk => ?_) _ _) hc
  have hkl := hx.2 k hk
  have hk' := hg.ord hkl
  show (((s.orders.set j (laterO s.hours.length l f (s.orders.getD j default))).getD k default).part = _) ∧ _ ≤ ((s.orders.set j (laterO s.hours.length l f (s.orders.getD j default))).getD k default).due ∧ 0 ≤ ((s.orders.set j (laterO s.hours.length l f (s.orders.getD j default))).getD k default).many ∧ ((s.orders.set j (laterO s.hours.length l f (s.orders.getD j default))).getD k default).many ≤ _
  have := hk'.many; have := hk'.due
  by_cases h : k = j
  · subst h
    have e : (s.orders.set k (laterO s.hours.length l f (s.orders.getD k default))).getD k default = laterO s.hours.length l f (s.orders.getD k default) := by simp [hkl]
    rw [e]
    exact ⟨rfl, by show _ ≤ min _ _; omega, by show 0 ≤ max 1 _; omega, by show max 1 _ ≤ _; omega⟩
  · have e : (s.orders.set j (laterO s.hours.length l f (s.orders.getD j default))).getD k default = s.orders.getD k default := by
      rw [List.getD_eq_getElem?_getD, List.getElem?_set_ne (Ne.symm h), List.getD_eq_getElem?_getD]
    rw [e]
    exact ⟨rfl, Int.le_refl _, by omega, Int.le_refl _⟩
theorem later_taken {s : ShopR} (he : errOf s = 0) {j : Nat} {l f : Int} (h0 : 0 ≤ l) (h1 : 0 ≤ f) (hj : j < s.orders.length) {x : List Nat} (hx : Rise s.orders.length x) : takenErr (laterS s j l f) (x.map Int.ofNat) = 0 :=
  taken_rise (later_valid h0 h1 hj he) (by show Rise (s.orders.set j _).length x; rw [List.length_set]; exact hx)
end Go.Proofs.Ytkmaapkbonkjfaa
