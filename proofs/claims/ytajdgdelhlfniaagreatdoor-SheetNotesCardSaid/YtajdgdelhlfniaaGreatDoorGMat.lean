/- Bounds on differences: what is closed, what a further bound does, and that what is closed is told by its truths. What notes bind: the two bounds of each note; bounds of a sheet. A region that draws its order: quiet operations first (their callees may draw, or lay blocks), then a tail in one forced order: walked once. -/
import Derived.Test.YtajdgdelhlfniaaGreatDoorGPure
import Derived.StillTail
import Derived.Deep.Quiet
import Derived.Deep.RegionHeld3
set_option linter.unusedSimpArgs false
set_option linter.unusedVariables false
namespace Go.Proofs.YtajdgdelhlfniaaGreatDoor

/-- bounds: the most by which the latter is above the former -/
abbrev Mat := Nat → Nat → Int
/-- nothing can be narrower -/
structure Closed (n : Nat) (b : Mat) : Prop where
  diag : ∀ i, i < n → b i i = 0
  tri : ∀ i j k, i < n → j < n → k < n → b i k ≤ b i j + b j k
/-- heights that bounds allow -/
def Sol (n : Nat) (b : Mat) (h : Nat → Int) : Prop := ∀ i k, i < n → k < n → h k - h i ≤ b i k
/-- one bound more -/
def bindM (f t : Nat) (m : Int) (b : Mat) : Mat := fun i k => min (b i k) (b i f + m + b t k)

theorem min_le_l (a b : Int) : min a b ≤ a := by omega
theorem min_le_r (a b : Int) : min a b ≤ b := by omega
theorem le_min {a b c : Int} (h1 : c ≤ a) (h2 : c ≤ b) : c ≤ min a b := by omega

theorem Closed.bind {n f t : Nat} {b : Mat} {m : Int} (h : Closed n b) (hf : f < n) (ht : t < n) (h0 : 0 ≤ m + b t f) : Closed n (bindM f t m b) := by
  refine ⟨fun i hi => ?_, fun i j k hi hj hk => ?_⟩
  · have h1 := h.diag i hi
    have h2 := h.tri t i f ht hi hf
    unfold bindM
    omega
  · unfold bindM
    have a1 := h.tri i j k hi hj hk
    have a2 := h.tri i j f hi hj hf
    have a3 := h.tri t j k ht hj hk
    have a4 := h.tri t j f ht hj hf
    omega
theorem Closed.bind_f {n f t : Nat} {b : Mat} {m : Int} (_h : Closed n b) (h0 : 0 ≤ m + b t f) (i : Nat) : bindM f t m b i f = b i f := by
  unfold bindM
  omega
theorem Closed.bind_t {n f t : Nat} {b : Mat} {m : Int} (_h : Closed n b) (h0 : 0 ≤ m + b t f) (k : Nat) : bindM f t m b t k = b t k := by
  unfold bindM
  omega
theorem bind_sol {n f t : Nat} {b : Mat} {m : Int} {h : Nat → Int} (hc : Closed n b) (hf : f < n) (ht : t < n) : Sol n (bindM f t m b) h ↔ Sol n b h ∧ h t - h f ≤ m := by
  constructor
  · intro hs
    refine ⟨fun i k hi hk => Int.le_trans (hs i k hi hk) (min_le_l _ _), ?_⟩
    have := hs f t hf ht
    have h1 := hc.diag f hf
    have h2 := hc.diag t ht
    unfold bindM at this
    omega
  · rintro ⟨hs, hm⟩ i k hi hk
    have h1 := hs i f hi hf
    have h2 := hs t k ht hk
    have h3 := hs i k hi hk
    unfold bindM
    omega
theorem bind_no {n f t : Nat} {b : Mat} {m : Int} (hf : f < n) (ht : t < n) (h0 : m + b t f < 0) (h : Nat → Int) : ¬ (Sol n b h ∧ h t - h f ≤ m) := by
  rintro ⟨hs, hm⟩
  have := hs t f ht hf
  omega
theorem bind_same {n f t : Nat} {b : Mat} {m : Int} (hf : f < n) (ht : t < n) (h0 : b f t ≤ m) (h : Nat → Int) : (Sol n b h ∧ h t - h f ≤ m) ↔ Sol n b h := by
  constructor
  · exact fun x => x.1
  · intro hs
    have := hs f t hf ht
    exact ⟨hs, by omega⟩
/-- each row of what is closed is a truth -/
theorem Closed.row {n : Nat} {b : Mat} (h : Closed n b) {i : Nat} (hi : i < n) : Sol n b (fun j => b i j) := fun j k hj hk => by
  have := h.tri i j k hi hj hk
  show b i k - b i j ≤ b j k
  omega
theorem closed_le {n : Nat} {b c : Mat} (hb : Closed n b) (h : ∀ x, Sol n b x → Sol n c x) {i k : Nat} (hi : i < n) (hk : k < n) : b i k ≤ c i k := by
  have h1 : b i k - b i i ≤ c i k := h _ (hb.row hi) i k hi hk
  have h2 := hb.diag i hi
  omega
theorem closed_eq {n : Nat} {b c : Mat} (hb : Closed n b) (hc : Closed n c) (h : ∀ x, Sol n b x ↔ Sol n c x) {i k : Nat} (hi : i < n) (hk : k < n) : b i k = c i k :=
  Int.le_antisymm (closed_le hb (fun x => (h x).1) hi hk) (closed_le hc (fun x => (h x).2) hi hk)
/-- the bound is what truths reach -/
theorem Closed.reach {n : Nat} {b : Mat} (h : Closed n b) {i k : Nat} (hi : i < n) (_hk : k < n) : ∃ x, Sol n b x ∧ x i = 0 ∧ x k - x i = b i k :=
  ⟨_, h.row hi, h.diag i hi, by simp [h.diag i hi]⟩
theorem Closed.lo {n : Nat} {b : Mat} (h : Closed n b) {i k : Nat} (hi : i < n) (hk : k < n) : - b k i ≤ b i k := by
  have h1 := h.tri i k i hi hk hi
  have h2 := h.diag i hi
  omega

/-! ### what the program's bounds are -/
/-- no bound is wider than heights can be apart -/
structure Fine (b : Mat) : Prop where
  closed : Closed 9 b
  le : ∀ i k, i < 9 → k < 9 → b i k ≤ 9000
theorem Fine.ge {b : Mat} (h : Fine b) {i k : Nat} (hi : i < 9) (hk : k < 9) : -9000 ≤ b i k := by
  have := h.closed.lo hi hk
  have := h.le k i hk hi
  omega
theorem Fine.bind {b : Mat} {f t : Nat} {m : Int} (h : Fine b) (hf : f < 9) (ht : t < 9) (h0 : 0 ≤ m + b t f) : Fine (bindM f t m b) :=
  ⟨h.closed.bind hf ht h0, fun i k hi hk => Int.le_trans (min_le_l _ _) (h.le i k hi hk)⟩
/-- bounds without notes -/
def freeM : Mat := fun i k => if i = k ∨ k = 8 then 0 else 9000
theorem free_fine : Fine freeM := by
  refine ⟨⟨fun i hi => by simp [freeM], fun i j k hi hj hk => ?_⟩, fun i k hi hk => ?_⟩
  · unfold freeM
    split <;> split <;> split <;> omega
  · unfold freeM
    split <;> omega
theorem free_sol (h : Nat → Int) : Sol 9 freeM h ↔ ∀ i, i < 8 → 0 ≤ h i - h 8 ∧ h i - h 8 ≤ 9000 := by
  constructor
  · intro hs i hi
    have h1 := hs i 8 (by omega) (by omega)
    have h2 := hs 8 i (by omega) (by omega)
    unfold freeM at h1 h2
    rw [if_pos (.inr rfl)] at h1
    rw [if_neg (by omega)] at h2
    omega
  · intro hs i k hi hk
    have hi' : i < 8 ∨ i = 8 := by omega
    have hk' : k < 8 ∨ k = 8 := by omega
    unfold freeM
    rcases hi' with hi' | rfl <;> rcases hk' with hk' | rfl
    · have h1 := hs i hi'
      have h2 := hs k hk'
      split
      · rename_i h
        have : i = k := by omega
        subst this
        omega
      · omega
    · have h1 := hs i hi'
      rw [if_pos (.inr rfl)]
      omega
    · have h1 := hs k hk'
      rw [if_neg (by omega)]
      omega
    · simp
/-- a further bound: whether there is a truth, and the bounds -/
def bindB (f t : Nat) (m : Int) (b : Mat) : Bool := decide (b f t ≤ m) || decide (0 ≤ m + b t f)
def bindR (f t : Nat) (m : Int) (b : Mat) : Mat := if b f t ≤ m then b else if 0 ≤ m + b t f then bindM f t m b else b
theorem bindR_fine {b : Mat} {f t : Nat} {m : Int} (h : Fine b) (hf : f < 9) (ht : t < 9) : Fine (bindR f t m b) := by
  unfold bindR
  split
  · exact h
  · split
    · rename_i h0
      exact h.bind hf ht h0
    · exact h
theorem bindR_sol {b : Mat} {f t : Nat} {m : Int} (h : Fine b) (hf : f < 9) (ht : t < 9) (hb : bindB f t m b = true) (x : Nat → Int) : Sol 9 (bindR f t m b) x ↔ Sol 9 b x ∧ x t - x f ≤ m := by
  unfold bindR
  split
  · rename_i h0
    exact (bind_same hf ht h0 x).symm
  · rename_i h1
    split
    · exact bind_sol h.closed hf ht
    · rename_i h0
      simp [bindB, h1, h0] at hb
theorem bindB_no {b : Mat} {f t : Nat} {m : Int} (hf : f < 9) (ht : t < 9) (hb : bindB f t m b = false) (x : Nat → Int) : ¬ (Sol 9 b x ∧ x t - x f ≤ m) := by
  simp only [bindB, Bool.or_eq_false_iff, decide_eq_false_iff_not] at hb
  exact bind_no hf ht (by omega) x
end Go.Proofs.YtajdgdelhlfniaaGreatDoor
namespace Go.Proofs.YtajdgdelhlfniaaGreatDoor

/-- the other point of a note; the level of the sea is place 8 -/
def othN (x : NoteR) : Nat := if x.kind = 1 ∨ x.kind = 2 then 8 else x.b.toNat
def nlo (iv : Int) (x : NoteR) : Int := if x.kind = 2 then x.lo * iv else x.lo
def nhi (iv : Int) (x : NoteR) : Int := if x.kind = 2 then x.hi * iv else x.hi
/-- the two bounds of a note that is wider: from, to, most -/
def bnd (iv wd : Int) (x : NoteR) : Nat → Nat × Nat × Int
  | 0 => (othN x, x.a.toNat, nhi iv x + wd)
  | _ => (x.a.toNat, othN x, wd - nlo iv x)
/-- bounds with the first k of them -/
def bndM (iv wd : Int) (x : NoteR) (b : Mat) : Nat → Mat
  | 0 => b
  | k + 1 => bindR (bnd iv wd x k).1 (bnd iv wd x k).2.1 (bnd iv wd x k).2.2 (bndM iv wd x b k)
def bndB (iv wd : Int) (x : NoteR) (b : Mat) (k : Nat) : Bool := bindB (bnd iv wd x k).1 (bnd iv wd x k).2.1 (bnd iv wd x k).2.2 (bndM iv wd x b k)
/-- bounds with a note; whether there is a truth -/
def withM (iv wd : Int) (b : Mat) (x : NoteR) : Mat × Bool :=
  if bndB iv wd x b 0 = false then (bndM iv wd x b 1, false) else if bndB iv wd x b 1 = false then (bndM iv wd x b 2, false) else (bndM iv wd x b 2, true)

theorem noteOK_oth {np : Nat} {iv : Int} {x : NoteR} (h : NoteOK np iv x) (hn : np ≤ 8) : othN x < 9 := by
  have := h.b
  unfold othN
  split <;> omega
theorem noteOK_a {np : Nat} {iv : Int} {x : NoteR} (h : NoteOK np iv x) (hn : np ≤ 8) : x.a.toNat < 8 := by
  have := h.a
  omega
theorem noteOK_ends {np : Nat} {iv : Int} {x : NoteR} (h : NoteOK np iv x) (hi : 1 ≤ iv) : -9000 ≤ nlo iv x ∧ nlo iv x ≤ nhi iv x ∧ nhi iv x ≤ 9000 := by
  have hk := h.kind
  have hle := h.le
  unfold nlo nhi
  by_cases k2 : x.kind = 2
  · obtain ⟨h1, h2, h3⟩ := h.band k2
    rw [if_pos k2, if_pos k2]
    have a1 : 0 ≤ x.lo * iv := Int.mul_nonneg h1 (by omega)
    have a2 : x.lo * iv ≤ x.hi * iv := Int.mul_le_mul_of_nonneg_right hle (by omega)
    omega
  · rw [if_neg k2, if_neg k2]
    have h1 := h.spot
    have h3 := h.lake
    have h4 := h.slope
    omega
theorem bnd_lt {np : Nat} {iv wd : Int} {x : NoteR} (h : NoteOK np iv x) (hn : np ≤ 8) (k : Nat) : (bnd iv wd x k).1 < 9 ∧ (bnd iv wd x k).2.1 < 9 := by
  have h1 := noteOK_oth h hn
  have h2 := noteOK_a h hn
  cases k with
  | zero => exact ⟨h1, by show x.a.toNat < 9; omega⟩
  | succ k => exact ⟨by show x.a.toNat < 9; omega, h1⟩
theorem bnd_most {np : Nat} {iv wd : Int} {x : NoteR} (h : NoteOK np iv x) (hi : 1 ≤ iv) (hw : 0 ≤ wd ∧ wd ≤ 9000) (k : Nat) : -9000 ≤ (bnd iv wd x k).2.2 ∧ (bnd iv wd x k).2.2 ≤ 18000 := by
  have h1 := noteOK_ends h hi
  cases k with
  | zero => show -9000 ≤ nhi iv x + wd ∧ nhi iv x + wd ≤ 18000; omega
  | succ k => show -9000 ≤ wd - nlo iv x ∧ wd - nlo iv x ≤ 18000; omega
theorem bndM_fine {np : Nat} {iv wd : Int} {x : NoteR} {b : Mat} (h : NoteOK np iv x) (hn : np ≤ 8) (hb : Fine b) (k : Nat) : Fine (bndM iv wd x b k) := by
  induction k with
  | zero => exact hb
  | succ k ih => exact bindR_fine ih (bnd_lt h hn k).1 (bnd_lt h hn k).2
/-- what a note that is wider says of heights; the level of the sea is that of place 8 -/
def Says (iv wd : Int) (x : NoteR) (h : Nat → Int) : Prop := nlo iv x - wd ≤ h x.a.toNat - h (othN x) ∧ h x.a.toNat - h (othN x) ≤ nhi iv x + wd
theorem says_iff {iv wd : Int} {x : NoteR} {h : Nat → Int} : Says iv wd x h ↔ h (bnd iv wd x 0).2.1 - h (bnd iv wd x 0).1 ≤ (bnd iv wd x 0).2.2 ∧ h (bnd iv wd x 1).2.1 - h (bnd iv wd x 1).1 ≤ (bnd iv wd x 1).2.2 := by
  unfold Says bnd
  simp only
  omega
theorem withM_fine {np : Nat} {iv wd : Int} {x : NoteR} {b : Mat} (h : NoteOK np iv x) (hn : np ≤ 8) (hb : Fine b) : Fine (withM iv wd b x).1 := by
  unfold withM
  split
  · exact bndM_fine h hn hb 1
  · split <;> exact bndM_fine h hn hb 2
theorem withM_sol {np : Nat} {iv wd : Int} {x : NoteR} {b : Mat} (h : NoteOK np iv x) (hn : np ≤ 8) (hb : Fine b) (hw : (withM iv wd b x).2 = true) (y : Nat → Int) : Sol 9 (withM iv wd b x).1 y ↔ Sol 9 b y ∧ Says iv wd x y := by
  unfold withM at *
  by_cases h0 : bndB iv wd x b 0 = false
  · rw [if_pos h0] at hw; cases hw
  · rw [if_neg h0] at *
    by_cases h1 : bndB iv wd x b 1 = false
    · rw [if_pos h1] at hw; cases hw
    · rw [if_neg h1]
      have e0 : bndB iv wd x b 0 = true := by simpa using h0
      have e1 : bndB iv wd x b 1 = true := by simpa using h1
      have s0 := bindR_sol (bndM_fine (wd := wd) h hn hb 0) (bnd_lt (wd := wd) h hn 0).1 (bnd_lt (wd := wd) h hn 0).2 e0 y
      have s1 := bindR_sol (bndM_fine (wd := wd) h hn hb 1) (bnd_lt (wd := wd) h hn 1).1 (bnd_lt (wd := wd) h hn 1).2 e1 y
      rw [says_iff]
      show Sol 9 (bindR _ _ _ (bindR _ _ _ b)) y ↔ _
      rw [show bindR (bnd iv wd x 0).1 (bnd iv wd x 0).2.1 (bnd iv wd x 0).2.2 b = bndM iv wd x b 1 from rfl, s1]
      rw [show bndM iv wd x b 1 = bindR (bnd iv wd x 0).1 (bnd iv wd x 0).2.1 (bnd iv wd x 0).2.2 (bndM iv wd x b 0) from rfl, s0]
      rw [show bndM iv wd x b 0 = b from rfl]
      exact ⟨fun ⟨⟨a, b⟩, c⟩ => ⟨a, b, c⟩, fun ⟨a, b, c⟩ => ⟨⟨a, b⟩, c⟩⟩
theorem withM_no {np : Nat} {iv wd : Int} {x : NoteR} {b : Mat} (h : NoteOK np iv x) (hn : np ≤ 8) (hb : Fine b) (hw : (withM iv wd b x).2 = false) (y : Nat → Int) : ¬ (Sol 9 b y ∧ Says iv wd x y) := by
  rintro ⟨hs, hy⟩
  rw [says_iff] at hy
  unfold withM at hw
  by_cases h0 : bndB iv wd x b 0 = false
  · exact bindB_no (bnd_lt (wd := wd) h hn 0).1 (bnd_lt (wd := wd) h hn 0).2 h0 y ⟨hs, hy.1⟩
  · rw [if_neg h0] at hw
    have e0 : bndB iv wd x b 0 = true := by simpa using h0
    have s0 := (bindR_sol (bndM_fine (wd := wd) h hn hb 0) (bnd_lt (wd := wd) h hn 0).1 (bnd_lt (wd := wd) h hn 0).2 e0 y).2 ⟨hs, hy.1⟩
    by_cases h1 : bndB iv wd x b 1 = false
    · exact bindB_no (bnd_lt (wd := wd) h hn 1).1 (bnd_lt (wd := wd) h hn 1).2 h1 y ⟨s0, hy.2⟩
    · rw [if_neg h1] at hw
      cases hw

/-- bounds with notes -/
def allM (iv wd : Int) : List NoteR → Mat → Mat × Bool
  | [], b => (b, true)
  | x :: l, b => if (withM iv wd b x).2 = false then ((withM iv wd b x).1, false) else allM iv wd l (withM iv wd b x).1
theorem allM_cons (iv wd : Int) (x : NoteR) (l : List NoteR) (b : Mat) : allM iv wd (x :: l) b = if (withM iv wd b x).2 = false then ((withM iv wd b x).1, false) else allM iv wd l (withM iv wd b x).1 := rfl
theorem allM_fine {np : Nat} {iv wd : Int} (hn : np ≤ 8) : ∀ {l : List NoteR} {b : Mat}, (∀ x ∈ l, NoteOK np iv x) → Fine b → Fine (allM iv wd l b).1 := by
  intro l
  induction l with
  | nil => intro b _ hb; exact hb
  | cons x l ih =>
    intro b hl hb
    rw [allM_cons]
    have h1 := withM_fine (wd := wd) (hl x (by simp)) hn hb
    split
    · exact h1
    · exact ih (fun y hy => hl y (by simp [hy])) h1
theorem allM_sol {np : Nat} {iv wd : Int} (hn : np ≤ 8) : ∀ {l : List NoteR} {b : Mat}, (∀ x ∈ l, NoteOK np iv x) → Fine b → (allM iv wd l b).2 = true → ∀ y, Sol 9 (allM iv wd l b).1 y ↔ Sol 9 b y ∧ ∀ x ∈ l, Says iv wd x y := by
  intro l
  induction l with
  | nil => intro b _ _ _ y; simp [allM]
  | cons x l ih =>
    intro b hl hb hw y
    rw [allM_cons] at *
    have h1 := withM_fine (wd := wd) (hl x (by simp)) hn hb
    by_cases h2 : (withM iv wd b x).2 = false
    · rw [if_pos h2] at hw; cases hw
    · rw [if_neg h2] at *
      rw [ih (fun y hy => hl y (by simp [hy])) h1 hw y, withM_sol (hl x (by simp)) hn hb (by simpa using h2) y]
      simp [and_assoc]
theorem allM_no {np : Nat} {iv wd : Int} (hn : np ≤ 8) : ∀ {l : List NoteR} {b : Mat}, (∀ x ∈ l, NoteOK np iv x) → Fine b → (allM iv wd l b).2 = false → ∀ y, ¬ (Sol 9 b y ∧ ∀ x ∈ l, Says iv wd x y) := by
  intro l
  induction l with
  | nil => intro b _ _ h; cases h
  | cons x l ih =>
    intro b hl hb hw y
    rw [allM_cons] at hw
    have h1 := withM_fine (wd := wd) (hl x (by simp)) hn hb
    rintro ⟨hs, hy⟩
    by_cases h2 : (withM iv wd b x).2 = false
    · exact withM_no (hl x (by simp)) hn hb h2 y ⟨hs, hy x (by simp)⟩
    · rw [if_neg h2] at hw
      refine ih (fun y hy => hl y (by simp [hy])) h1 hw y ⟨?_, fun z hz => hy z (by simp [hz])⟩
      exact (withM_sol (hl x (by simp)) hn hb (by simpa using h2) y).2 ⟨hs, hy x (by simp)⟩
theorem allM_snoc (iv wd : Int) : ∀ (l : List NoteR) (x : NoteR) (b : Mat), (allM iv wd l b).2 = true → allM iv wd (l ++ [x]) b = withM iv wd (allM iv wd l b).1 x := by
  intro l
  induction l with
  | nil =>
    intro x b _
    show (if (withM iv wd b x).2 = false then _ else allM iv wd [] _) = withM iv wd b x
    unfold allM
    cases h : (withM iv wd b x).2 with
    | true => simp [← h]
    | false => simp [← h]
  | cons z l ih =>
    intro x b h
    rw [List.cons_append, allM_cons, allM_cons]
    rw [allM_cons] at h
    by_cases h2 : (withM iv wd b z).2 = false
    · rw [if_pos h2] at h; cases h
    · rw [if_neg h2] at h
      rw [if_neg h2, if_neg h2]
      exact ih x _ h
theorem allM_stop (iv wd : Int) : ∀ (l l' : List NoteR) (b : Mat), (allM iv wd l b).2 = false → allM iv wd (l ++ l') b = allM iv wd l b := by
  intro l
  induction l with
  | nil => intro l' b h; cases h
  | cons z l ih =>
    intro l' b h
    rw [List.cons_append, allM_cons, allM_cons]
    rw [allM_cons] at h
    by_cases h2 : (withM iv wd b z).2 = false
    · rw [if_pos h2, if_pos h2]
    · rw [if_neg h2] at h
      rw [if_neg h2, if_neg h2]
      exact ih l' _ h
end Go.Proofs.YtajdgdelhlfniaaGreatDoor
namespace Go.Proofs.YtajdgdelhlfniaaGreatDoor
open Go.RowKit

section
variable {P : Program} {ops : Array Oper} {md : Region.Mode} {C : World → Prop}

/-- the head of the walk: only operations below n come up -/
def headQ (P : Program) (md : Region.Mode) (ops : Array Oper) (C : World → Prop) (n : Nat) (L : Array Bool → Act → Prop) : Nat → Array Bool → Act → Prop
  | 0, listed, a => L listed a
  | f + 1, listed, a => Region.ready md ops listed ≠ [] ∧ ∀ i ∈ Region.ready md ops listed, i < n ∧ qOp P ops C i (headQ P md ops C n L f (listed.setIfInBounds i true)) a

theorem any_of_headQ {n g : Nat} {L : Array Bool → Act → Prop} {Q' : Exit → Act → World → Prop} (hL : ∀ listed a w, C w → L listed a → wpAny P md ops Q' g listed a w) :
    ∀ (f : Nat) (listed : Array Bool) (a : Act) (w : World), C w → headQ P md ops C n L f listed a → wpAny P md ops Q' (f + g) listed a w := by
  intro f
  induction f with
  | zero => intro listed a w hw h; rw [Nat.zero_add]; exact hL _ _ _ hw h
  | succ f ih =>
    intro listed a w hw h
    rw [show f + 1 + g = (f + g) + 1 by omega]
    exact ⟨fun h0 => absurd h0 h.1, fun i hi => wpOp_of_qOp hw (fun a' w' hw' h' => ih _ a' w' hw' h') (h.2 i hi).2⟩

/-- every operation of the head from k0 on is waited for -/
def sinkFrom (md : Region.Mode) (ops : Array Oper) (k0 n : Nat) : Bool :=
  (List.range n).all fun i => decide (i < k0) || (List.range (n + 1)).any fun j => decide (i < j) && Region.waitsFor md ops j i

theorem tail_later {k0 n : Nat} {listed : Array Bool} (hs : sinkFrom md ops k0 n = true) (hc : Region.chainB md ops n = true) (hn : n < ops.size) (inv : HeadInv md ops n listed) :
    ∀ (d i : Nat), n - i = d → k0 ≤ i → i < n → listed.getD i true = false → ∀ t, n ≤ t → t ∉ Region.ready md ops listed := by
  intro d
  induction d using Nat.strongRecOn with
  | _ d ih =>
    intro i hd hk hi hun t ht hr
    obtain ⟨_, ot, hot, hall⟩ := mem_ready.1 hr
    have htlt : t < ops.size := (Array.getElem?_eq_some_iff.1 hot).1
    by_cases htn : t = n
    · subst htn
      have h1 := List.all_eq_true.1 hs i (List.mem_range.2 hi)
      simp only [Bool.or_eq_true, decide_eq_true_eq] at h1
      obtain ⟨j, hj, hj2⟩ := List.any_eq_true.1 (h1.resolve_left (by omega))
      simp only [Bool.and_eq_true, decide_eq_true_eq] at hj2
      obtain ⟨oj, hoj, e, he, hb, hon⟩ := Region.waitsFor_spec hj2.2
      have hjle : j ≤ t := by have := List.mem_range.1 hj; omega
      by_cases hjt : j = t
      · subst hjt
        obtain rfl : oj = ot := Option.some.inj (hoj.symm.trans hot)
        have h2 := hall e he hb
        rw [hon, getD_both hun] at h2
        cases h2
      · cases hl : listed.getD j false with
        | true =>
          have h2 := inv.closed j oj hoj hl e he hb
          rw [hon, getD_both hun] at h2
          cases h2
        | false => exact ih (t - j) (by omega) j rfl (by omega) (by omega) (getD_in (by rw [inv.size]; omega) hl) t (Nat.le_refl _) hr
    · have h1 := List.all_eq_true.1 hc t (List.mem_range.2 htlt)
      simp only [Bool.or_eq_true, decide_eq_true_eq] at h1
      obtain ⟨o', ho', e, he, hb, hon⟩ := Region.waitsFor_spec (h1.resolve_left (by omega))
      obtain rfl : o' = ot := Option.some.inj (ho'.symm.trans hot)
      have h2 := hall e he hb
      rw [hon, getD_both (inv.tail (t - 1) (by omega) (by omega))] at h2
      cases h2

theorem headQ_first {k0 n i : Nat} {oi : Oper} {v : Value} {L : Array Bool → Act → Prop} (hi : ops[i]? = some oi) (hsel : ∀ (j : Nat) (o : Oper) cs b, ops[j]? = some o → o.op ≠ .select cs b)
    (hs : sinkFrom md ops k0 n = true) (hc : Region.chainB md ops n = true) (hn : n < ops.size) (hki : k0 ≤ i) (hin : i < n) (hdone : ∀ listed a, L listed a → ∀ j ∈ Region.ready md ops listed, n ≤ j) :
    ∀ (f : Nat) (listed : Array Bool) (a : Act), HeadInv md ops n listed →
      (∀ j oj, ops[j]? = some oj → j ≠ i → listed.getD j true = false → (∀ e ∈ oj.after, Region.binds md e = true → e.on ≠ i) → oi.apart ops oj = true) →
      i ∈ Region.ready md ops listed → YieldsIn P ops C oi v a →
      headQ P md ops C n L f (listed.setIfInBounds i true) (a.put oi.dst v) → headQ P md ops C n L (f + 1) listed a := by
  intro f
  induction f with
  | zero =>
    intro listed a inv _ hr hy H
    have hun := (mem_ready.1 hr).1
    refine ⟨fun h => (by rw [h] at hr; cases hr), fun j hj => ?_⟩
    have hjn : j < n := Nat.lt_of_not_le fun h => absurd hj (tail_later hs hc hn inv _ i rfl hki hin hun j h)
    refine ⟨hjn, ?_⟩
    by_cases hji : j = i
    · subst hji; exact hy.qOp hi H
    · have := hdone _ _ H j (ready_mono hj hji)
      omega
  | succ f ih =>
    intro listed a inv hfree hr hy H
    have hun := (mem_ready.1 hr).1
    refine ⟨fun h => (by rw [h] at hr; cases hr), fun j hj => ?_⟩
    have hjn : j < n := Nat.lt_of_not_le fun h => absurd hj (tail_later hs hc hn inv _ i rfl hki hin hun j h)
    refine ⟨hjn, ?_⟩
    by_cases hji : j = i
    · subst hji; exact hy.qOp hi H
    · obtain ⟨hjun, oj, hoj, hall⟩ := mem_ready.1 hj
      have hnot : ∀ e ∈ oj.after, Region.binds md e = true → e.on ≠ i := fun e he hb heq => by
        have h1 := hall e he hb
        rw [heq, getD_both hun] at h1
        cases h1
      have h2 := qOp_put hoj (hfree j oj hoj hji hjun hnot) (fun cs b => hsel i oi cs b hi) (fun cs b => hsel j oj cs b hoj) hy (H.2 j (ready_mono hj hji)).2
      refine qOp_mono (fun a' h3 => ih (listed.setIfInBounds j true) a' (inv.set hj hjn) (fun k ok hk hki2 hun hno => ?_) (ready_mono hr (Ne.symm hji)) h3.1 ?_) h2
      · refine hfree k ok hk hki2 ?_ hno
        by_cases hjk : j = k
        · subst hjk; exact hjun
        · rwa [getD_set_ne true hjk] at hun
      · rw [Array.setIfInBounds_comm _ _ hji]
        exact h3.2

theorem headQ_lex {k0 n g : Nat} {Lq : Act → Prop} (hsel : Region.noSelect ops = true) (hs : sinkFrom md ops k0 n = true) (hc : Region.chainB md ops n = true) (hn : n < ops.size) :
    ∀ (l : List Oper) (k : Nat) (listed : Array Bool) (a : Act), (∀ j, j < l.length → l[j]? = ops[k + j]?) → k0 ≤ k → k + l.length = n → HeadInv md ops n listed →
    Region.lexHead md ops g l.length k listed = true → wpQuiet P ops C Lq l a →
    headQ P md ops C n (fun listed' a' => Region.seqB md ops g n listed' = true ∧ Lq a') l.length listed a := by
  intro l
  induction l with
  | nil =>
    intro k listed a _ _ hk _ hB h
    obtain rfl : k = n := by simpa using hk
    exact ⟨by simpa [Region.lexHead] using hB, h⟩
  | cons o l ih =>
    intro k listed a hl hk0 hk inv hB h
    have h0 : ops[k]? = some o := by simpa using (hl 0 (by simp)).symm
    simp only [List.length_cons, Region.lexHead, Bool.and_eq_true] at hB
    obtain ⟨⟨hr, hf⟩, hB'⟩ := hB
    simp only [List.length_cons] at hk
    have hr' : k ∈ Region.ready md ops listed := by simpa using hr
    obtain ⟨v, hy, hK⟩ := yieldsIn_of_qOp (K := wpQuiet P ops C Lq l) h0 (by unfold qOp; simp only [h0]; exact h)
    exact headQ_first h0 (Region.noSelect_spec hsel) hs hc hn hk0 (by omega) (fun listed' a' hL => seqB_ready hL.1) l.length listed a inv (Region.free_spec h0 hf) hr' hy
      (ih (k + 1) _ _ (fun j hj => by have := hl (j + 1) (by simp; omega); simpa [Nat.add_assoc, Nat.add_comm 1 j] using this) (by omega) (by omega) (inv.set hr' (by omega)) hB' hK)
end

theorem sinkFrom_zero {md : Region.Mode} {ops : Array Oper} {n : Nat} (h : Region.sinkB md ops n = true) : sinkFrom md ops 0 n = true := by
  unfold sinkFrom
  unfold Region.sinkB at h
  rw [List.all_eq_true] at h ⊢
  intro i hi
  rw [h i hi]
  simp

theorem region_quiet_tail {P : Program} {C : World → Prop} {id : Nat} {Q : Exit → Act → World → Prop} {a : Act} {w : World} {l : List Oper} (n : Nat) (hm : P.follows .mixedOrders = true) (hB : Region.lexTailB .any l.toArray n = true) (hC : C w.drew)
    (h : wpQuiet P l.toArray C (fun a' => ∀ w', C w' → wpList P l.toArray Q (l.drop n) a' w') (l.take n) a) : (Code.region id l.toArray true).wp P Q a w := by
  simp only [Region.lexTailB, Bool.and_eq_true, decide_eq_true_eq] at hB
  obtain ⟨⟨⟨⟨hsel, hn⟩, hs⟩, hc⟩, hlex⟩ := hB
  have hn' : n < l.length := by simpa using hn
  have htl : (l.take n).length = n := by simp; omega
  have hdl : (l.drop n).length = l.toArray.size - n := by simp
  have H := headQ_lex (C := C) (md := .any) (k0 := 0) (g := l.toArray.size - n) hsel (sinkFrom_zero hs) hc hn (l.take n) 0 (Array.replicate l.toArray.size false) a (fun j hj => by
      rw [htl] at hj
      simp [hj]) (Nat.zero_le _) (by simpa using htl)
    ⟨by simp, fun j oj _ hl => (by rw [getD_replicate_false] at hl; cases hl), fun t _ ht => getD_in (by simpa using ht) (getD_replicate_false _ _)⟩ (by rw [htl]; exact hlex) h
  refine wp_region_any hm ?_
  have := any_of_headQ (Q' := Q) (g := l.toArray.size - n) (fun listed a' w' hw' hL => by
    have := wpAny_of_seq (md := .any) (Q' := Q) (l.drop n) n listed a' w' (fun j => by simp [List.getElem?_drop]) (by rw [hdl]; exact hL.1) (hL.2 w' hw')
    rwa [hdl] at this) _ _ _ _ hC H
  rwa [htl, show n + (l.toArray.size - n) = l.toArray.size by omega] at this
/-- the same where the first operation is a move, that no operation of the head waits for -/
def moveTailB (ops : Array Oper) (n : Nat) : Bool :=
  Region.noSelect ops && decide (1 ≤ n) && decide (n < ops.size) && sinkFrom .any ops 1 n && Region.chainB .any ops n && Region.free .any ops (Array.replicate ops.size false) 0 && (Region.ready .any ops (Array.replicate ops.size false)).contains 0 &&
    Region.lexHead .any ops (ops.size - n) (n - 1) 1 ((Array.replicate ops.size false).setIfInBounds 0 true)

theorem region_move_quiet_tail {P : Program} {C : World → Prop} {id : Nat} {Q : Exit → Act → World → Prop} {a : Act} {w : World} {o : Oper} {l : List Oper} (n : Nat) (x : Operand) (ho : o.op = .move x) (hgd : o.guard = none)
    (hm : P.follows .mixedOrders = true) (hB : moveTailB (o :: l).toArray n = true)
    (hQ2 : ∀ c v a w, Q (.panic c) (a.put o.dst v) w → Q (.panic c) a w) (hC : C w.drew)
    (h : wpQuiet P (o :: l).toArray C (fun a' => ∀ w', C w' → wpList P (o :: l).toArray Q (l.drop (n - 1)) a' w') (l.take (n - 1)) (a.put o.dst (a.eval x))) : (Code.region id (o :: l).toArray true).wp P Q a w := by
  simp only [moveTailB, Bool.and_eq_true, decide_eq_true_eq] at hB
  obtain ⟨⟨⟨⟨⟨⟨⟨hsel, hn1⟩, hn⟩, hs⟩, hc⟩, hfree⟩, hready⟩, hlex⟩ := hB
  have hn' : n < l.length + 1 := by simpa using hn
  have hsz : (o :: l).toArray.size = l.length + 1 := by simp
  have htl : (l.take (n - 1)).length = n - 1 := by simp; omega
  have hdl : (l.drop (n - 1)).length = (o :: l).toArray.size - n := by simp; omega
  have h0 : (o :: l).toArray[0]? = some o := by simp
  refine wp_region_any hm ?_
  rw [show (o :: l).toArray.size = l.length + 1 from hsz]
  rw [hsz] at hfree hready hlex
  refine wpAny_take (v := a.eval x) h0 hsel hfree hready (fun c a w h => hQ2 c _ a w h) (.inl ⟨by simp [Region.wanted, hgd], fun w => by unfold execOp; rw [ho]; rfl⟩) ?_
  have hr0 : 0 ∈ Region.ready .any (o :: l).toArray (Array.replicate (l.length + 1) false) := by simpa using hready
  have inv0 : HeadInv .any (o :: l).toArray n (Array.replicate (l.length + 1) false) :=
    ⟨by simp, fun j oj _ hl => (by rw [getD_replicate_false] at hl; cases hl), fun t _ ht => getD_in (by simpa using ht) (getD_replicate_false _ _)⟩
  have H := headQ_lex (C := C) (md := .any) (k0 := 1) (g := l.length + 1 - n) hsel hs hc hn (l.take (n - 1)) 1 _ _ (fun j hj => by
      rw [htl] at hj
      rw [List.getElem?_take]
      simp [hj, Nat.add_comm 1 j]) (Nat.le_refl _) (by rw [htl]; omega) (inv0.set hr0 (by omega)) (by rw [htl]; exact hlex) h
  have := any_of_headQ (Q' := Q) (g := l.length + 1 - n) (fun listed a' w' hw' hL => by
    have := wpAny_of_seq (md := .any) (Q' := Q) (l.drop (n - 1)) n listed a' w' (fun j => by
      rw [List.getElem?_drop]
      obtain ⟨m, rfl⟩ : ∃ m, n = m + 1 := ⟨n - 1, by omega⟩
      rw [List.getElem?_toArray, Nat.add_sub_cancel, show m + 1 + j = (m + j) + 1 by omega, List.getElem?_cons_succ]) (by rw [hdl, hsz]; exact hL.1) (hL.2 w' hw')
    rwa [hdl, hsz] at this) _ _ _ _ hC H
  rwa [htl, show n - 1 + (l.length + 1 - n) = l.length by omega] at this

/-- the same, whatever Q says of a panic: none comes -/
theorem region_move_quiet_tail2 {P : Program} {C : World → Prop} {id : Nat} {Q : Exit → Act → World → Prop} {a : Act} {w : World} {o : Oper} {l : List Oper} (n : Nat) (x : Operand) (ho : o.op = .move x) (hgd : o.guard = none)
    (hm : P.follows .mixedOrders = true) (hB : moveTailB (o :: l).toArray n = true) (hC : C w.drew)
    (h : wpQuiet P (o :: l).toArray C (fun a' => ∀ w', C w' → wpList P (o :: l).toArray (NoPanic Q) (l.drop (n - 1)) a' w') (l.take (n - 1)) (a.put o.dst (a.eval x))) : (Code.region id (o :: l).toArray true).wp P Q a w :=
  wp_region_noPanic (region_move_quiet_tail n x ho hgd hm hB (fun _ _ _ _ h => h.elim) hC h)
end Go.Proofs.YtajdgdelhlfniaaGreatDoor
