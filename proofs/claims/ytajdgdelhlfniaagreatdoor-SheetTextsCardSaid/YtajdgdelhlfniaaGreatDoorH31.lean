/- Plain: sheets with more or fewer notes; what truths reach. -/
import Derived.Test.YtajdgdelhlfniaaGreatDoorH30
import Derived.Test.YtajdgdelhlfniaaGreatDoorH16
import Derived.Test.YtajdgdelhlfniaaGreatDoorH14
set_option linter.unusedSimpArgs false
set_option linter.unusedVariables false
namespace Go.Proofs.YtajdgdelhlfniaaGreatDoor

def withN (s : ShR) (l : List NoteR) : ShR := { s with notes := l }
theorem Good.notes_ {s : ShR} (h : Good s) {l : List NoteR} (hl : ∀ x ∈ l, NoteOK s.pts.length s.iv x) (hn : l.length ≤ 12) : Good (withN s l) :=
  ⟨h.iv, h.plen, h.names, h.fresh, hn, hl⟩
theorem Closed.between {b : Mat} (h : Closed 9 b) {i k : Nat} (hi : i < 9) (hk : k < 9) {v : Int} (h1 : - b k i ≤ v) (h2 : v ≤ b i k) : ∃ y, Sol 9 b y ∧ y k - y i = v := by
  have hc := h.bind (f := k) (t := i) (m := -v) hk hi (by omega)
  refine ⟨fun j => bindM k i (-v) b k j, ((bind_sol h hk hi).1 (hc.row hk)).1, ?_⟩
  have d := hc.diag k hk
  have e : bindM k i (-v) b k i = -v := by
    have := h.diag i hi
    have := h.diag k hk
    unfold bindM
    omega
  show bindM k i (-v) b k k - bindM k i (-v) b k i = v
  omega
theorem fitsB_iff {s : ShR} (hg : Good s) : fitsB s = true ↔ ∃ y, TruthOf s 0 y := by
  rw [← fit_iff hg 0]
  unfold fitsB
  rw [decide_eq_true_iff, openE_ok (valid_of_good hg)]
  cases (boundsF s 0).2 <;> simp
theorem errOf_good {s : ShR} (hg : Good s) : errOf s = 0 := valid_of_good hg
theorem openE_fit {s : ShR} (hg : Good s) (h : ∃ y, TruthOf s 0 y) : openE s = 0 := by
  have := (fitsB_iff hg).2 h
  unfold fitsB at this
  exact of_decide_eq_true this
theorem openE_two {s : ShR} (hg : Good s) : (openE s = 0 ∧ ∃ y, TruthOf s 0 y) ∨ (openE s = 9 ∧ ¬ ∃ y, TruthOf s 0 y) := by
  rw [← fit_iff hg 0, openE_ok (errOf_good hg)]
  cases (boundsF s 0).2 <;> simp
theorem open_bounds {s : ShR} (h : openE s = 0) : openM s = (boundsF s 0).1 ∧ (boundsF s 0).2 = true := by
  have hg := good_of_open h
  rw [openE_ok (errOf_good hg)] at h
  refine ⟨by unfold openM; rw [if_neg (by simp [errOf_good hg])], ?_⟩
  cases hb : (boundsF s 0).2 with
  | true => rfl
  | false => rw [hb] at h; simp at h
theorem open_sol {s : ShR} (h : openE s = 0) (y : Nat → Int) : Sol 9 (openM s) y ↔ TruthOf s 0 y := by
  obtain ⟨e, hb⟩ := open_bounds h
  rw [e]
  exact bounds_sol (good_of_open h) hb y
theorem topM_sol {m : Mat} (hm : Fine m) {p : Nat} (hp : p < 9) : ∀ k, k ≤ 9 → ((topM m p k).2 = true → ∀ y, Sol 9 (topM m p k).1 y ↔ Sol 9 m y ∧ ∀ q, q < k → y q ≤ y p) ∧ ((topM m p k).2 = false → ∀ y, ¬ (Sol 9 m y ∧ ∀ q, q < k → y q ≤ y p)) := by
  intro k
  induction k with
  | zero => intro _; exact ⟨fun _ y => ⟨fun h => ⟨h, fun q hq => by omega⟩, fun h => h.1⟩, fun h => by cases h⟩
  | succ k ih =>
    intro hk
    obtain ⟨i1, i2⟩ := ih (by omega)
    cases h : (topM m p k).2 with
    | true =>
      rw [topM_yes h]
      have hs := i1 h
      refine ⟨fun h2 y => ?_, fun h2 y hy => ?_⟩
      · show Sol 9 (bindR p k 0 (topM m p k).1) y ↔ _
        rw [bindR_sol (topM_fine hm hp k (by omega)) hp (by omega) h2 y, hs y]
        constructor
        · rintro ⟨⟨a, b⟩, c⟩
          refine ⟨a, fun q hq => ?_⟩
          by_cases e : q = k
          · subst e; omega
          · exact b q (by omega)
        · rintro ⟨a, b⟩
          exact ⟨⟨a, fun q hq => b q (by omega)⟩, by have := b k (by omega); omega⟩
      · refine bindB_no hp (by omega : k < 9) h2 y ⟨(hs y).2 ⟨hy.1, fun q hq => hy.2 q (by omega)⟩, ?_⟩
        have := hy.2 k (by omega)
        omega
    | false =>
      rw [topM_no h]
      exact ⟨fun h2 => (by cases h2), fun _ y hy => i2 h y ⟨hy.1, fun q hq => hy.2 q (by omega)⟩⟩
theorem highB_iff {m : Mat} (hm : Fine m) {n p : Nat} (hn : n ≤ 8) (hp : p < 9) : highB m n p = true ↔ ∃ y, Sol 9 m y ∧ ∀ q, q < n → y q ≤ y p := by
  obtain ⟨h1, h2⟩ := topM_sol hm hp n (by omega)
  unfold highB
  constructor
  · intro h
    obtain ⟨y, hy, _⟩ := (topM_fine hm hp n (by omega)).closed.reach (i := 0) (k := 0) (by omega) (by omega)
    exact ⟨y, (h1 h y).1 hy⟩
  · rintro ⟨y, hy⟩
    cases h : (topM m p n).2 with
    | true => rfl
    | false => exact absurd hy (h2 h y)
theorem mem_highL {m : Mat} {n k : Nat} {x : Int} : x ∈ highL m n k ↔ ∃ p : Nat, p < k ∧ highB m n p = true ∧ x = (p : Int) := by
  unfold highL
  simp only [List.mem_map, List.mem_filter, List.mem_range]
  exact ⟨fun ⟨p, ⟨h1, h2⟩, h3⟩ => ⟨p, h1, h2, h3.symm⟩, fun ⟨p, h1, h2, h3⟩ => ⟨p, ⟨h1, h2⟩, h3.symm⟩⟩
theorem mem_highest {s : ShR} (h : openE s = 0) {x : Int} : x ∈ highestF s ↔ ∃ p : Nat, p < s.pts.length ∧ x = (p : Int) ∧ ∃ y, TruthOf s 0 y ∧ ∀ q, q < s.pts.length → y q ≤ y p := by
  have hg := good_of_open h
  unfold highestF
  rw [if_neg (by simp [h]), mem_highL]
  have hl := hg.plen
  constructor
  · rintro ⟨p, h1, h2, h3⟩
    obtain ⟨y, hy, hq⟩ := (highB_iff (openM_fine h) hl.2 (by omega)).1 h2
    exact ⟨p, h1, h3, y, (open_sol h y).1 hy, hq⟩
  · rintro ⟨p, h1, h3, y, hy, hq⟩
    exact ⟨p, h1, (highB_iff (openM_fine h) hl.2 (by omega)).2 ⟨y, (open_sol h y).2 hy, hq⟩, h3⟩

/-! ### a note more -/
theorem TruthOf.notes {s : ShR} {l : List NoteR} {wd : Int} {y : Nat → Int} : TruthOf (withN s l) wd y ↔ Sol 9 freeM y ∧ ∀ x ∈ l, Says s.iv wd x y := Iff.rfl
def withS (s : ShR) (x : NoteR) : ShR := withN s (s.notes ++ [x])
theorem truth_with {s : ShR} {x : NoteR} {wd : Int} {y : Nat → Int} : TruthOf (withS s x) wd y ↔ TruthOf s wd y ∧ Says s.iv wd x y := by
  unfold withS
  rw [TruthOf.notes]
  unfold TruthOf
  simp only [List.mem_append, List.mem_singleton]
  constructor
  · rintro ⟨h1, h2⟩
    exact ⟨⟨h1, fun z hz => h2 z (.inl hz)⟩, h2 x (.inr rfl)⟩
  · rintro ⟨⟨h1, h2⟩, h3⟩
    refine ⟨h1, fun z hz => ?_⟩
    rcases hz with hz | rfl
    · exact h2 z hz
    · exact h3
theorem good_with {s : ShR} (hg : Good s) {x : NoteR} (hx : NoteOK s.pts.length s.iv x) (hn : s.notes.length < 12) : Good (withS s x) :=
  hg.notes_ (fun z hz => by
    rcases List.mem_append.1 hz with hz | hz
    · exact hg.notes z hz
    · rw [List.mem_singleton] at hz; subst hz; exact hx) (by simp; omega)
theorem good_less {s : ShR} {x : NoteR} (hg : Good (withS s x)) : Good s :=
  ⟨hg.iv, hg.plen, hg.names, hg.fresh, by have := hg.nlen; unfold withS withN at this; simp at this; omega, fun z hz => hg.notes z (by unfold withS withN; simp [hz])⟩
/-- with one more note no bound is wider -/
theorem more_le {s : ShR} {x : NoteR} (hs : openE s = 0) (ht : openE (withS s x) = 0) {i k : Nat} (hi : i < 9) (hk : k < 9) : openM (withS s x) i k ≤ openM s i k :=
  closed_le (openM_fine ht).closed (fun y hy => (open_sol hs y).2 (truth_with.1 ((open_sol ht y).1 hy)).1) hi hk
theorem more_open {s : ShR} {x : NoteR} (ht : openE (withS s x) = 0) : openE s = 0 := by
  have hg := good_of_open ht
  rcases openE_two hg with ⟨_, y, hy⟩ | ⟨h, _⟩
  · exact openE_fit (good_less hg) ⟨y, (truth_with.1 hy).1⟩
  · rw [ht] at h; cases h
theorem more_high {s : ShR} {x : NoteR} (ht : openE (withS s x) = 0) {p : Int} (h : p ∈ highestF (withS s x)) : p ∈ highestF s := by
  obtain ⟨q, h1, h2, y, hy, h3⟩ := (mem_highest ht).1 h
  exact (mem_highest (more_open ht)).2 ⟨q, h1, h2, y, (truth_with.1 hy).1, h3⟩

/-! ### an exact note -/
def spotX (a : Nat) (v : Int) : NoteR := ⟨1, a, 0, v, v⟩
def slopeX (a b : Nat) (v : Int) : NoteR := ⟨4, a, b, v, v⟩
theorem spot_fits {s : ShR} (h : openE s = 0) {a : Nat} (ha : a < s.pts.length) (hn : s.notes.length < 12) {v : Int} (hv : 0 ≤ v ∧ v ≤ 9000) :
    errOf (withS s (spotX a v)) = 0 ∧ fitsB (withS s (spotX a v)) = inB v (- openM s a 8) (openM s 8 a) := by
  have hg := good_of_open h
  have hl := hg.plen
  have hx : NoteOK s.pts.length s.iv (spotX a v) := ⟨by simp [spotX], by simp [spotX]; omega, by simp [spotX]; omega, by simp [spotX], by simp [spotX], by simp [spotX], fun _ => ⟨hv.1, hv.2⟩, by simp [spotX], by simp [spotX], by simp [spotX]⟩
  have hg2 := good_with hg hx hn
  refine ⟨errOf_good hg2, Bool.eq_iff_iff.2 ?_⟩
  rw [fitsB_iff hg2, inB_iff]
  have hsay : ∀ y, Says s.iv 0 (spotX a v) y ↔ y a - y 8 = v := fun y => by simp [Says, spotX, nlo, nhi, othN]; omega
  constructor
  · rintro ⟨y, hy⟩
    obtain ⟨h1, h2⟩ := truth_with.1 hy
    rw [hsay] at h2
    have hs := (open_sol h y).2 h1
    have := hs a 8 (by omega) (by omega)
    have := hs 8 a (by omega) (by omega)
    omega
  · rintro ⟨h1, h2⟩
    obtain ⟨y, hy, e⟩ := (openM_fine h).closed.between (i := 8) (k := a) (by omega) (by omega) h1 h2
    exact ⟨y, truth_with.2 ⟨(open_sol h y).1 hy, (hsay y).2 e⟩⟩
theorem slope_fits {s : ShR} (h : openE s = 0) {a b : Nat} (ha : a < s.pts.length) (hb : b < s.pts.length) (hab : a ≠ b) (hn : s.notes.length < 12) {v : Int} (hv : -9000 ≤ v ∧ v ≤ 9000) :
    errOf (withS s (slopeX a b v)) = 0 ∧ fitsB (withS s (slopeX a b v)) = inB v (- openM s a b) (openM s b a) := by
  have hg := good_of_open h
  have hl := hg.plen
  have hx : NoteOK s.pts.length s.iv (slopeX a b v) := ⟨by simp [slopeX], by simp [slopeX]; omega, by simp [slopeX]; omega, by simp [slopeX]; omega, by simp [slopeX], by simp [slopeX], by simp [slopeX], by simp [slopeX], by simp [slopeX], fun _ => ⟨hv.1, hv.2⟩⟩
  have hg2 := good_with hg hx hn
  refine ⟨errOf_good hg2, Bool.eq_iff_iff.2 ?_⟩
  rw [fitsB_iff hg2, inB_iff]
  have hsay : ∀ y, Says s.iv 0 (slopeX a b v) y ↔ y a - y b = v := fun y => by simp [Says, slopeX, nlo, nhi, othN]; omega
  constructor
  · rintro ⟨y, hy⟩
    obtain ⟨h1, h2⟩ := truth_with.1 hy
    rw [hsay] at h2
    have hs := (open_sol h y).2 h1
    have := hs a b (by omega) (by omega)
    have := hs b a (by omega) (by omega)
    omega
  · rintro ⟨h1, h2⟩
    obtain ⟨y, hy, e⟩ := (openM_fine h).closed.between (i := b) (k := a) (by omega) (by omega) h1 h2
    exact ⟨y, truth_with.2 ⟨(open_sol h y).1 hy, (hsay y).2 e⟩⟩
theorem ends_spot {s : ShR} (h : openE s = 0) {a : Nat} (ha : a < 8) : (0 ≤ - openM s a 8 ∧ - openM s a 8 ≤ 9000) ∧ 0 ≤ openM s 8 a ∧ openM s 8 a ≤ 9000 := by
  have hf := openM_fine h
  obtain ⟨y, hy, _⟩ := hf.closed.reach (i := 8) (k := a) (by omega) (by omega)
  have k1 : openM s a 8 ≤ freeM a 8 := closed_le hf.closed (fun y hy => ((open_sol h y).1 hy).1) (by omega) (by omega)
  have k2 := hf.closed.lo (i := 8) (k := a) (by omega) (by omega)
  have k3 := hf.le 8 a (by omega) (by omega)
  unfold freeM at k1
  rw [if_pos (.inr rfl)] at k1
  omega
theorem ends_slope {s : ShR} (h : openE s = 0) {a b : Nat} (ha : a < 9) (hb : b < 9) : (-9000 ≤ - openM s a b ∧ - openM s a b ≤ 9000) ∧ -9000 ≤ openM s b a ∧ openM s b a ≤ 9000 := by
  have hf := openM_fine h
  have k1 := hf.le a b ha hb
  have k2 := hf.le b a hb ha
  have k3 := hf.ge ha hb
  have k4 := hf.ge hb ha
  omega

/-! ### some of the notes -/
theorem inR_iff {n : Nat} : ∀ {l : List Int} {i : Nat}, InR n i l ↔ l.Pairwise (· < ·) ∧ ∀ x ∈ l, (i : Int) ≤ x ∧ x < n := by
  intro l
  induction l with
  | nil => intro i; simp [InR]
  | cons y l ih =>
    intro i
    rw [List.pairwise_cons]
    show ((i : Int) ≤ y ∧ y < n ∧ InR n (y.toNat + 1) l) ↔ _
    rw [ih]
    constructor
    · rintro ⟨h1, h2, h3, h4⟩
      refine ⟨⟨fun z hz => by have := (h4 z hz).1; omega, h3⟩, fun x hx => ?_⟩
      rcases List.mem_cons.1 hx with rfl | hx
      · exact ⟨h1, h2⟩
      · have := h4 x hx; omega
    · rintro ⟨⟨h1, h2⟩, h3⟩
      have hy := h3 y (by simp)
      exact ⟨hy.1, hy.2, h2, fun x hx => by have := h1 x hx; have := h3 x (by simp [hx]); omega⟩
theorem InR.sub {n : Nat} {l m : List Int} (h : InR n 0 l) (hm : m.Sublist l) : InR n 0 m := by
  rw [inR_iff] at *
  exact ⟨h.1.sublist hm, fun x hx => h.2 x (hm.subset hx)⟩
theorem InR.asc {n : Nat} {l : List Int} (h : InR n 0 l) : ascB l n = true := by
  rw [inR_iff] at h
  refine ascB_yes fun k hk => ?_
  have h1 := h.2 _ (getD_mem hk 0)
  unfold okI
  have h2 : 0 < k → l.getD (k - 1) 0 < l.getD k 0 := fun hp => by
    have := List.pairwise_iff_getElem.1 h.1 (k - 1) k (by omega) hk (by omega)
    rwa [getD_at hk, getD_at (by omega : k - 1 < l.length)]
  have h3 : (decide (0 < k) && decide (l.getD k 0 ≤ l.getD (k - 1) 0)) = false := by
    by_cases hp : 0 < k
    · have := h2 hp
      rw [decide_eq_false (by omega : ¬ l.getD k 0 ≤ l.getD (k - 1) 0), Bool.and_false]
    · rw [decide_eq_false hp, Bool.false_and]
  rw [h3, decide_eq_false (by omega : ¬ l.getD k 0 < 0), decide_eq_false (by omega : ¬ (n : Int) ≤ l.getD k 0)]
  rfl
theorem bitsL_mem {x : Int} : ∀ {k : Nat}, ∀ j ∈ bitsL x k, 0 ≤ j ∧ j < (k : Int) := by
  intro k
  induction k with
  | zero => intro j hj; cases hj
  | succ k ih =>
    intro j hj
    unfold bitsL at hj
    split at hj
    · rcases List.mem_append.1 hj with h | h
      · have := ih j h; omega
      · rw [List.mem_singleton] at h; omega
    · have := ih j hj; omega
theorem bitsL_inR (x : Int) (n : Nat) : InR n 0 (bitsL x n) := by
  rw [inR_iff]
  refine ⟨?_, fun j hj => by have := bitsL_mem j hj; omega⟩
  induction n with
  | zero => exact List.Pairwise.nil
  | succ k ih =>
    unfold bitsL
    split
    · rw [List.pairwise_append]
      refine ⟨ih, by simp, fun a ha b hb => ?_⟩
      have := bitsL_mem a ha
      rw [List.mem_singleton] at hb
      omega
    · exact ih
def idxL (n : Nat) : List Int := (List.range n).map fun i : Nat => (i : Int)
theorem idxL_inR (n : Nat) : InR n 0 (idxL n) := by
  rw [inR_iff]
  unfold idxL
  refine ⟨List.pairwise_iff_getElem.2 fun i j hi hj hij => ?_, fun x hx => ?_⟩
  · simp; omega
  · obtain ⟨i, hi, rfl⟩ := List.mem_map.1 hx
    have := List.mem_range.1 hi
    omega
theorem mem_idxL {n : Nat} {j : Nat} : (j : Int) ∈ idxL n ↔ j < n := by
  unfold idxL
  rw [List.mem_map]
  constructor
  · rintro ⟨i, hi, e⟩
    have := List.mem_range.1 hi
    omega
  · intro h
    exact ⟨j, List.mem_range.2 h, rfl⟩
/-- the notes of a list, or all others -/
def someL (s : ShR) (l : List Int) (b : Bool) : Nat → List NoteR
  | 0 => []
  | k + 1 => if decide ((k : Int) ∈ l) = b then someL s l b k ++ [s.notes.getD k default] else someL s l b k
def someS (s : ShR) (l : List Int) (b : Bool) : ShR := withN s (someL s l b s.notes.length)
theorem someL_len (s : ShR) (l : List Int) (b : Bool) (k : Nat) : (someL s l b k).length ≤ k := by
  induction k with
  | zero => exact Nat.le_refl _
  | succ k ih =>
    unfold someL
    split
    · simp; omega
    · omega
theorem mem_someL {s : ShR} {l : List Int} {b : Bool} {k : Nat} {x : NoteR} : x ∈ someL s l b k ↔ ∃ j, j < k ∧ decide ((j : Int) ∈ l) = b ∧ x = s.notes.getD j default := by
  induction k with
  | zero => simp [someL]
  | succ k ih =>
    unfold someL
    constructor
    · intro h
      split at h
      · rename_i hk
        rcases List.mem_append.1 h with h | h
        · obtain ⟨j, h1, h2⟩ := ih.1 h
          exact ⟨j, by omega, h2⟩
        · rw [List.mem_singleton] at h
          exact ⟨k, by omega, hk, h⟩
      · obtain ⟨j, h1, h2⟩ := ih.1 h
        exact ⟨j, by omega, h2⟩
    · rintro ⟨j, h1, h2, h3⟩
      by_cases e : j = k
      · subst e
        rw [if_pos h2]
        simp [h3]
      · have := ih.2 ⟨j, by omega, h2, h3⟩
        split
        · exact List.mem_append_left _ this
        · exact this
theorem good_some {s : ShR} (hg : Good s) (l : List Int) (b : Bool) : Good (someS s l b) :=
  hg.notes_ (fun x hx => by
    obtain ⟨j, h1, _, rfl⟩ := mem_someL.1 hx
    exact hg.notes _ (getD_mem h1 _)) (by have := someL_len s l b s.notes.length; have := hg.nlen; omega)
theorem truth_some {s : ShR} {l : List Int} {b : Bool} {y : Nat → Int} : TruthOf (someS s l b) 0 y ↔ Sol 9 freeM y ∧ ∀ j : Nat, j < s.notes.length → decide ((j : Int) ∈ l) = b → SaysAt s j y := by
  unfold someS
  rw [TruthOf.notes]
  refine and_congr_right fun _ => ⟨fun h j h1 h2 => ?_, fun h x hx => ?_⟩
  · have := h (s.notes.getD j default) (mem_someL.2 ⟨j, h1, h2, rfl⟩)
    unfold SaysAt
    simpa using this
  · obtain ⟨j, h1, h2, rfl⟩ := mem_someL.1 hx
    have := h j h1 h2
    unfold SaysAt at this
    simpa using this
theorem fits_in {s : ShR} (hg : Good s) {l : List Int} (hl : InR s.notes.length 0 l) : fitsB (someS s l true) = true ↔ ¬ BadL s l := by
  rw [fitsB_iff (good_some hg l true)]
  unfold BadL
  rw [Classical.not_forall]
  refine exists_congr fun y => ?_
  rw [truth_some, Classical.not_not]
  refine and_congr_right fun _ => ⟨fun h j hj => ?_, fun h j h1 h2 => ?_⟩
  · obtain ⟨h1, h2⟩ := hl.mem j hj
    have := h j.toNat (by omega)
    rw [show ((j.toNat : Nat) : Int) = j by omega] at this
    exact this (by simpa using hj)
  · exact h j (by simpa using h2)
theorem fits_out {s : ShR} (hg : Good s) {l : List Int} : fitsB (someS s l false) = true ↔ GoodW s l := by
  rw [fitsB_iff (good_some hg l false)]
  unfold GoodW
  refine exists_congr fun y => ?_
  rw [truth_some]
  refine and_congr_right fun _ => ⟨fun h j h1 h2 => h j h1 (by simpa using h2), fun h j h1 h2 => h j h1 (by simpa using h2)⟩
theorem truth_idx {s : ShR} {y : Nat → Int} : TruthOf s 0 y ↔ Sol 9 freeM y ∧ ∀ j : Nat, j < s.notes.length → SaysAt s j y := by
  unfold TruthOf
  refine and_congr_right fun _ => ⟨fun h j h1 => ?_, fun h x hx => ?_⟩
  · have := h _ (getD_mem h1 default)
    unfold SaysAt
    simpa using this
  · obtain ⟨j, hj, rfl⟩ := List.getElem_of_mem hx
    have := h j hj
    unfold SaysAt at this
    rw [show (j : Int).toNat = j by omega, getD_at hj] at this
    exact this
theorem bad_all {s : ShR} (hg : Good s) (h : fitsB s = false) : BadL s (idxL s.notes.length) := fun y hy => by
  have : fitsB s = true := (fitsB_iff hg).2 ⟨y, truth_idx.2 ⟨hy.1, fun j hj => hy.2 j (mem_idxL.2 hj)⟩⟩
  rw [h] at this
  cases this
theorem goodW_all (s : ShR) : GoodW s (idxL s.notes.length) := by
  obtain ⟨y, hy, _⟩ := free_fine.closed.reach (i := 0) (k := 0) (by omega) (by omega)
  exact ⟨y, hy, fun j hj hn => absurd (mem_idxL.2 hj) hn⟩
theorem goodW_nil {s : ShR} (hg : Good s) (h : fitsB s = true) : GoodW s [] := by
  obtain ⟨y, hy⟩ := (fitsB_iff hg).1 h
  obtain ⟨h1, h2⟩ := truth_idx.1 hy
  exact ⟨y, h1, fun j hj _ => h2 j hj⟩
end Go.Proofs.YtajdgdelhlfniaaGreatDoor
