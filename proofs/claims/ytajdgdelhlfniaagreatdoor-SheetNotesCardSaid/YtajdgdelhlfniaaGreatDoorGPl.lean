/- Plain: what a search finds is the first one of the shortest lists. Plain: sheets with more or fewer notes; what truths reach. Plain: notes that say what is true of some heights. Plain: wider notes; notes that are moved; notes in another order. Plain: what has been written is read as the same sheet. Plain: what the reference computes of bounds: each pair by way of each point; it is closed just if there is a truth. -/
import Derived.Test.YtajdgdelhlfniaaGreatDoorFitL
import Derived.Test.YtajdgdelhlfniaaGreatDoorSrch5
import Derived.Test.YtajdgdelhlfniaaGreatDoorGHigh
import Derived.Test.YtajdgdelhlfniaaGreatDoorHeights
import Derived.Test.YtajdgdelhlfniaaGreatDoorGB
import Derived.Test.YtajdgdelhlfniaaGreatDoorGRdd
import Derived.Lib.SplitLaws
set_option linter.unusedSimpArgs false
set_option linter.unusedVariables false
namespace Go.Proofs.YtajdgdelhlfniaaGreatDoor

/-- ascending numbers from i on, below n -/
def InR (n : Nat) : Nat → List Int → Prop
  | _, [] => True
  | i, x :: l => (i : Int) ≤ x ∧ x < n ∧ InR n (x.toNat + 1) l
theorem InR.mem {n : Nat} : ∀ {l : List Int} {i : Nat}, InR n i l → ∀ x ∈ l, (i : Int) ≤ x ∧ x < n := by
  intro l
  induction l with
  | nil => intro i _ x hx; cases hx
  | cons y l ih =>
    intro i h x hx
    obtain ⟨h1, h2, h3⟩ := h
    rcases List.mem_cons.1 hx with rfl | hx
    · exact ⟨h1, h2⟩
    · have := ih h3 x hx; omega
theorem InR.mono {n : Nat} : ∀ {l : List Int} {i j : Nat}, InR n i l → j ≤ i → InR n j l := by
  intro l
  cases l with
  | nil => intro i j _ _; trivial
  | cons y l => intro i j h hj; obtain ⟨h1, h2, h3⟩ := h; exact ⟨by omega, h2, h3⟩
theorem InR.split {n : Nat} {l : List Int} {i : Nat} (h : InR n i l) : InR n (i + 1) l ∨ ∃ m, l = (i : Int) :: m ∧ InR n (i + 1) m := by
  cases l with
  | nil => exact .inl trivial
  | cons y l =>
    obtain ⟨h1, h2, h3⟩ := h
    by_cases e : y = i
    · subst e
      exact .inr ⟨l, rfl, by simpa using h3⟩
    · exact .inl ⟨by omega, h2, h3⟩
theorem InR.top {n : Nat} {l : List Int} (h : InR n n l) : l = [] := by
  cases l with
  | nil => rfl
  | cons y l => obtain ⟨h1, h2, _⟩ := h; omega
theorem InR.cons {n i : Nat} {l : List Int} (hi : i < n) (h : InR n (i + 1) l) : InR n i ((i : Int) :: l) := ⟨Int.le_refl _, by omega, by simpa using h⟩

/-- not later, of lists as long as each other -/
def lexLe : List Int → List Int → Prop
  | [], _ => True
  | _ :: _, [] => False
  | a :: m, b :: l => a < b ∨ (a = b ∧ lexLe m l)
/-- shorter, or as long and not later -/
def Lx (m l : List Int) : Prop := m.length < l.length ∨ (m.length = l.length ∧ lexLe m l)
theorem Lx.le {m l : List Int} (h : Lx m l) : m.length ≤ l.length := by rcases h with h | ⟨h, _⟩ <;> omega
theorem Lx.cons {m l : List Int} (h : Lx m l) (x : Int) : Lx (x :: m) (x :: l) := by
  rcases h with h | ⟨h, k⟩
  · exact .inl (by simpa using h)
  · exact .inr ⟨by simpa using h, .inr ⟨rfl, k⟩⟩
theorem Lx.nil (l : List Int) : Lx [] l := by
  cases l with
  | nil => exact .inr ⟨rfl, trivial⟩
  | cons _ _ => exact .inl (by simp)

/-- what a search among the lists that begin with cur leaves -/
def Res (Q : List Int → Prop) (n i : Nat) (cur : List Int) (st st' : Bool × List Int) : Prop :=
  (st' = st ∧ ∀ l, InR n i l → Q (cur ++ l) → st.1 = true ∧ st.2.length ≤ (cur ++ l).length) ∨
  (st'.1 = true ∧ ∃ m, st'.2 = cur ++ m ∧ InR n i m ∧ Q (cur ++ m) ∧ (st.1 = true → (cur ++ m).length < st.2.length) ∧ ∀ l, InR n i l → Q (cur ++ l) → Lx m l)
theorem Res.step {Q : List Int → Prop} {n i : Nat} {cur : List Int} {st st1 st2 : Bool × List Int} (hi : i < n) (h1 : Res Q n (i + 1) (cur ++ [(i : Int)]) st st1) (h2 : Res Q n (i + 1) cur st1 st2) : Res Q n i cur st st2 := by
  have app : ∀ l, cur ++ [(i : Int)] ++ l = cur ++ ((i : Int) :: l) := fun l => by simp
  rcases h2 with ⟨rfl, k2⟩ | ⟨e2, m, em, hm, qm, lt2, k2⟩
  · rcases h1 with ⟨rfl, k1⟩ | ⟨e1, m, em, hm, qm, lt1, k1⟩
    · refine .inl ⟨rfl, fun l hl hq => ?_⟩
      rcases hl.split with hl | ⟨l', rfl, hl'⟩
      · exact k2 l hl hq
      · have := k1 l' hl' (by rw [app]; exact hq)
        rwa [app] at this
    · refine .inr ⟨e1, (i : Int) :: m, by rw [em, app], InR.cons hi hm, by rw [← app]; exact qm, fun h => by rw [← app]; exact lt1 h, fun l hl hq => ?_⟩
      rcases hl.split with hl | ⟨l', rfl, hl'⟩
      · have := (k2 l hl hq).2
        rw [em, app] at this
        simp only [List.length_append, List.length_cons] at this
        by_cases he : m.length + 1 = l.length
        · refine .inr ⟨by simpa using he, ?_⟩
          cases l with
          | nil => simp at he
          | cons y l => obtain ⟨h1, _, _⟩ := hl; exact .inl (by omega)
        · exact .inl (by simp only [List.length_cons]; omega)
      · exact (k1 l' hl' (by rw [app]; exact hq)).cons _
  · refine .inr ⟨e2, m, em, hm.mono (by omega), qm, fun h => ?_, fun l hl hq => ?_⟩
    · rcases h1 with ⟨rfl, _⟩ | ⟨e1, m1, em1, _, _, lt1, _⟩
      · exact lt2 h
      · have a := lt2 e1
        have b := lt1 h
        rw [em1] at a
        omega
    · rcases hl.split with hl | ⟨l', rfl, hl'⟩
      · exact k2 l hl hq
      · refine .inl ?_
        rw [← app] at hq
        rcases h1 with ⟨rfl, k1⟩ | ⟨e1, m1, em1, _, _, _, k1⟩
        · obtain ⟨a, b⟩ := k1 l' hl' hq
          have c := lt2 a
          simp only [List.length_append, List.length_cons, List.length_nil] at b c ⊢
          omega
        · have a := (k1 l' hl' hq).le
          have c := lt2 e1
          rw [em1] at c
          simp only [List.length_append, List.length_cons, List.length_nil] at c ⊢
          omega

/-- what a note of a sheet says -/
def SaysAt (s : ShR) (j : Int) (y : Nat → Int) : Prop := Says s.iv 0 (s.notes.getD j.toNat default) y
/-- notes that contradict each other -/
def BadL (s : ShR) (l : List Int) : Prop := ∀ y, ¬ (Sol 9 freeM y ∧ ∀ j ∈ l, SaysAt s j y)
/-- notes without which the others do not contradict each other -/
def GoodW (s : ShR) (l : List Int) : Prop := ∃ y, Sol 9 freeM y ∧ ∀ j : Nat, j < s.notes.length → (j : Int) ∉ l → SaysAt s j y

theorem try_right {s : ShR} (hg : Good s) : ∀ (r : Nat) (b : Mat) (bad : Bool) (cur : List Int) (st : Bool × List Int), r ≤ s.notes.length →
    (bad = true → BadL s cur) → (bad = false → Fine b ∧ ∀ y, Sol 9 b y ↔ Sol 9 freeM y ∧ ∀ j ∈ cur, SaysAt s j y) → Res (BadL s) s.notes.length (s.notes.length - r) cur st (tryS s.iv s.notes false r b bad cur st) := by
  intro r
  induction r with
  | zero =>
    intro b bad cur st _ hb hf
    unfold tryS
    simp only [Bool.false_and, Bool.or_false]
    by_cases hst : (st.1 && decide (st.2.length ≤ cur.length)) = true
    · rw [if_pos hst]
      rw [Bool.and_eq_true, decide_eq_true_eq] at hst
      exact .inl ⟨rfl, fun l _ _ => ⟨hst.1, by simp; omega⟩⟩
    · rw [if_neg hst]
      cases bad with
      | true =>
        rw [if_pos rfl]
        refine .inr ⟨rfl, [], by simp, trivial, by simpa using hb rfl, fun h => ?_, fun l _ _ => Lx.nil l⟩
        simp only [h, Bool.true_and, decide_eq_true_eq] at hst
        simp
        omega
      | false =>
        rw [if_neg (by simp)]
        refine .inl ⟨rfl, fun l hl hq => ?_⟩
        rw [Nat.sub_zero] at hl
        rw [hl.top, List.append_nil] at hq
        obtain ⟨fb, hs⟩ := hf rfl
        obtain ⟨y, hy, _⟩ := fb.closed.reach (i := 0) (k := 0) (by omega) (by omega)
        exact absurd ((hs y).1 hy) (hq y)
  | succ r ih =>
    intro b bad cur st hr hb hf
    unfold tryS
    simp only [Bool.false_and, Bool.or_false, Bool.false_eq_true, if_false]
    by_cases hst : (st.1 && decide (st.2.length ≤ cur.length)) = true
    · rw [if_pos hst]
      rw [Bool.and_eq_true, decide_eq_true_eq] at hst
      exact .inl ⟨rfl, fun l _ _ => ⟨hst.1, by simp; omega⟩⟩
    · rw [if_neg hst]
      cases bad with
      | true =>
        rw [if_pos rfl]
        refine .inr ⟨rfl, [], by simp, trivial, by simpa using hb rfl, fun h => ?_, fun l _ _ => Lx.nil l⟩
        simp only [h, Bool.true_and, decide_eq_true_eq] at hst
        simp
        omega
      | false =>
        rw [if_neg (by simp)]
        obtain ⟨fb, hs⟩ := hf rfl
        have hi : s.notes.length - (r + 1) < s.notes.length := by omega
        have hx := hg.notes _ (getD_mem hi default)
        have e1 : s.notes.length - (r + 1) + 1 = s.notes.length - r := by omega
        refine Res.step hi (st1 := tryS s.iv s.notes false r (withM s.iv 0 b (s.notes.getD (s.notes.length - (r + 1)) default)).1 (!(withM s.iv 0 b (s.notes.getD (s.notes.length - (r + 1)) default)).2) (cur ++ [((s.notes.length - (r + 1) : Nat) : Int)]) st) ?_ ?_
        · rw [e1]
          refine ih _ _ _ _ (by omega) (fun h => ?_) (fun h => ⟨withM_fine hx hg.plen.2 fb, fun y => ?_⟩)
          · intro y hy
            refine withM_no hx hg.plen.2 fb (by simpa using h) y ⟨(hs y).2 ⟨hy.1, fun j hj => hy.2 j (by simp [hj])⟩, ?_⟩
            exact hy.2 ((s.notes.length - (r + 1) : Nat) : Int) (by simp)
          · rw [withM_sol hx hg.plen.2 fb (by simpa using h) y, hs y]
            constructor
            · rintro ⟨⟨h1, h2⟩, h3⟩
              refine ⟨h1, fun j hj => ?_⟩
              rcases List.mem_append.1 hj with hj | hj
              · exact h2 j hj
              · rw [List.mem_singleton] at hj
                subst hj
                exact h3
            · rintro ⟨h1, h2⟩
              exact ⟨⟨h1, fun j hj => h2 j (by simp [hj])⟩, h2 ((s.notes.length - (r + 1) : Nat) : Int) (by simp)⟩
        · rw [e1]
          exact ih _ _ _ _ (by omega) (fun h => by cases h) (fun _ => ⟨fb, hs⟩)
theorem try_left {s : ShR} (hg : Good s) : ∀ (r : Nat) (b : Mat) (bad : Bool) (cur : List Int) (st : Bool × List Int), r ≤ s.notes.length → (∀ j ∈ cur, j < ((s.notes.length - r : Nat) : Int)) →
    (bad = true → ∀ y, ¬ (Sol 9 freeM y ∧ ∀ j : Nat, j < s.notes.length - r → (j : Int) ∉ cur → SaysAt s j y)) → (bad = false → Fine b ∧ ∀ y, Sol 9 b y ↔ Sol 9 freeM y ∧ ∀ j : Nat, j < s.notes.length - r → (j : Int) ∉ cur → SaysAt s j y) →
    Res (GoodW s) s.notes.length (s.notes.length - r) cur st (tryS s.iv s.notes true r b bad cur st) := by
  intro r
  induction r with
  | zero =>
    intro b bad cur st _ hcur hb hf
    unfold tryS
    simp only [Bool.true_and]
    rw [Nat.sub_zero] at *
    by_cases hst : (st.1 && decide (st.2.length ≤ cur.length)) = true
    · rw [if_pos (by rw [hst]; rfl)]
      rw [Bool.and_eq_true, decide_eq_true_eq] at hst
      exact .inl ⟨rfl, fun l _ _ => ⟨hst.1, by simp; omega⟩⟩
    · cases bad with
      | true =>
        rw [if_pos (by simp)]
        refine .inl ⟨rfl, fun l hl hq => ?_⟩
        rw [hl.top, List.append_nil] at hq
        obtain ⟨y, hy⟩ := hq
        exact absurd hy (hb rfl y)
      | false =>
        rw [if_neg (by simpa using hst), if_pos (by simp)]
        obtain ⟨fb, hs⟩ := hf rfl
        obtain ⟨y, hy, _⟩ := fb.closed.reach (i := 0) (k := 0) (by omega) (by omega)
        refine .inr ⟨rfl, [], by simp, trivial, ⟨y, by simpa using (hs y).1 hy⟩, fun h => ?_, fun l _ _ => Lx.nil l⟩
        simp only [h, Bool.true_and, decide_eq_true_eq] at hst
        simp
        omega
  | succ r ih =>
    intro b bad cur st hr hcur hb hf
    unfold tryS
    simp only [Bool.true_and]
    by_cases hst : (st.1 && decide (st.2.length ≤ cur.length)) = true
    · rw [if_pos (by rw [hst]; rfl)]
      rw [Bool.and_eq_true, decide_eq_true_eq] at hst
      exact .inl ⟨rfl, fun l _ _ => ⟨hst.1, by simp; omega⟩⟩
    · cases bad with
      | true =>
        rw [if_pos (by simp)]
        refine .inl ⟨rfl, fun l hl hq => ?_⟩
        obtain ⟨y, hy, hn⟩ := hq
        refine absurd ⟨hy, fun j hj hjc => hn j (by omega) fun hm => ?_⟩ (hb rfl y)
        rcases List.mem_append.1 hm with h | h
        · exact hjc h
        · have := (hl.mem _ h).1; omega
      | false =>
        rw [if_neg (by simpa using hst), if_neg (by simp), if_pos trivial]
        obtain ⟨fb, hs⟩ := hf rfl
        have hi : s.notes.length - (r + 1) < s.notes.length := by omega
        have hx := hg.notes _ (getD_mem hi default)
        have e1 : s.notes.length - (r + 1) + 1 = s.notes.length - r := by omega
        have hni : ((s.notes.length - (r + 1) : Nat) : Int) ∉ cur := fun h => by have := hcur _ h; omega
        refine Res.step hi (st1 := tryS s.iv s.notes true r b false (cur ++ [((s.notes.length - (r + 1) : Nat) : Int)]) st) ?_ ?_
        · rw [e1]
          refine ih _ _ _ _ (by omega) (fun j hj => ?_) (fun h => by cases h) (fun _ => ⟨fb, fun y => ?_⟩)
          · rcases List.mem_append.1 hj with hj | hj
            · have := hcur j hj; omega
            · rw [List.mem_singleton] at hj; omega
          · rw [hs y]
            refine and_congr_right fun _ => ⟨fun h j hj hjc => ?_, fun h j hj hjc => ?_⟩
            · by_cases e : j = s.notes.length - (r + 1)
              · subst e; simp at hjc
              · exact h j (by omega) fun hm => hjc (by simp [hm])
            · refine h j (by omega) fun hm => ?_
              rcases List.mem_append.1 hm with hm | hm
              · exact hjc hm
              · rw [List.mem_singleton] at hm; omega
        · rw [e1]
          refine ih _ _ _ _ (by omega) (fun j hj => by have := hcur j hj; omega) (fun h y hy => ?_) (fun h => ⟨withM_fine hx hg.plen.2 fb, fun y => ?_⟩)
          · refine withM_no hx hg.plen.2 fb (by simpa using h) y ⟨(hs y).2 ⟨hy.1, fun j hj hjc => hy.2 j (by omega) hjc⟩, ?_⟩
            exact hy.2 (s.notes.length - (r + 1)) (by omega) hni
          · rw [withM_sol hx hg.plen.2 fb (by simpa using h) y, hs y]
            constructor
            · rintro ⟨⟨h1, h2⟩, h3⟩
              refine ⟨h1, fun j hj hjc => ?_⟩
              by_cases e : j = s.notes.length - (r + 1)
              · subst e; exact h3
              · exact h2 j (by omega) hjc
            · rintro ⟨h1, h2⟩
              exact ⟨⟨h1, fun j hj hjc => h2 j (by omega) hjc⟩, h2 (s.notes.length - (r + 1)) (by omega) hni⟩
/-- what is found: the first one of the shortest -/
structure Least (Q : List Int → Prop) (n : Nat) (m : List Int) : Prop where
  inr : InR n 0 m
  ok : Q m
  least : ∀ l, InR n 0 l → Q l → Lx m l
theorem search_right {s : ShR} (hg : Good s) {l : List Int} (hl : InR s.notes.length 0 l) (hb : BadL s l) : Least (BadL s) s.notes.length (searchF s false) := by
  have h := try_right hg s.notes.length freeM false [] (false, []) (Nat.le_refl _) (fun h => by cases h) (fun _ => ⟨free_fine, fun y => by simp⟩)
  rw [Nat.sub_self] at h
  rcases h with ⟨_, k⟩ | ⟨_, m, em, hm, qm, _, k⟩
  · have := (k l hl (by simpa using hb)).1
    cases this
  · have e : searchF s false = m := by unfold searchF; rw [em]; rfl
    rw [e]
    exact ⟨hm, by simpa using qm, fun l hl hq => k l hl (by simpa using hq)⟩
theorem search_left {s : ShR} (hg : Good s) {l : List Int} (hl : InR s.notes.length 0 l) (hb : GoodW s l) : Least (GoodW s) s.notes.length (searchF s true) := by
  have h := try_left hg s.notes.length freeM false [] (false, []) (Nat.le_refl _) (fun j h => by cases h) (fun h => by cases h) (fun _ => ⟨free_fine, fun y => by simp⟩)
  rw [Nat.sub_self] at h
  rcases h with ⟨_, k⟩ | ⟨_, m, em, hm, qm, _, k⟩
  · have := (k l hl (by simpa using hb)).1
    cases this
  · have e : searchF s true = m := by unfold searchF; rw [em]; rfl
    rw [e]
    exact ⟨hm, by simpa using qm, fun l hl hq => k l hl (by simpa using hq)⟩
end Go.Proofs.YtajdgdelhlfniaaGreatDoor
namespace Go.Proofs.YtajdgdelhlfniaaGreatDoor

def withN (s : ShR) (l : List NoteR) : ShR := { s with notes := l }
theorem Good.notes_ {s : ShR} (h : Good s) {l : List NoteR} (hl : ∀ x ∈ l, NoteOK s.pts.length s.iv x) (hn : l.length ≤ 12) : Good (withN s l) :=
  ⟨h.iv, h.plen, h.names, h.fresh, hn, hl⟩
theorem Closed.between {b : Mat} (h : Closed 9 b) {i k : Nat} (hi : i < 9) (hk : k < 9) {v : Int} (h1 : - b k i ≤ v) (h2 : v ≤ b i k) : ∃ y, Sol 9 b y ∧ y k - y i = v := by
  have hc := h.bind (f := k) (t := i) (m := -v) hk hi (by omega)
  refine ⟨fun j => bindM k i (-v) b k j, ((bind_sol h hk hi).1 (hc.row hk)).1, ?_⟩
  have d := hc.diag k hk
  have e : bindM k i (-v) b k i = -v := by
    have := h.diag i hi
    have := h.diag k hk
    unfold bindM
    omega
  show bindM k i (-v) b k k - bindM k i (-v) b k i = v
  omega
theorem fitsB_iff {s : ShR} (hg : Good s) : fitsB s = true ↔ ∃ y, TruthOf s 0 y := by
  rw [← fit_iff hg 0]
  unfold fitsB
  rw [decide_eq_true_iff, openE_ok (valid_of_good hg)]
  cases (boundsF s 0).2 <;> simp
theorem errOf_good {s : ShR} (hg : Good s) : errOf s = 0 := valid_of_good hg
theorem openE_fit {s : ShR} (hg : Good s) (h : ∃ y, TruthOf s 0 y) : openE s = 0 := by
  have := (fitsB_iff hg).2 h
  unfold fitsB at this
  exact of_decide_eq_true this
theorem openE_two {s : ShR} (hg : Good s) : (openE s = 0 ∧ ∃ y, TruthOf s 0 y) ∨ (openE s = 9 ∧ ¬ ∃ y, TruthOf s 0 y) := by
  rw [← fit_iff hg 0, openE_ok (errOf_good hg)]
  cases (boundsF s 0).2 <;> simp
theorem open_bounds {s : ShR} (h : openE s = 0) : openM s = (boundsF s 0).1 ∧ (boundsF s 0).2 = true := by
  have hg := good_of_open h
  rw [openE_ok (errOf_good hg)] at h
  refine ⟨by unfold openM; rw [if_neg (by simp [errOf_good hg])], ?_⟩
  cases hb : (boundsF s 0).2 with
  | true => rfl
  | false => rw [hb] at h; simp at h
theorem open_sol {s : ShR} (h : openE s = 0) (y : Nat → Int) : Sol 9 (openM s) y ↔ TruthOf s 0 y := by
  obtain ⟨e, hb⟩ := open_bounds h
  rw [e]
  exact bounds_sol (good_of_open h) hb y
theorem topM_sol {m : Mat} (hm : Fine m) {p : Nat} (hp : p < 9) : ∀ k, k ≤ 9 → ((topM m p k).2 = true → ∀ y, Sol 9 (topM m p k).1 y ↔ Sol 9 m y ∧ ∀ q, q < k → y q ≤ y p) ∧ ((topM m p k).2 = false → ∀ y, ¬ (Sol 9 m y ∧ ∀ q, q < k → y q ≤ y p)) := by
  intro k
  induction k with
  | zero => intro _; exact ⟨fun _ y => ⟨fun h => ⟨h, fun q hq => by omega⟩, fun h => h.1⟩, fun h => by cases h⟩
  | succ k ih =>
    intro hk
    obtain ⟨i1, i2⟩ := ih (by omega)
    cases h : (topM m p k).2 with
    | true =>
      rw [topM_yes h]
      have hs := i1 h
      refine ⟨fun h2 y => ?_, fun h2 y hy => ?_⟩
      · show Sol 9 (bindR p k 0 (topM m p k).1) y ↔ _
        rw [bindR_sol (topM_fine hm hp k (by omega)) hp (by omega) h2 y, hs y]
        constructor
        · rintro ⟨⟨a, b⟩, c⟩
          refine ⟨a, fun q hq => ?_⟩
          by_cases e : q = k
          · subst e; omega
          · exact b q (by omega)
        · rintro ⟨a, b⟩
          exact ⟨⟨a, fun q hq => b q (by omega)⟩, by have := b k (by omega); omega⟩
      · refine bindB_no hp (by omega : k < 9) h2 y ⟨(hs y).2 ⟨hy.1, fun q hq => hy.2 q (by omega)⟩, ?_⟩
        have := hy.2 k (by omega)
        omega
    | false =>
      rw [topM_no h]
      exact ⟨fun h2 => (by cases h2), fun _ y hy => i2 h y ⟨hy.1, fun q hq => hy.2 q (by omega)⟩⟩
theorem highB_iff {m : Mat} (hm : Fine m) {n p : Nat} (hn : n ≤ 8) (hp : p < 9) : highB m n p = true ↔ ∃ y, Sol 9 m y ∧ ∀ q, q < n → y q ≤ y p := by
  obtain ⟨h1, h2⟩ := topM_sol hm hp n (by omega)
  unfold highB
  constructor
  · intro h
    obtain ⟨y, hy, _⟩ := (topM_fine hm hp n (by omega)).closed.reach (i := 0) (k := 0) (by omega) (by omega)
    exact ⟨y, (h1 h y).1 hy⟩
  · rintro ⟨y, hy⟩
    cases h : (topM m p n).2 with
    | true => rfl
    | false => exact absurd hy (h2 h y)
theorem mem_highL {m : Mat} {n k : Nat} {x : Int} : x ∈ highL m n k ↔ ∃ p : Nat, p < k ∧ highB m n p = true ∧ x = (p : Int) := by
  unfold highL
  simp only [List.mem_map, List.mem_filter, List.mem_range]
  exact ⟨fun ⟨p, ⟨h1, h2⟩, h3⟩ => ⟨p, h1, h2, h3.symm⟩, fun ⟨p, h1, h2, h3⟩ => ⟨p, ⟨h1, h2⟩, h3.symm⟩⟩
theorem mem_highest {s : ShR} (h : openE s = 0) {x : Int} : x ∈ highestF s ↔ ∃ p : Nat, p < s.pts.length ∧ x = (p : Int) ∧ ∃ y, TruthOf s 0 y ∧ ∀ q, q < s.pts.length → y q ≤ y p := by
  have hg := good_of_open h
  unfold highestF
  rw [if_neg (by simp [h]), mem_highL]
  have hl := hg.plen
  constructor
  · rintro ⟨p, h1, h2, h3⟩
    obtain ⟨y, hy, hq⟩ := (highB_iff (openM_fine h) hl.2 (by omega)).1 h2
    exact ⟨p, h1, h3, y, (open_sol h y).1 hy, hq⟩
  · rintro ⟨p, h1, h3, y, hy, hq⟩
    exact ⟨p, h1, (highB_iff (openM_fine h) hl.2 (by omega)).2 ⟨y, (open_sol h y).2 hy, hq⟩, h3⟩

/-! ### a note more -/
theorem TruthOf.notes {s : ShR} {l : List NoteR} {wd : Int} {y : Nat → Int} : TruthOf (withN s l) wd y ↔ Sol 9 freeM y ∧ ∀ x ∈ l, Says s.iv wd x y := Iff.rfl
def withS (s : ShR) (x : NoteR) : ShR := withN s (s.notes ++ [x])
theorem truth_with {s : ShR} {x : NoteR} {wd : Int} {y : Nat → Int} : TruthOf (withS s x) wd y ↔ TruthOf s wd y ∧ Says s.iv wd x y := by
  unfold withS
  rw [TruthOf.notes]
  unfold TruthOf
  simp only [List.mem_append, List.mem_singleton]
  constructor
  · rintro ⟨h1, h2⟩
    exact ⟨⟨h1, fun z hz => h2 z (.inl hz)⟩, h2 x (.inr rfl)⟩
  · rintro ⟨⟨h1, h2⟩, h3⟩
    refine ⟨h1, fun z hz => ?_⟩
    rcases hz with hz | rfl
    · exact h2 z hz
    · exact h3
theorem good_with {s : ShR} (hg : Good s) {x : NoteR} (hx : NoteOK s.pts.length s.iv x) (hn : s.notes.length < 12) : Good (withS s x) :=
  hg.notes_ (fun z hz => by
    rcases List.mem_append.1 hz with hz | hz
    · exact hg.notes z hz
    · rw [List.mem_singleton] at hz; subst hz; exact hx) (by simp; omega)
theorem good_less {s : ShR} {x : NoteR} (hg : Good (withS s x)) : Good s :=
  ⟨hg.iv, hg.plen, hg.names, hg.fresh, by have := hg.nlen; unfold withS withN at this; simp at this; omega, fun z hz => hg.notes z (by unfold withS withN; simp [hz])⟩
/-- with one more note no bound is wider -/
theorem more_le {s : ShR} {x : NoteR} (hs : openE s = 0) (ht : openE (withS s x) = 0) {i k : Nat} (hi : i < 9) (hk : k < 9) : openM (withS s x) i k ≤ openM s i k :=
  closed_le (openM_fine ht).closed (fun y hy => (open_sol hs y).2 (truth_with.1 ((open_sol ht y).1 hy)).1) hi hk
theorem more_open {s : ShR} {x : NoteR} (ht : openE (withS s x) = 0) : openE s = 0 := by
  have hg := good_of_open ht
  rcases openE_two hg with ⟨_, y, hy⟩ | ⟨h, _⟩
  · exact openE_fit (good_less hg) ⟨y, (truth_with.1 hy).1⟩
  · rw [ht] at h; cases h
theorem more_high {s : ShR} {x : NoteR} (ht : openE (withS s x) = 0) {p : Int} (h : p ∈ highestF (withS s x)) : p ∈ highestF s := by
  obtain ⟨q, h1, h2, y, hy, h3⟩ := (mem_highest ht).1 h
  exact (mem_highest (more_open ht)).2 ⟨q, h1, h2, y, (truth_with.1 hy).1, h3⟩

/-! ### an exact note -/
def spotX (a : Nat) (v : Int) : NoteR := ⟨1, a, 0, v, v⟩
def slopeX (a b : Nat) (v : Int) : NoteR := ⟨4, a, b, v, v⟩
theorem spot_fits {s : ShR} (h : openE s = 0) {a : Nat} (ha : a < s.pts.length) (hn : s.notes.length < 12) {v : Int} (hv : 0 ≤ v ∧ v ≤ 9000) :
    errOf (withS s (spotX a v)) = 0 ∧ fitsB (withS s (spotX a v)) = inB v (- openM s a 8) (openM s 8 a) := by
  have hg := good_of_open h
  have hl := hg.plen
  have hx : NoteOK s.pts.length s.iv (spotX a v) := ⟨by simp [spotX], by simp [spotX]; omega, by simp [spotX]; omega, by simp [spotX], by simp [spotX], by simp [spotX], fun _ => ⟨hv.1, hv.2⟩, by simp [spotX], by simp [spotX], by simp [spotX]⟩
  have hg2 := good_with hg hx hn
  refine ⟨errOf_good hg2, Bool.eq_iff_iff.2 ?_⟩
  rw [fitsB_iff hg2, inB_iff]
  have hsay : ∀ y, Says s.iv 0 (spotX a v) y ↔ y a - y 8 = v := fun y => by simp [Says, spotX, nlo, nhi, othN]; omega
  constructor
  · rintro ⟨y, hy⟩
    obtain ⟨h1, h2⟩ := truth_with.1 hy
    rw [hsay] at h2
    have hs := (open_sol h y).2 h1
    have := hs a 8 (by omega) (by omega)
    have := hs 8 a (by omega) (by omega)
    omega
  · rintro ⟨h1, h2⟩
    obtain ⟨y, hy, e⟩ := (openM_fine h).closed.between (i := 8) (k := a) (by omega) (by omega) h1 h2
    exact ⟨y, truth_with.2 ⟨(open_sol h y).1 hy, (hsay y).2 e⟩⟩
theorem slope_fits {s : ShR} (h : openE s = 0) {a b : Nat} (ha : a < s.pts.length) (hb : b < s.pts.length) (hab : a ≠ b) (hn : s.notes.length < 12) {v : Int} (hv : -9000 ≤ v ∧ v ≤ 9000) :
    errOf (withS s (slopeX a b v)) = 0 ∧ fitsB (withS s (slopeX a b v)) = inB v (- openM s a b) (openM s b a) := by
  have hg := good_of_open h
  have hl := hg.plen
  have hx : NoteOK s.pts.length s.iv (slopeX a b v) := ⟨by simp [slopeX], by simp [slopeX]; omega, by simp [slopeX]; omega, by simp [slopeX]; omega, by simp [slopeX], by simp [slopeX], by simp [slopeX], by simp [slopeX], by simp [slopeX], fun _ => ⟨hv.1, hv.2⟩⟩
  have hg2 := good_with hg hx hn
  refine ⟨errOf_good hg2, Bool.eq_iff_iff.2 ?_⟩
  rw [fitsB_iff hg2, inB_iff]
  have hsay : ∀ y, Says s.iv 0 (slopeX a b v) y ↔ y a - y b = v := fun y => by simp [Says, slopeX, nlo, nhi, othN]; omega
  constructor
  · rintro ⟨y, hy⟩
    obtain ⟨h1, h2⟩ := truth_with.1 hy
    rw [hsay] at h2
    have hs := (open_sol h y).2 h1
    have := hs a b (by omega) (by omega)
    have := hs b a (by omega) (by omega)
    omega
  · rintro ⟨h1, h2⟩
    obtain ⟨y, hy, e⟩ := (openM_fine h).closed.between (i := b) (k := a) (by omega) (by omega) h1 h2
    exact ⟨y, truth_with.2 ⟨(open_sol h y).1 hy, (hsay y).2 e⟩⟩
theorem ends_spot {s : ShR} (h : openE s = 0) {a : Nat} (ha : a < 8) : (0 ≤ - openM s a 8 ∧ - openM s a 8 ≤ 9000) ∧ 0 ≤ openM s 8 a ∧ openM s 8 a ≤ 9000 := by
  have hf := openM_fine h
  obtain ⟨y, hy, _⟩ := hf.closed.reach (i := 8) (k := a) (by omega) (by omega)
  have k1 : openM s a 8 ≤ freeM a 8 := closed_le hf.closed (fun y hy => ((open_sol h y).1 hy).1) (by omega) (by omega)
  have k2 := hf.closed.lo (i := 8) (k := a) (by omega) (by omega)
  have k3 := hf.le 8 a (by omega) (by omega)
  unfold freeM at k1
  rw [if_pos (.inr rfl)] at k1
  omega
theorem ends_slope {s : ShR} (h : openE s = 0) {a b : Nat} (ha : a < 9) (hb : b < 9) : (-9000 ≤ - openM s a b ∧ - openM s a b ≤ 9000) ∧ -9000 ≤ openM s b a ∧ openM s b a ≤ 9000 := by
  have hf := openM_fine h
  have k1 := hf.le a b ha hb
  have k2 := hf.le b a hb ha
  have k3 := hf.ge ha hb
  have k4 := hf.ge hb ha
  omega

/-! ### some of the notes -/
theorem inR_iff {n : Nat} : ∀ {l : List Int} {i : Nat}, InR n i l ↔ l.Pairwise (· < ·) ∧ ∀ x ∈ l, (i : Int) ≤ x ∧ x < n := by
  intro l
  induction l with
  | nil => intro i; simp [InR]
  | cons y l ih =>
    intro i
    rw [List.pairwise_cons]
    show ((i : Int) ≤ y ∧ y < n ∧ InR n (y.toNat + 1) l) ↔ _
    rw [ih]
    constructor
    · rintro ⟨h1, h2, h3, h4⟩
      refine ⟨⟨fun z hz => by have := (h4 z hz).1; omega, h3⟩, fun x hx => ?_⟩
      rcases List.mem_cons.1 hx with rfl | hx
      · exact ⟨h1, h2⟩
      · have := h4 x hx; omega
    · rintro ⟨⟨h1, h2⟩, h3⟩
      have hy := h3 y (by simp)
      exact ⟨hy.1, hy.2, h2, fun x hx => by have := h1 x hx; have := h3 x (by simp [hx]); omega⟩
theorem InR.sub {n : Nat} {l m : List Int} (h : InR n 0 l) (hm : m.Sublist l) : InR n 0 m := by
  rw [inR_iff] at *
  exact ⟨h.1.sublist hm, fun x hx => h.2 x (hm.subset hx)⟩
theorem InR.asc {n : Nat} {l : List Int} (h : InR n 0 l) : ascB l n = true := by
  rw [inR_iff] at h
  refine ascB_yes fun k hk => ?_
  have h1 := h.2 _ (getD_mem hk 0)
  unfold okI
  have h2 : 0 < k → l.getD (k - 1) 0 < l.getD k 0 := fun hp => by
    have := List.pairwise_iff_getElem.1 h.1 (k - 1) k (by omega) hk (by omega)
    rwa [getD_at hk, getD_at (by omega : k - 1 < l.length)]
  have h3 : (decide (0 < k) && decide (l.getD k 0 ≤ l.getD (k - 1) 0)) = false := by
    by_cases hp : 0 < k
    · have := h2 hp
      rw [decide_eq_false (by omega : ¬ l.getD k 0 ≤ l.getD (k - 1) 0), Bool.and_false]
    · rw [decide_eq_false hp, Bool.false_and]
  rw [h3, decide_eq_false (by omega : ¬ l.getD k 0 < 0), decide_eq_false (by omega : ¬ (n : Int) ≤ l.getD k 0)]
  rfl
theorem bitsL_mem {x : Int} : ∀ {k : Nat}, ∀ j ∈ bitsL x k, 0 ≤ j ∧ j < (k : Int) := by
  intro k
  induction k with
  | zero => intro j hj; cases hj
  | succ k ih =>
    intro j hj
    unfold bitsL at hj
    split at hj
    · rcases List.mem_append.1 hj with h | h
      · have := ih j h; omega
      · rw [List.mem_singleton] at h; omega
    · have := ih j hj; omega
theorem bitsL_inR (x : Int) (n : Nat) : InR n 0 (bitsL x n) := by
  rw [inR_iff]
  refine ⟨?_, fun j hj => by have := bitsL_mem j hj; omega⟩
  induction n with
  | zero => exact List.Pairwise.nil
  | succ k ih =>
    unfold bitsL
    split
    · rw [List.pairwise_append]
      refine ⟨ih, by simp, fun a ha b hb => ?_⟩
      have := bitsL_mem a ha
      rw [List.mem_singleton] at hb
      omega
    · exact ih
def idxL (n : Nat) : List Int := (List.range n).map fun i : Nat => (i : Int)
theorem idxL_inR (n : Nat) : InR n 0 (idxL n) := by
  rw [inR_iff]
  unfold idxL
  refine ⟨List.pairwise_iff_getElem.2 fun i j hi hj hij => ?_, fun x hx => ?_⟩
  · simp; omega
  · obtain ⟨i, hi, rfl⟩ := List.mem_map.1 hx
    have := List.mem_range.1 hi
    omega
theorem mem_idxL {n : Nat} {j : Nat} : (j : Int) ∈ idxL n ↔ j < n := by
  unfold idxL
  rw [List.mem_map]
  constructor
  · rintro ⟨i, hi, e⟩
    have := List.mem_range.1 hi
    omega
  · intro h
    exact ⟨j, List.mem_range.2 h, rfl⟩
/-- the notes of a list, or all others -/
def someL (s : ShR) (l : List Int) (b : Bool) : Nat → List NoteR
  | 0 => []
  | k + 1 => if decide ((k : Int) ∈ l) = b then someL s l b k ++ [s.notes.getD k default] else someL s l b k
def someS (s : ShR) (l : List Int) (b : Bool) : ShR := withN s (someL s l b s.notes.length)
theorem someL_len (s : ShR) (l : List Int) (b : Bool) (k : Nat) : (someL s l b k).length ≤ k := by
  induction k with
  | zero => exact Nat.le_refl _
  | succ k ih =>
    unfold someL
    split
    · simp; omega
    · omega
theorem mem_someL {s : ShR} {l : List Int} {b : Bool} {k : Nat} {x : NoteR} : x ∈ someL s l b k ↔ ∃ j, j < k ∧ decide ((j : Int) ∈ l) = b ∧ x = s.notes.getD j default := by
  induction k with
  | zero => simp [someL]
  | succ k ih =>
    unfold someL
    constructor
    · intro h
      split at h
      · rename_i hk
        rcases List.mem_append.1 h with h | h
        · obtain ⟨j, h1, h2⟩ := ih.1 h
          exact ⟨j, by omega, h2⟩
        · rw [List.mem_singleton] at h
          exact ⟨k, by omega, hk, h⟩
      · obtain ⟨j, h1, h2⟩ := ih.1 h
        exact ⟨j, by omega, h2⟩
    · rintro ⟨j, h1, h2, h3⟩
      by_cases e : j = k
      · subst e
        rw [if_pos h2]
        simp [h3]
      · have := ih.2 ⟨j, by omega, h2, h3⟩
        split
        · exact List.mem_append_left _ this
        · exact this
theorem good_some {s : ShR} (hg : Good s) (l : List Int) (b : Bool) : Good (someS s l b) :=
  hg.notes_ (fun x hx => by
    obtain ⟨j, h1, _, rfl⟩ := mem_someL.1 hx
    exact hg.notes _ (getD_mem h1 _)) (by have := someL_len s l b s.notes.length; have := hg.nlen; omega)
theorem truth_some {s : ShR} {l : List Int} {b : Bool} {y : Nat → Int} : TruthOf (someS s l b) 0 y ↔ Sol 9 freeM y ∧ ∀ j : Nat, j < s.notes.length → decide ((j : Int) ∈ l) = b → SaysAt s j y := by
  unfold someS
  rw [TruthOf.notes]
  refine and_congr_right fun _ => ⟨fun h j h1 h2 => ?_, fun h x hx => ?_⟩
  · have := h (s.notes.getD j default) (mem_someL.2 ⟨j, h1, h2, rfl⟩)
    unfold SaysAt
    simpa using this
  · obtain ⟨j, h1, h2, rfl⟩ := mem_someL.1 hx
    have := h j h1 h2
    unfold SaysAt at this
    simpa using this
theorem fits_in {s : ShR} (hg : Good s) {l : List Int} (hl : InR s.notes.length 0 l) : fitsB (someS s l true) = true ↔ ¬ BadL s l := by
  rw [fitsB_iff (good_some hg l true)]
  unfold BadL
  rw [Classical.not_forall]
  refine exists_congr fun y => ?_
  rw [truth_some, Classical.not_not]
  refine and_congr_right fun _ => ⟨fun h j hj => ?_, fun h j h1 h2 => ?_⟩
  · obtain ⟨h1, h2⟩ := hl.mem j hj
    have := h j.toNat (by omega)
    rw [show ((j.toNat : Nat) : Int) = j by omega] at this
    exact this (by simpa using hj)
  · exact h j (by simpa using h2)
theorem fits_out {s : ShR} (hg : Good s) {l : List Int} : fitsB (someS s l false) = true ↔ GoodW s l := by
  rw [fitsB_iff (good_some hg l false)]
  unfold GoodW
  refine exists_congr fun y => ?_
  rw [truth_some]
  refine and_congr_right fun _ => ⟨fun h j h1 h2 => h j h1 (by simpa using h2), fun h j h1 h2 => h j h1 (by simpa using h2)⟩
theorem truth_idx {s : ShR} {y : Nat → Int} : TruthOf s 0 y ↔ Sol 9 freeM y ∧ ∀ j : Nat, j < s.notes.length → SaysAt s j y := by
  unfold TruthOf
  refine and_congr_right fun _ => ⟨fun h j h1 => ?_, fun h x hx => ?_⟩
  · have := h _ (getD_mem h1 default)
    unfold SaysAt
    simpa using this
  · obtain ⟨j, hj, rfl⟩ := List.getElem_of_mem hx
    have := h j hj
    unfold SaysAt at this
    rw [show (j : Int).toNat = j by omega, getD_at hj] at this
    exact this
theorem bad_all {s : ShR} (hg : Good s) (h : fitsB s = false) : BadL s (idxL s.notes.length) := fun y hy => by
  have : fitsB s = true := (fitsB_iff hg).2 ⟨y, truth_idx.2 ⟨hy.1, fun j hj => hy.2 j (mem_idxL.2 hj)⟩⟩
  rw [h] at this
  cases this
theorem goodW_all (s : ShR) : GoodW s (idxL s.notes.length) := by
  obtain ⟨y, hy, _⟩ := free_fine.closed.reach (i := 0) (k := 0) (by omega) (by omega)
  exact ⟨y, hy, fun j hj hn => absurd (mem_idxL.2 hj) hn⟩
theorem goodW_nil {s : ShR} (hg : Good s) (h : fitsB s = true) : GoodW s [] := by
  obtain ⟨y, hy⟩ := (fitsB_iff hg).1 h
  obtain ⟨h1, h2⟩ := truth_idx.1 hy
  exact ⟨y, h1, fun j hj _ => h2 j hj⟩
end Go.Proofs.YtajdgdelhlfniaaGreatDoor
namespace Go.Proofs.YtajdgdelhlfniaaGreatDoor

/-- a note that says what is true of heights, as far as it can; none: its points are none, or it is a lake that is not level -/
def toldN (iv : Int) (h : List Int) (less more : Int) (x : NoteR) : Option NoteR :=
  if x.a < 0 ∨ (h.length : Int) ≤ x.a ∨ x.b < 0 ∨ (h.length : Int) ≤ x.b then none
  else if x.kind = 1 then some { x with lo := max 0 (h.getD x.a.toNat 0 - less), hi := min 9000 (h.getD x.a.toNat 0 + more) }
  else if x.kind = 2 then some { x with lo := h.getD x.a.toNat 0 / iv, hi := h.getD x.a.toNat 0 / iv + 1 }
  else if x.kind = 3 then (if h.getD x.a.toNat 0 ≠ h.getD x.b.toNat 0 then none else some x)
  else if x.kind = 4 then some { x with lo := max (-9000) (h.getD x.a.toNat 0 - h.getD x.b.toNat 0 - less), hi := min 9000 (h.getD x.a.toNat 0 - h.getD x.b.toNat 0 + more) }
  else some x
def okN (s : ShR) (x : NoteR) : Bool := decide (errOf (withN s [x]) = 0)
/-- the first k notes, told -/
def toldL (s : ShR) (h off : List Int) : Nat → List NoteR
  | 0 => []
  | k + 1 => match toldN s.iv h (turnF off (2 * k) % 50) (turnF off (2 * k + 1) % 50) (s.notes.getD k default) with
    | some x => if okN s x = true then toldL s h off k ++ [x] else toldL s h off k
    | none => toldL s h off k
def toldS (s : ShR) (h off : List Int) : ShR := withN s (toldL s h off s.notes.length)
theorem toldL_len (s : ShR) (h off : List Int) (k : Nat) : (toldL s h off k).length ≤ k := by
  induction k with
  | zero => exact Nat.le_refl _
  | succ k ih =>
    unfold toldL
    split
    · split
      · simp; omega
      · omega
    · omega
theorem mem_toldL {s : ShR} {h off : List Int} {k : Nat} {x : NoteR} (hx : x ∈ toldL s h off k) : ∃ j, j < k ∧ okN s x = true ∧ toldN s.iv h (turnF off (2 * j) % 50) (turnF off (2 * j + 1) % 50) (s.notes.getD j default) = some x := by
  induction k with
  | zero => cases hx
  | succ k ih =>
    unfold toldL at hx
    split at hx
    · rename_i z hz
      split at hx
      · rename_i ho
        rcases List.mem_append.1 hx with hx | hx
        · obtain ⟨j, h1, h2⟩ := ih hx
          exact ⟨j, by omega, h2⟩
        · rw [List.mem_singleton] at hx
          subst hx
          exact ⟨k, by omega, ho, hz⟩
      · obtain ⟨j, h1, h2⟩ := ih hx
        exact ⟨j, by omega, h2⟩
    · obtain ⟨j, h1, h2⟩ := ih hx
      exact ⟨j, by omega, h2⟩
theorem okN_ok {s : ShR} {x : NoteR} (h : okN s x = true) : NoteOK s.pts.length s.iv x := by
  unfold okN at h
  have h2 : errOf (withN s [x]) = 0 := of_decide_eq_true h
  exact (good_of_valid (s := withN s [x]) h2).notes x (by simp [withN])
/-- heights of points, and the level of the sea -/
def hgt (h : List Int) : Nat → Int := fun j => if j < h.length then h.getD j 0 else 0
theorem hgt_sol {h : List Int} (hn : h.length ≤ 8) (hb : ∀ x ∈ h, 0 ≤ x ∧ x ≤ 9000) : Sol 9 freeM (hgt h) := by
  rw [free_sol]
  intro i hi
  have h8 : hgt h 8 = 0 := by unfold hgt; rw [if_neg (by omega)]
  rw [h8]
  unfold hgt
  split
  · rename_i hl
    have := hb _ (getD_mem hl 0)
    omega
  · omega
theorem says_1 {iv wd a b lo hi : Int} {y : Nat → Int} : Says iv wd ⟨1, a, b, lo, hi⟩ y ↔ lo - wd ≤ y a.toNat - y 8 ∧ y a.toNat - y 8 ≤ hi + wd := by simp [Says, nlo, nhi, othN]
theorem says_2 {iv wd a b lo hi : Int} {y : Nat → Int} : Says iv wd ⟨2, a, b, lo, hi⟩ y ↔ lo * iv - wd ≤ y a.toNat - y 8 ∧ y a.toNat - y 8 ≤ hi * iv + wd := by simp [Says, nlo, nhi, othN]
theorem says_3 {iv wd a b lo hi : Int} {y : Nat → Int} : Says iv wd ⟨3, a, b, lo, hi⟩ y ↔ lo - wd ≤ y a.toNat - y b.toNat ∧ y a.toNat - y b.toNat ≤ hi + wd := by simp [Says, nlo, nhi, othN]
theorem says_4 {iv wd a b lo hi : Int} {y : Nat → Int} : Says iv wd ⟨4, a, b, lo, hi⟩ y ↔ lo - wd ≤ y a.toNat - y b.toNat ∧ y a.toNat - y b.toNat ≤ hi + wd := by simp [Says, nlo, nhi, othN]
theorem toldN_says {iv less more : Int} {h : List Int} {x z : NoteR} (hiv : 1 ≤ iv) (hn : h.length ≤ 8) (hb : ∀ x ∈ h, 0 ≤ x ∧ x ≤ 9000) (h0 : 0 ≤ less ∧ 0 ≤ more) (hz : toldN iv h less more x = some z) (hok : NoteOK h.length iv z) : Says iv 0 z (hgt h) := by
  obtain ⟨k, a, b, lo, hi⟩ := x
  unfold toldN at hz
  simp only at hz
  split at hz
  · cases hz
  rename_i hr
  have ha : hgt h a.toNat = h.getD a.toNat 0 := by unfold hgt; rw [if_pos (by omega)]
  have hbb : hgt h b.toNat = h.getD b.toNat 0 := by unfold hgt; rw [if_pos (by omega)]
  have h8 : hgt h 8 = 0 := by unfold hgt; rw [if_neg (by omega)]
  have hA := hb _ (getD_mem (by omega : a.toNat < h.length) 0)
  have hB := hb _ (getD_mem (by omega : b.toNat < h.length) 0)
  generalize h.getD a.toNat 0 = u at *
  generalize h.getD b.toNat 0 = v at *
  split at hz
  · rename_i k1
    subst k1
    cases hz
    rw [says_1, ha, h8]
    omega
  split at hz
  · rename_i k2
    subst k2
    cases hz
    rw [says_2, ha, h8]
    have e1 := Int.mul_ediv_self_le (x := u) (k := iv) (by omega)
    have e2 := Int.lt_mul_ediv_self_add (x := u) (k := iv) (by omega)
    rw [Int.mul_comm] at e1 e2
    rw [Int.add_mul]
    omega
  split at hz
  · rename_i k3
    subst k3
    split at hz
    · cases hz
    · rename_i he
      cases hz
      have := hok.lake rfl
      simp only at this
      rw [says_3, ha, hbb]
      omega
  split at hz
  · rename_i k4
    subst k4
    cases hz
    rw [says_4, ha, hbb]
    omega
  · cases hz
    have := hok.kind
    simp only at this
    omega
theorem told_good {s : ShR} (hg : Good s) (h off : List Int) : Good (toldS s h off) :=
  hg.notes_ (fun x hx => by obtain ⟨j, _, ho, _⟩ := mem_toldL hx; exact okN_ok ho) (by have := toldL_len s h off s.notes.length; have := hg.nlen; omega)
theorem turn_mod {l : List Int} (hl : ∀ x ∈ l, 0 ≤ x ∧ x ≤ 65535) (n : Nat) : 0 ≤ turnF l n % 50 ∧ turnF l n % 50 < 50 := by omega
theorem told_truth {s : ShR} (hg : Good s) {h : List Int} (off : List Int) (hn : h.length = s.pts.length) (hb : ∀ x ∈ h, 0 ≤ x ∧ x ≤ 9000) : TruthOf (toldS s h off) 0 (hgt h) := by
  have hl := hg.plen
  refine ⟨hgt_sol (by omega) hb, fun x hx => ?_⟩
  obtain ⟨j, _, ho, ht⟩ := mem_toldL hx
  exact toldN_says hg.iv.1 (by omega) hb (by omega) ht (by rw [hn]; exact okN_ok ho)
theorem truthL_mem {l : List Int} {k : Nat} {x : Int} (hx : x ∈ truthL l k) : 0 ≤ x ∧ x ≤ 9000 := by
  unfold truthL at hx
  obtain ⟨i, _, rfl⟩ := List.mem_map.1 hx
  omega
/-- what is said of told notes -/
theorem true_wrong {s : ShR} (hg : Good s) (h : ∃ y, TruthOf s 0 y) : wrongF s = [] := by
  unfold wrongF
  rw [if_neg (by simp [errOf_good hg])]
  have hw := goodW_nil hg ((fitsB_iff hg).2 h)
  have := ((search_left hg (l := []) trivial hw).least [] trivial hw).le
  exact List.length_eq_zero_iff.1 (by simpa using this)
theorem true_wider {s : ShR} (hg : Good s) (h : ∃ y, TruthOf s 0 y) {n : Int} (hw : IsWider s n) : n = 0 :=
  isWider_eq hg hw (by omega) (by omega) ((fit_iff hg 0).2 h) (.inl rfl)
theorem wider_zero {s : ShR} (hg : Good s) {n : Int} (hw : IsWider s n) : (n = 0) ↔ fitsB s = true := by
  rw [fitsB_iff hg, ← fit_iff hg 0]
  constructor
  · rintro rfl
    rcases hw.yes with h | h
    · omega
    · exact h
  · intro h
    exact isWider_eq hg hw (by omega) (by omega) h (.inl rfl)
end Go.Proofs.YtajdgdelhlfniaaGreatDoor
namespace Go.Proofs.YtajdgdelhlfniaaGreatDoor

/-! ### wider notes, of spots and slopes alone -/
def looN (iv b : Int) (x : NoteR) : NoteR :=
  { x with kind := if x.kind = 2 then 1 else if x.kind = 3 then 4 else x.kind
           lo := max (if x.kind = 1 ∨ x.kind = 2 then 0 else -9000) (nlo iv x - b)
           hi := min 9000 (nhi iv x + b) }
def looS (s : ShR) (b : Int) : ShR := withN s (s.notes.map (looN s.iv b))
theorem looN_ok {np : Nat} {iv b : Int} {x : NoteR} (h : NoteOK np iv x) (hi : 1 ≤ iv) (hb : 0 ≤ b) : NoteOK np iv (looN iv b x) := by
  have he := noteOK_ends h hi
  have hk := h.kind
  have h2 : x.kind = 2 → 0 ≤ nlo iv x := fun k => by
    unfold nlo
    rw [if_pos k]
    exact Int.mul_nonneg (h.band k).1 (by omega)
  have h1 : x.kind = 1 → 0 ≤ nlo iv x := fun k => by
    unfold nlo
    rw [if_neg (by omega)]
    exact (h.spot k).1
  rcases (show x.kind = 1 ∨ x.kind = 2 ∨ x.kind = 3 ∨ x.kind = 4 by omega) with k | k | k | k
  · have := h1 k
    have := h.one (.inl k)
    refine ⟨?_, h.a, h.b, ?_, ?_, ?_, ?_, ?_, ?_, ?_⟩ <;> simp only [looN, k] <;> simp <;> omega
  · have := h2 k
    have := h.one (.inr k)
    refine ⟨?_, h.a, h.b, ?_, ?_, ?_, ?_, ?_, ?_, ?_⟩ <;> simp only [looN, k] <;> simp <;> omega
  · have := h.two (.inl k)
    refine ⟨?_, h.a, h.b, ?_, ?_, ?_, ?_, ?_, ?_, ?_⟩ <;> simp only [looN, k] <;> simp <;> omega
  · have := h.two (.inr k)
    refine ⟨?_, h.a, h.b, ?_, ?_, ?_, ?_, ?_, ?_, ?_⟩ <;> simp only [looN, k] <;> simp <;> omega
theorem loo_good {s : ShR} (hg : Good s) {b : Int} (hb : 0 ≤ b) : Good (looS s b) :=
  hg.notes_ (fun x hx => by
    obtain ⟨z, hz, rfl⟩ := List.mem_map.1 hx
    exact looN_ok (hg.notes z hz) hg.iv.1 hb) (by simpa using hg.nlen)
theorem loo_says {np : Nat} {iv b : Int} {x : NoteR} {y : Nat → Int} (h : NoteOK np iv x) (hn : np ≤ 8) (hy : Sol 9 freeM y) : Says iv 0 (looN iv b x) y ↔ Says iv b x y := by
  rw [free_sol] at hy
  have ha := hy x.a.toNat (by have := h.a; omega)
  have hbb := hy x.b.toNat (by have := h.b; omega)
  have hk := h.kind
  rcases (show x.kind = 1 ∨ x.kind = 2 ∨ x.kind = 3 ∨ x.kind = 4 by omega) with k | k | k | k <;> simp only [Says, looN, nlo, nhi, othN, k] <;> simp <;> omega
theorem loo_truth {s : ShR} (hg : Good s) {b : Int} {y : Nat → Int} : TruthOf (looS s b) 0 y ↔ TruthOf s b y := by
  unfold looS
  rw [TruthOf.notes]
  unfold TruthOf
  refine and_congr_right fun hy => ⟨fun h x hx => ?_, fun h x hx => ?_⟩
  · exact (loo_says (hg.notes x hx) hg.plen.2 hy).1 (h _ (List.mem_map.2 ⟨x, hx, rfl⟩))
  · obtain ⟨z, hz, rfl⟩ := List.mem_map.1 hx
    exact (loo_says (hg.notes z hz) hg.plen.2 hy).2 (h z hz)
theorem loo_fits {s : ShR} (hg : Good s) {b : Int} (hb : 0 ≤ b) : fitsB (looS s b) = (boundsF s b).2 := by
  rw [Bool.eq_iff_iff, fitsB_iff (loo_good hg hb), fit_iff hg b]
  exact exists_congr fun y => loo_truth hg
theorem bounds_top {s : ShR} (hg : Good s) : (boundsF s 9000).2 = true := by
  refine (fit_iff hg 9000).2 ⟨fun _ => 0, (free_sol _).2 fun i _ => by simp, fun x hx => ?_⟩
  have := noteOK_ends (hg.notes x hx) hg.iv.1
  unfold Says
  show _ ≤ (0 : Int) - 0 ∧ (0 : Int) - 0 ≤ _
  omega
theorem wider_good {s : ShR} (hg : Good s) {n : Int} (h : IsWider s n) : (boundsF s n).2 = true := by
  rcases h.yes with rfl | h
  · exact bounds_top hg
  · exact h
theorem wider_bad {s : ShR} (hg : Good s) {n k : Int} (h : IsWider s n) (hk : k < n) (_h0 : 0 ≤ k) : (boundsF s k).2 = false := by
  cases hb : (boundsF s k).2 with
  | false => rfl
  | true =>
    rcases h.no with rfl | hn
    · omega
    · rw [fit_mono hg hb (by omega)] at hn
      cases hn
theorem wider_le {s : ShR} (hg : Good s) {n k : Int} (h : IsWider s n) (_h0 : 0 ≤ k) (hb : (boundsF s k).2 = true) : n ≤ k := by
  refine Classical.byContradiction fun hn => ?_
  have := wider_bad hg h (k := k) (by omega) (by omega)
  rw [hb] at this
  cases this

/-! ### notes that are moved -/
def movN (d : Int) (x : NoteR) : NoteR :=
  if x.kind = 1 then { x with lo := max 0 (min 9000 (x.lo + d)), hi := max 0 (min 9000 (x.hi + d)) }
  else if x.kind = 4 then { x with lo := max (-9000) (min 9000 (x.lo + d)), hi := max (-9000) (min 9000 (x.hi + d)) }
  else x
def movD (l : List Int) (b : Int) (i : Nat) : Int := turnF l i % (2 * b + 1) - b
/-- with the first k notes moved -/
def movL (off : List Int) (b : Int) (l : List NoteR) (k : Nat) : List NoteR := (List.range l.length).map fun i => if i < k then movN (movD off b i) (l.getD i default) else l.getD i default
theorem movL_len (off : List Int) (b : Int) (l : List NoteR) (k : Nat) : (movL off b l k).length = l.length := by simp [movL]
theorem movL_at {off : List Int} {b : Int} {l : List NoteR} {k i : Nat} (hi : i < l.length) : (movL off b l k)[i]? = some (if i < k then movN (movD off b i) (l.getD i default) else l.getD i default) := by
  unfold movL
  rw [List.getElem?_map, List.getElem?_range hi]
  rfl
theorem movL_zero (off : List Int) (b : Int) (l : List NoteR) : movL off b l 0 = l := by
  apply List.ext_getElem?
  intro i
  by_cases hi : i < l.length
  · rw [movL_at hi, if_neg (by omega), List.getElem?_eq_getElem hi, getD_at hi]
  · rw [List.getElem?_eq_none (by rw [movL_len]; omega), List.getElem?_eq_none (by omega)]
theorem movL_set {off : List Int} {b : Int} {l : List NoteR} {k : Nat} (_hk : k < l.length) : movL off b l (k + 1) = (movL off b l k).set k (movN (movD off b k) (l.getD k default)) := by
  apply List.ext_getElem?
  intro i
  rw [List.getElem?_set]
  by_cases hi : i < l.length
  · rw [movL_at hi]
    by_cases e : k = i
    · subst e
      rw [if_pos (by omega), if_pos rfl, if_pos (by rw [movL_len]; omega)]
    · rw [if_neg e, movL_at hi]
      by_cases h : i < k
      · rw [if_pos (by omega), if_pos h]
      · rw [if_neg (by omega), if_neg h]
  · rw [List.getElem?_eq_none (by rw [movL_len]; omega), if_neg (by omega), List.getElem?_eq_none (by rw [movL_len]; omega)]
theorem mem_movL {off : List Int} {b : Int} {l : List NoteR} {x : NoteR} (h : x ∈ movL off b l l.length) : ∃ i, i < l.length ∧ x = movN (movD off b i) (l.getD i default) := by
  unfold movL at h
  obtain ⟨i, hi, rfl⟩ := List.mem_map.1 h
  have := List.mem_range.1 hi
  exact ⟨i, this, by rw [if_pos this]⟩
theorem movN_ok {np : Nat} {iv d : Int} {x : NoteR} (h : NoteOK np iv x) : NoteOK np iv (movN d x) := by
  have hle := h.le
  unfold movN
  split
  · rename_i k
    have := h.spot k
    refine ⟨h.kind, h.a, h.b, h.two, h.one, ?_, fun _ => ?_, fun e => absurd (k.symm.trans e) (by decide), fun e => absurd (k.symm.trans e) (by decide), fun e => absurd (k.symm.trans e) (by decide)⟩
    · show max 0 (min 9000 (x.lo + d)) ≤ max 0 (min 9000 (x.hi + d))
      omega
    · show 0 ≤ max 0 (min 9000 (x.lo + d)) ∧ max 0 (min 9000 (x.hi + d)) ≤ 9000
      omega
  · split
    · rename_i _ k
      have := h.slope k
      refine ⟨h.kind, h.a, h.b, h.two, h.one, ?_, fun e => absurd (k.symm.trans e) (by decide), fun e => absurd (k.symm.trans e) (by decide), fun e => absurd (k.symm.trans e) (by decide), fun _ => ?_⟩
      · show max (-9000) (min 9000 (x.lo + d)) ≤ max (-9000) (min 9000 (x.hi + d))
        omega
      · show -9000 ≤ max (-9000) (min 9000 (x.lo + d)) ∧ max (-9000) (min 9000 (x.hi + d)) ≤ 9000
        omega
    · exact h
theorem mov_says {iv less more d b : Int} {h : List Int} {x z : NoteR} (hiv : 1 ≤ iv) (hn : h.length ≤ 8) (hb : ∀ x ∈ h, 0 ≤ x ∧ x ≤ 9000) (hl : less = 0) (hm : more = 0) (hd : -b ≤ d ∧ d ≤ b) (hz : toldN iv h less more x = some z) (hok : NoteOK h.length iv z) : Says iv b (movN d z) (hgt h) := by
  subst hl hm
  have hs := toldN_says hiv hn hb ⟨by omega, by omega⟩ hz hok
  have hy := (free_sol _).1 (hgt_sol hn hb)
  have ha := hy z.a.toNat (by have := hok.a; omega)
  have hbb := hy z.b.toNat (by have := hok.b; omega)
  have ex : (z.kind = 1 ∨ z.kind = 4) → z.lo = z.hi := by
    unfold toldN at hz
    split at hz
    · cases hz
    rename_i hr
    have hA := hb _ (getD_mem (by omega : x.a.toNat < h.length) 0)
    have hB := hb _ (getD_mem (by omega : x.b.toNat < h.length) 0)
    split at hz
    · cases hz
      intro _
      show max 0 _ = min 9000 _
      omega
    split at hz
    · rename_i k
      cases hz
      intro h
      simp only [k] at h
      omega
    split at hz
    · rename_i k
      split at hz
      · cases hz
      · cases hz
        intro h
        omega
    split at hz
    · cases hz
      intro _
      show max (-9000) _ = min 9000 _
      omega
    · cases hz
      have := hok.kind
      omega
  unfold movN
  split
  · rename_i k
    have e := ex (.inl k)
    unfold Says nlo nhi othN at hs ⊢
    simp only [k] at hs ⊢
    simp at hs ⊢
    have := hok.spot k
    omega
  · split
    · rename_i k
      have e := ex (.inr k)
      unfold Says nlo nhi othN at hs ⊢
      simp only [k] at hs ⊢
      simp at hs ⊢
      have := hok.slope k
      omega
    · exact hs.wider (by omega)
theorem mov_wider {s : ShR} (hg : Good s) {h off : List Int} (hn : h.length = s.pts.length) (hb : ∀ x ∈ h, 0 ≤ x ∧ x ≤ 9000) {b : Int} (h0 : 0 ≤ b) :
    Good (withN s (movL off b (toldL s h [] s.notes.length) (toldL s h [] s.notes.length).length)) ∧ ∀ m, IsWider (withN s (movL off b (toldL s h [] s.notes.length) (toldL s h [] s.notes.length).length)) m → m ≤ b := by
  have hg2 : Good (withN s (movL off b (toldL s h [] s.notes.length) (toldL s h [] s.notes.length).length)) := hg.notes_ (fun x hx => by
    obtain ⟨i, hi, rfl⟩ := mem_movL hx
    obtain ⟨j, _, ho, _⟩ := mem_toldL (getD_mem hi default)
    exact movN_ok (okN_ok ho)) (by rw [movL_len]; have := toldL_len s h [] s.notes.length; have := hg.nlen; omega)
  refine ⟨hg2, fun m hm => wider_le hg2 hm h0 ((fit_iff hg2 b).2 ⟨hgt h, ?_⟩)⟩
  have hl := hg.plen
  refine ⟨hgt_sol (by omega) hb, fun x hx => ?_⟩
  obtain ⟨i, hi, rfl⟩ := mem_movL hx
  obtain ⟨j, _, ho, ht⟩ := mem_toldL (getD_mem hi default)
  have z0 : ∀ k, turnF ([] : List Int) k % 50 = 0 := fun k => by simp [turnF]
  refine mov_says hg.iv.1 (by omega) hb (z0 _) (z0 _) ?_ ht (by rw [hn]; exact okN_ok ho)
  unfold movD
  have e1 := Int.emod_nonneg (turnF off i) (show 2 * b + 1 ≠ 0 by omega)
  have e2 := Int.emod_lt_of_pos (turnF off i) (show 0 < 2 * b + 1 by omega)
  omega

/-! ### notes in another order -/
def flipN (x : NoteR) (n : Int) : NoteR := if x.kind = 4 ∧ n % 2 = 1 then ⟨4, x.b, x.a, -x.hi, -x.lo⟩ else x
def ordL (s : ShR) (l : List Int) : Nat → List NoteR
  | 0 => []
  | k + 1 => (ordL s l k).take (turnF l k / 2 % ((k : Int) + 1)).toNat ++ [flipN (s.notes.getD k default) (turnF l k)] ++ (ordL s l k).drop (turnF l k / 2 % ((k : Int) + 1)).toNat
def ordS (s : ShR) (l : List Int) : ShR := withN s (ordL s l s.notes.length)
theorem mem_ordL {s : ShR} {l : List Int} {k : Nat} {x : NoteR} : x ∈ ordL s l k ↔ ∃ j, j < k ∧ x = flipN (s.notes.getD j default) (turnF l j) := by
  induction k with
  | zero => simp [ordL]
  | succ k ih =>
    unfold ordL
    have hm : x ∈ ordL s l k ↔ x ∈ (ordL s l k).take (turnF l k / 2 % ((k : Int) + 1)).toNat ∨ x ∈ (ordL s l k).drop (turnF l k / 2 % ((k : Int) + 1)).toNat := by
      conv => lhs; rw [← List.take_append_drop (turnF l k / 2 % ((k : Int) + 1)).toNat (ordL s l k)]
      exact List.mem_append
    simp only [List.mem_append, List.mem_singleton]
    constructor
    · rintro ((h | h) | h)
      · obtain ⟨j, h1, h2⟩ := ih.1 (hm.2 (.inl h))
        exact ⟨j, by omega, h2⟩
      · exact ⟨k, by omega, h⟩
      · obtain ⟨j, h1, h2⟩ := ih.1 (hm.2 (.inr h))
        exact ⟨j, by omega, h2⟩
    · rintro ⟨j, h1, h2⟩
      by_cases e : j = k
      · subst e; exact .inl (.inr h2)
      · rcases hm.1 (ih.2 ⟨j, by omega, h2⟩) with h | h
        · exact .inl (.inl h)
        · exact .inr h
theorem ordL_len (s : ShR) (l : List Int) (k : Nat) : (ordL s l k).length = k := by
  induction k with
  | zero => rfl
  | succ k ih =>
    unfold ordL
    rw [List.length_append, List.length_append, List.length_singleton]
    have := congrArg List.length (List.take_append_drop (turnF l k / 2 % ((k : Int) + 1)).toNat (ordL s l k))
    rw [List.length_append, ih] at this
    omega
theorem flip_ok {np : Nat} {iv n : Int} {x : NoteR} (h : NoteOK np iv x) : NoteOK np iv (flipN x n) := by
  unfold flipN
  split
  · rename_i k
    have h1 := h.two (.inr k.1)
    have h2 := h.slope k.1
    have h3 := h.le
    exact ⟨by simp, h.b, h.a, fun _ => fun e => h1 e.symm, by simp, by show -x.hi ≤ -x.lo; omega, by simp, by simp, by simp, fun _ => ⟨by show -9000 ≤ -x.hi; omega, by show -x.lo ≤ 9000; omega⟩⟩
  · exact h
theorem flip_says {iv wd n : Int} {x : NoteR} {y : Nat → Int} : Says iv wd (flipN x n) y ↔ Says iv wd x y := by
  unfold flipN
  split
  · rename_i k
    simp only [Says, nlo, nhi, othN, k.1]
    simp
    omega
  · exact Iff.rfl
theorem ord_good {s : ShR} (hg : Good s) (l : List Int) : Good (ordS s l) :=
  hg.notes_ (fun x hx => by
    obtain ⟨j, h1, rfl⟩ := mem_ordL.1 hx
    exact flip_ok (hg.notes _ (getD_mem h1 _))) (by rw [ordL_len]; exact hg.nlen)
theorem ord_truth {s : ShR} {l : List Int} {wd : Int} {y : Nat → Int} : TruthOf (ordS s l) wd y ↔ TruthOf s wd y := by
  unfold ordS
  rw [TruthOf.notes]
  unfold TruthOf
  refine and_congr_right fun _ => ⟨fun h x hx => ?_, fun h x hx => ?_⟩
  · obtain ⟨j, hj, rfl⟩ := List.getElem_of_mem hx
    have := flip_says.1 (h _ (mem_ordL.2 ⟨j, hj, rfl⟩))
    rwa [getD_at hj] at this
  · obtain ⟨j, h1, rfl⟩ := mem_ordL.1 hx
    exact flip_says.2 (h _ (getD_mem h1 _))
/-- sheets of the same points with the same truths -/
structure Like (s t : ShR) : Prop where
  good : Good s
  good' : Good t
  len : s.pts.length = t.pts.length
  truth : ∀ wd y, TruthOf s wd y ↔ TruthOf t wd y
theorem like_openE {s t : ShR} (h : Like s t) : openE s = openE t := by
  rcases openE_two h.good with ⟨e, y, hy⟩ | ⟨e, hn⟩
  · rw [e, openE_fit h.good' ⟨y, (h.truth 0 y).1 hy⟩]
  · rcases openE_two h.good' with ⟨_, y, hy⟩ | ⟨e', _⟩
    · exact absurd ⟨y, (h.truth 0 y).2 hy⟩ hn
    · rw [e, e']
theorem like_openM {s t : ShR} (h : Like s t) (he : openE s = 0) {i k : Nat} (hi : i < 9) (hk : k < 9) : openM s i k = openM t i k := by
  have he' := (like_openE h).symm.trans he
  exact closed_eq (openM_fine he).closed (openM_fine he').closed (fun y => by rw [open_sol he, open_sol he']; exact h.truth 0 y) hi hk
theorem like_heights {s t : ShR} (h : Like s t) : heightsF s = heightsF t := by
  unfold heightsF
  rw [like_openE h]
  split
  · rfl
  · rename_i he
    have he : openE s = 0 := by rw [like_openE h]; exact Classical.byContradiction he
    have hl := h.good.plen
    rw [← h.len]
    unfold spansL
    refine List.map_congr_left fun i hi => ?_
    have := List.mem_range.1 hi
    rw [like_openM h he (by omega) (by omega), like_openM h he (by omega) (by omega)]
theorem like_highest {s t : ShR} (h : Like s t) : highestF s = highestF t := by
  unfold highestF
  rw [like_openE h]
  split
  · rfl
  · rename_i he
    have he : openE s = 0 := by rw [like_openE h]; exact Classical.byContradiction he
    have he' := (like_openE h).symm.trans he
    have hl := h.good.plen
    rw [← h.len]
    unfold highL
    congr 1
    refine List.filter_congr fun p hp => ?_
    have := List.mem_range.1 hp
    rw [Bool.eq_iff_iff, highB_iff (openM_fine he) hl.2 (by omega), highB_iff (openM_fine he') hl.2 (by omega)]
    refine exists_congr fun y => ?_
    rw [open_sol he, open_sol he', h.truth 0 y]
theorem like_wider {s t : ShR} (h : Like s t) {m n : Int} (hm : IsWider s m) (hn : IsWider t n) : m = n := by
  have hb : ∀ k, (boundsF s k).2 = (boundsF t k).2 := fun k => by
    rw [Bool.eq_iff_iff, fit_iff h.good, fit_iff h.good']
    exact exists_congr fun y => h.truth k y
  refine Int.le_antisymm (wider_le h.good hm hn.ge ((hb n).trans (wider_good h.good' hn))) (wider_le h.good' hn hm.ge ((hb m).symm.trans (wider_good h.good hm)))
theorem ord_like {s : ShR} (hg : Good s) (l : List Int) : Like s (ordS s l) := ⟨hg, ord_good hg l, rfl, fun _ _ => ord_truth.symm⟩
end Go.Proofs.YtajdgdelhlfniaaGreatDoor
namespace Go.Proofs.YtajdgdelhlfniaaGreatDoor

/-! ### numbers -/
theorem parse_append {l m : List UInt8} : ∀ {acc v : Nat}, Lib.parseUint10 acc l = .ok v → Lib.parseUint10 acc (l ++ m) = Lib.parseUint10 v m := by
  induction l with
  | nil => intro acc v h; simp only [Lib.parseUint10] at h; injection h with h; subst h; rfl
  | cons c l ih =>
    intro acc v h
    rw [List.cons_append]
    unfold Lib.parseUint10 at h
    conv => lhs; unfold Lib.parseUint10
    split at h
    · rename_i h1
      rw [if_pos h1]
      split at h
      · cases h
      · rename_i h2
        rw [if_neg h2]
        split at h
        · cases h
        · rename_i h3
          rw [if_neg h3]
          exact ih h
    · cases h
theorem digit_nat {d : Nat} (h : d < 10) : (UInt8.ofNat (48 + d)).toNat = 48 + d := by
  rw [UInt8.toNat_ofNat']
  omega
theorem parse_digits : ∀ (u : Nat), u ≤ 1000000 → Lib.parseUint10 0 (Lib.decDigits u) = .ok u := by
  intro u
  induction u using Nat.strongRecOn with
  | _ u ih =>
    intro hu
    by_cases h : u < 10
    · rw [Lib.decDigits_one h]
      unfold Lib.parseUint10
      rw [digit_nat h, if_pos (by omega), if_neg (by omega), if_neg (by omega)]
      unfold Lib.parseUint10
      congr 1
      omega
    · rw [Lib.decDigits, dif_neg h, parse_append (ih (u / 10) (by omega) (by omega))]
      unfold Lib.parseUint10
      rw [digit_nat (by omega), if_pos (by omega), if_neg (by omega), if_neg (by omega)]
      unfold Lib.parseUint10
      congr 1
      omega
theorem digits_mem : ∀ (u : Nat), ∀ c ∈ Lib.decDigits u, 48 ≤ c.toNat ∧ c.toNat ≤ 57 := by
  intro u
  induction u using Nat.strongRecOn with
  | _ u ih =>
    intro c hc
    by_cases h : u < 10
    · rw [Lib.decDigits_one h, List.mem_singleton] at hc
      subst hc
      rw [digit_nat h]
      omega
    · rw [Lib.decDigits, dif_neg h] at hc
      rcases List.mem_append.1 hc with hc | hc
      · exact ih _ (by omega) c hc
      · rw [List.mem_singleton] at hc
        subst hc
        rw [digit_nat (by omega)]
        omega
theorem digits_ne (u : Nat) : Lib.decDigits u ≠ [] := by
  intro h
  have h1 := Lib.decDigits_length u
  have h2 := Lib.nDigits_pos u
  rw [h] at h1
  simp at h1
  omega
theorem numF_it {n : Int} (h : -1000000 ≤ n ∧ n ≤ 1000000) : numF (itB n) = some n := by
  unfold numF itB Lib.itoa
  by_cases h0 : n < 0
  · rw [if_pos h0]
    have hp := parse_digits n.natAbs (by omega)
    have hm : Lib.parseMag (Lib.decDigits n.natAbs) = .ok n.natAbs := by unfold Lib.parseMag; rw [if_neg (digits_ne _), hp]
    have he : Lib.atoiAll (45 :: Lib.decDigits n.natAbs) = .ok n := by
      unfold Lib.atoiAll
      simp only
      rw [if_pos (.inr (by decide)), hm]
      simp only
      rw [if_neg (fun h => h.1 (by decide)), if_neg (by omega), if_pos (by decide)]
      congr 1
      omega
    simp only [he]
  · rw [if_neg h0]
    have hp := parse_digits n.toNat (by omega)
    obtain ⟨c, r, hcr⟩ := List.exists_cons_of_ne_nil (digits_ne n.toNat)
    have hc := digits_mem n.toNat c (by rw [hcr]; simp)
    have hm : Lib.parseMag (c :: r) = .ok n.toNat := by unfold Lib.parseMag; rw [if_neg (by simp), ← hcr, hp]
    have he : Lib.atoiAll (c :: r) = .ok n := by
      unfold Lib.atoiAll
      simp only
      rw [if_neg (by omega), hm]
      simp only
      rw [if_neg (by omega), if_neg (by omega), if_neg (by omega)]
      congr 1
      omega
    rw [hcr]
    simp only [he]
theorem nDigits_le : ∀ (k u : Nat), u < 10 ^ (k + 1) → Lib.nDigits u ≤ k + 1 := by
  intro k
  induction k with
  | zero => intro u h; rw [Lib.nDigits_small (by simpa using h)]; exact Nat.le_refl _
  | succ k ih =>
    intro u h
    by_cases hu : u < 10
    · rw [Lib.nDigits_small hu]; omega
    · rw [Lib.nDigits_big hu]
      have := ih (u / 10) (by rw [Nat.pow_succ] at h; omega)
      omega
theorem it_len {n : Int} (h : -9000 ≤ n ∧ n ≤ 9000) : (itB n).data.toList.length ≤ 16 := by
  have hd : ∀ u, u ≤ 9000 → (Lib.decDigits u).length ≤ 4 := fun u hu => by
    rw [Lib.decDigits_length]
    exact nDigits_le 3 u (by omega)
  show (Lib.itoa n).length ≤ 16
  unfold Lib.itoa
  split
  · rw [List.length_cons]
    have := hd n.natAbs (by omega)
    omega
  · have := hd n.toNat (by omega)
    omega
/-- neither the end of a line nor a space -/
def Clean (l : List UInt8) : Prop := ∀ c ∈ l, c ≠ 10 ∧ c ≠ 32
theorem it_clean (n : Int) : Clean (itB n).data.toList := by
  have hd : ∀ u, Clean (Lib.decDigits u) := fun u c hc => by
    have := digits_mem u c hc
    constructor <;> (rintro rfl; revert this; decide)
  show Clean (Lib.itoa n)
  unfold Lib.itoa
  split
  · intro c hc
    rcases List.mem_cons.1 hc with rfl | hc
    · decide
    · exact hd _ c hc
  · exact hd _
theorem name_clean {p : ByteArray} (h : nameB p = true) : Clean p.data.toList := by
  unfold nameB at h
  generalize p.data.toList = l at *
  unfold nameL at h
  split at h
  · cases h
  · rename_i c r
    simp only [Bool.and_eq_true, List.all_eq_true, decide_eq_true_eq] at h
    obtain ⟨⟨h1, h2⟩, _⟩ := h
    have hl : ∀ c, loB c = true → c ≠ 10 ∧ c ≠ 32 := fun c hc => by
      constructor <;> (rintro rfl; revert hc; decide)
    have hr : ∀ c, restB c = true → c ≠ 10 ∧ c ≠ 32 := fun c hc => by
      constructor <;> (rintro rfl; revert hc; decide)
    intro x hx
    rcases List.mem_cons.1 hx with rfl | hx
    · exact hl _ h1
    · exact hr _ (h2 _ hx)
theorem name_len16 {p : ByteArray} (h : nameB p = true) : p.data.toList.length ≤ 16 := by
  unfold nameB at h
  generalize p.data.toList = l at *
  unfold nameL at h
  split at h
  · cases h
  · simp only [Bool.and_eq_true, decide_eq_true_eq] at h
    exact h.2

/-! ### lines and words -/
theorem indexByte_at {c : UInt8} : ∀ {x r : List UInt8}, c ∉ x → Lib.indexByte (x ++ c :: r) c = x.length := by
  intro x
  induction x with
  | nil => intro r _; simp [Lib.indexByte]
  | cons y x ih =>
    intro r h
    have h1 : y ≠ c := fun e => h (by simp [e])
    have h2 := ih (r := r) (fun e => h (by simp [e]))
    rw [List.cons_append]
    unfold Lib.indexByte
    have hb : (y == c) = false := by simpa using h1
    rw [h2]
    simp [hb, h1]
    try omega
theorem index_at {c : UInt8} {x r : List UInt8} (h : c ∉ x) : Lib.index (x ++ c :: r) [c] = x.length := by
  refine Lib.index_first (by simp) ?_ ?_
  · unfold Lib.occAt
    rw [List.drop_left]
    simp [List.isPrefixOf]
  · intro j hj
    unfold Lib.occAt
    rw [List.drop_append_of_le_length (by omega), List.drop_eq_getElem_cons hj]
    have : x[j] ≠ c := fun e => h (e ▸ List.getElem_mem hj)
    have hb : (c == x[j]) = false := by simpa using Ne.symm this
    simp only [List.cons_append, List.isPrefixOf, hb, Bool.false_and]
theorem splitK_join : ∀ (ws : List (List UInt8)), ws ≠ [] → (∀ w ∈ ws, (32 : UInt8) ∉ w) → Lib.splitK [32] 0 (Lib.count (Lib.join ws [32]) [32]) (Lib.join ws [32]) = ws := by
  intro ws
  induction ws with
  | nil => intro h; exact absurd rfl h
  | cons x r ih =>
    intro _ hc
    have hx := hc x (by simp)
    cases r with
    | nil =>
      rw [Lib.join_one, Lib.count_one, List.count_eq_zero_of_not_mem hx]
      rfl
    | cons y r =>
      have e : Lib.join (x :: y :: r) [32] = x ++ 32 :: Lib.join (y :: r) [32] := by
        rw [Lib.join_cons, Lib.join_cons]
        simp [Lib.joinTail]
      have hi := index_at (r := Lib.join (y :: r) [32]) hx
      have hcnt : Lib.count (x ++ 32 :: Lib.join (y :: r) [32]) [32] = Lib.count (Lib.join (y :: r) [32]) [32] + 1 := by
        rw [Lib.count_one, Lib.count_one, List.count_append, List.count_cons_self, List.count_eq_zero_of_not_mem hx]
        omega
      rw [e, hcnt]
      unfold Lib.splitK
      rw [hi, if_neg (by simp)]
      have h1 : (x ++ 32 :: Lib.join (y :: r) [32]).take ((x.length : Int).toNat + 0) = x := by simp
      have h2 : (x ++ 32 :: Lib.join (y :: r) [32]).drop ((x.length : Int).toNat + [32].length) = Lib.join (y :: r) [32] := by simp
      rw [h1]
      congr 1
      have h2' : (x ++ 32 :: Lib.join (y :: r) [32]).drop ((x.length : Int).toNat + [(32 : UInt8)].length) = Lib.join (y :: r) [32] := h2
      rw [h2']
      exact ih (by simp) (fun w hw => hc w (by simp [hw]))
theorem toList_inj {a b : ByteArray} (h : a.data.toList = b.data.toList) : a = b := ByteArray.ext (Array.toList_inj.mp h)
theorem toLists_inj {a b : List ByteArray} (h : a.map (·.data.toList) = b.map (·.data.toList)) : a = b := by
  induction a generalizing b with
  | nil => cases b with
    | nil => rfl
    | cons y b => cases h
  | cons x a ih =>
    cases b with
    | nil => cases h
    | cons y b =>
      simp only [List.map_cons, List.cons.injEq] at h
      rw [toList_inj h.1, ih h.2]
theorem linesN_cat : ∀ (bs : List (List UInt8)) (f : Nat) (s : ByteArray), s.size ≤ f → s.data.toList = bs.flatMap (· ++ [10]) → (∀ b ∈ bs, (10 : UInt8) ∉ b) → (linesN f s).map (·.data.toList) = bs.map (· ++ [10]) := by
  intro bs
  induction bs with
  | nil =>
    intro f s _ hs _
    have h0 : s.size = 0 := by
      have := congrArg List.length hs
      simpa using this
    cases f with
    | zero => rfl
    | succ f => unfold linesN; rw [if_pos h0]; rfl
  | cons b bs ih =>
    intro f s hf hs hb
    rw [List.flatMap_cons, List.append_assoc] at hs
    have hlen : s.size = s.data.toList.length := by simp
    have hpos : 0 < s.size := by rw [hlen, hs]; simp; omega
    cases f with
    | zero => omega
    | succ f =>
      unfold linesN
      rw [if_neg (by omega), List.map_cons, List.map_cons]
      have hn : nlOf s = b.length := by
        unfold nlOf
        rw [hs]
        exact indexByte_at (r := bs.flatMap (· ++ [10])) (hb b (by simp))
      have h1 : (lineOf s).data.toList = b ++ [10] := by
        unfold lineOf
        rw [if_pos (by omega), hn, Lib.extract_from_zero, hs]
        rw [show (b.length : Int).toNat + 1 = (b ++ [10]).length by simp, ← List.append_assoc, List.take_left]
      have h2 : (nextOf s).data.toList = bs.flatMap (· ++ [10]) := by
        unfold nextOf
        rw [if_pos (by omega), hn, Lib.extract_to_end, hs]
        rw [show (b.length : Int).toNat + 1 = (b ++ [10]).length by simp, ← List.append_assoc, List.drop_left]
      rw [h1]
      congr 1
      exact ih f (nextOf s) (by have := nextOf_size hpos; omega) h2 (fun x hx => hb x (by simp [hx]))
theorem trim_line {x : ByteArray} {b : List UInt8} (h : x.data.toList = b ++ [10]) : (trimL x).data.toList = b := by
  show Lib.trimSuffix x.data.toList [10] = b
  rw [h]
  unfold Lib.trimSuffix Lib.hasSuffix
  have : [(10 : UInt8)].isSuffixOf (b ++ [10]) = true := by
    rw [List.isSuffixOf_iff_suffix]
    exact List.suffix_append b [10]
  rw [if_pos this]
  simp
theorem words_line {x : ByteArray} {ws : List ByteArray} (hne : ws ≠ []) (hc : ∀ w ∈ ws, Clean w.data.toList) (h : x.data.toList = lineW ws) : wordsOf x = ws := by
  have ht : (trimL x).data.toList = Lib.join (ws.map (·.data.toList)) [32] := trim_line h
  refine toLists_inj ?_
  unfold wordsOf
  rw [Lib.splitB_data]
  unfold Lib.countB
  rw [ht]
  exact splitK_join _ (by simpa using hne) (fun w hw => by
    obtain ⟨v, hv, rfl⟩ := List.mem_map.1 hw
    exact fun hm => (hc v hv _ hm).2 rfl)
theorem join_clean {ws : List (List UInt8)} (h : ∀ w ∈ ws, (10 : UInt8) ∉ w) : (10 : UInt8) ∉ Lib.join ws [32] := by
  cases ws with
  | nil => simp [Lib.join_nil]
  | cons x r =>
    rw [Lib.join_cons]
    unfold Lib.joinTail
    intro hm
    rcases List.mem_append.1 hm with hm | hm
    · exact h x (by simp) hm
    · obtain ⟨l, hl, hx⟩ := List.mem_flatten.1 hm
      obtain ⟨w, hw, rfl⟩ := List.mem_map.1 hl
      rcases List.mem_append.1 hx with hx | hx
      · rw [List.mem_singleton] at hx
        revert hx
        decide
      · exact h w (by simp [hw]) hx

/-! ### the text of a sheet -/
def linesW (s : ShR) : List (List ByteArray) := [wSheet, itB s.iv] :: (s.pts.map (fun p => [wPoint, p]) ++ s.notes.map (noteW s))
theorem text_lines (s : ShR) : textB s = (linesW s).flatMap lineW := by
  unfold textB linesW headB ptsB notesB
  rw [List.flatMap_cons, List.flatMap_append, List.flatMap_map, List.flatMap_map, List.append_assoc]
theorem ptAt_clean {s : ShR} (hg : Good s) (i : Int) : Clean (ptAt s i).data.toList := by
  unfold ptAt
  cases h : s.pts[i.toNat]? with
  | none => intro c hc; simp at hc
  | some p => exact name_clean (hg.names p (List.mem_of_getElem? h))
theorem ptAt_len16 {s : ShR} (hg : Good s) (i : Int) : (ptAt s i).data.toList.length ≤ 16 := by
  unfold ptAt
  cases h : s.pts[i.toNat]? with
  | none => simp
  | some p => exact name_len16 (hg.names p (List.mem_of_getElem? h))
theorem noteW_all {P : ByteArray → Prop} {s : ShR} {x : NoteR} (h1 : P wSpot) (h2 : P wContour) (h3 : P wLake) (h4 : P wSlope) (ha : P (ptAt s x.a)) (hb : P (ptAt s x.b)) (hl : P (itB x.lo)) (hh : P (itB x.hi)) : ∀ w ∈ noteW s x, P w := by
  unfold noteW
  split
  · simp only [List.mem_cons, List.not_mem_nil, or_false]
    rintro w (rfl | rfl | rfl | rfl) <;> assumption
  · split
    · simp only [List.mem_cons, List.not_mem_nil, or_false]
      rintro w (rfl | rfl | rfl | rfl) <;> assumption
    · split
      · simp only [List.mem_cons, List.not_mem_nil, or_false]
        rintro w (rfl | rfl | rfl) <;> assumption
      · simp only [List.mem_cons, List.not_mem_nil, or_false]
        rintro w (rfl | rfl | rfl | rfl | rfl) <;> assumption
theorem consts_clean : Clean wSheet.data.toList ∧ Clean wPoint.data.toList ∧ Clean wSpot.data.toList ∧ Clean wContour.data.toList ∧ Clean wLake.data.toList ∧ Clean wSlope.data.toList := by
  unfold Clean
  refine ⟨?_, ?_, ?_, ?_, ?_, ?_⟩ <;> decide
theorem linesW_clean {s : ShR} (hg : Good s) : ∀ ws ∈ linesW s, ws ≠ [] ∧ ∀ w ∈ ws, Clean w.data.toList := by
  obtain ⟨c1, c2, c3, c4, c5, c6⟩ := consts_clean
  intro ws hws
  unfold linesW at hws
  rcases List.mem_cons.1 hws with rfl | hws
  · refine ⟨by simp, ?_⟩
    simp only [List.mem_cons, List.not_mem_nil, or_false]
    rintro w (rfl | rfl)
    · exact c1
    · exact it_clean _
  · rcases List.mem_append.1 hws with hws | hws
    · obtain ⟨p, hp, rfl⟩ := List.mem_map.1 hws
      refine ⟨by simp, ?_⟩
      simp only [List.mem_cons, List.not_mem_nil, or_false]
      rintro w (rfl | rfl)
      · exact c2
      · exact name_clean (hg.names _ hp)
    · obtain ⟨x, hx, rfl⟩ := List.mem_map.1 hws
      refine ⟨?_, noteW_all (P := fun w => Clean w.data.toList) c3 c4 c5 c6 (ptAt_clean hg _) (ptAt_clean hg _) (it_clean _) (it_clean _)⟩
      unfold noteW
      split
      · simp
      · split
        · simp
        · split <;> simp
theorem linesW_len {s : ShR} (hg : Good s) : ∀ ws ∈ linesW s, ∀ w ∈ ws, w.data.toList.length ≤ 16 := by
  intro ws hws
  unfold linesW at hws
  rcases List.mem_cons.1 hws with rfl | hws
  · simp only [List.mem_cons, List.not_mem_nil, or_false]
    rintro w (rfl | rfl)
    · decide
    · exact it_len (by have := hg.iv; omega)
  · rcases List.mem_append.1 hws with hws | hws
    · obtain ⟨p, hp, rfl⟩ := List.mem_map.1 hws
      simp only [List.mem_cons, List.not_mem_nil, or_false]
      rintro w (rfl | rfl)
      · decide
      · exact name_len16 (hg.names _ hp)
    · obtain ⟨x, hx, rfl⟩ := List.mem_map.1 hws
      obtain ⟨h1, h2⟩ := noteOK_int (hg.notes x hx) hg.iv.1
      exact noteW_all (P := fun w => w.data.toList.length ≤ 16) (by decide) (by decide) (by decide) (by decide) (ptAt_len16 hg _) (ptAt_len16 hg _) (it_len h1) (it_len h2)
theorem line_len16 {ws : List ByteArray} {n : Nat} (hn : ws.length ≤ n) (h : ∀ w ∈ ws, w.data.toList.length ≤ 16) : (lineW ws).length ≤ n * 17 + 1 := by
  have := lineB_len (ws := ws.map (·.data.toList)) (m := 16) (fun x hx => by
    obtain ⟨y, hy, rfl⟩ := List.mem_map.1 hx
    exact h y hy)
  unfold lineW
  rw [List.length_map] at this
  omega
theorem noteW_few (s : ShR) (x : NoteR) : (noteW s x).length ≤ 5 := by
  unfold noteW
  split
  · simp
  · split
    · simp
    · split <;> simp
theorem text_small {s : ShR} (hg : Good s) : (textB s).length ≤ 1500 := by
  have hl := linesW_len hg
  unfold linesW at hl
  have h1 : (headB s).length ≤ 2 * 17 + 1 := line_len16 (by simp) (hl _ (by simp))
  have h2 : (ptsB s.pts).length ≤ s.pts.length * (2 * 17 + 1) := flatB_len fun p hp => line_len16 (by simp) (hl _ (List.mem_cons_of_mem _ (List.mem_append_left _ (List.mem_map.2 ⟨p, hp, rfl⟩))))
  have h3 : (notesB s s.notes).length ≤ s.notes.length * (5 * 17 + 1) := flatB_len fun x hx => line_len16 (noteW_few s x) (hl _ (List.mem_cons_of_mem _ (List.mem_append_right _ (List.mem_map.2 ⟨x, hx, rfl⟩))))
  have := hg.plen
  have := hg.nlen
  unfold textB
  rw [List.length_append, List.length_append]
  omega
theorem idx_pt {s : ShR} (hg : Good s) {a : Int} (ha : 0 ≤ a ∧ a < s.pts.length) : Lib.idxOfS s.pts (ptAt s a) = a := by
  have hlt : a.toNat < s.pts.length := by omega
  have e : ptAt s a = s.pts.getD a.toNat ByteArray.empty := by unfold ptAt; rw [List.getD_eq_getElem?_getD]
  have h := Lib.idxFromS_hit (ptAt s a) s.pts a.toNat 0 hlt e.symm (fun j hj he => by
    have hf := hg.fresh a.toNat hlt
    rw [List.any_eq_false] at hf
    have hm : s.pts.getD j ByteArray.empty ∈ s.pts.take a.toNat := by
      rw [getD_at (by omega)]
      exact List.mem_iff_getElem.2 ⟨j, by rw [List.length_take]; omega, by rw [List.getElem_take]⟩
    have := hf _ hm
    rw [he, e] at this
    simp at this)
  unfold Lib.idxOfS
  rw [h]
  omega
theorem point_pt {s : ShR} (hg : Good s) {a : Int} (ha : 0 ≤ a ∧ a < s.pts.length) {ws : List ByteArray} {i : Nat} (hi : i < ws.length) (hw : wd ws i = ptAt s a) : pointF s.pts ws i = some a := by
  unfold pointF
  rw [hw, idx_pt hg ha, if_pos ⟨hi, ha.1⟩]
theorem take_note {s t : ShR} (hg : Good s) (ht : t.pts = s.pts) {x : NoteR} (hx : NoteOK s.pts.length s.iv x) : takeF t (noteW s x) = some (addN t x) := by
  obtain ⟨h1, h2⟩ := noteOK_int hx hg.iv.1
  have nl := numF_it (n := x.lo) (by omega)
  have nh := numF_it (n := x.hi) (by omega)
  have hk := hx.kind
  obtain ⟨k, a, b, lo, hi⟩ := x
  rcases (show k = 1 ∨ k = 2 ∨ k = 3 ∨ k = 4 by simp at hk; omega) with rfl | rfl | rfl | rfl
  · have hb := hx.one (.inl rfl)
    simp at hb
    subst hb
    have p1 := point_pt hg hx.a (ws := [wSpot, ptAt s a, itB lo, itB hi]) (i := 1) (by simp) rfl
    simp only at p1 nl nh
    rw [show noteW s ⟨1, a, 0, lo, hi⟩ = [wSpot, ptAt s a, itB lo, itB hi] by unfold noteW; simp]
    unfold takeF
    rw [ht, if_neg (by show wSpot ≠ wSheet; decide), if_neg (by show wSpot ≠ wPoint; decide), if_neg (by show wSpot ≠ wLake; decide), if_pos (.inl (by rfl)), if_pos (by rfl)]
    rw [p1]
    show ((numF (itB lo)).bind fun lo => (numF (itB hi)).map fun hi => addN t ⟨if wSpot = wContour then 2 else 1, a, 0, lo, hi⟩) = _
    rw [nl, nh, if_neg (by decide)]
    rfl
  · have hb := hx.one (.inr rfl)
    simp at hb
    subst hb
    have p1 := point_pt hg hx.a (ws := [wContour, ptAt s a, itB lo, itB hi]) (i := 1) (by simp) rfl
    simp only at p1 nl nh
    rw [show noteW s ⟨2, a, 0, lo, hi⟩ = [wContour, ptAt s a, itB lo, itB hi] by unfold noteW; simp]
    unfold takeF
    rw [ht, if_neg (by show wContour ≠ wSheet; decide), if_neg (by show wContour ≠ wPoint; decide), if_neg (by show wContour ≠ wLake; decide), if_pos (.inr (by rfl)), if_pos (by rfl)]
    rw [p1]
    show ((numF (itB lo)).bind fun lo => (numF (itB hi)).map fun hi => addN t ⟨if wContour = wContour then 2 else 1, a, 0, lo, hi⟩) = _
    rw [nl, nh, if_pos rfl]
    rfl
  · obtain ⟨e1, e2⟩ := hx.lake rfl
    simp at e1 e2
    subst e1 e2
    have p1 := point_pt hg hx.a (ws := [wLake, ptAt s a, ptAt s b]) (i := 1) (by simp) rfl
    have p2 := point_pt hg hx.b (ws := [wLake, ptAt s a, ptAt s b]) (i := 2) (by simp) rfl
    simp only at p1 p2
    rw [show noteW s ⟨3, a, b, 0, 0⟩ = [wLake, ptAt s a, ptAt s b] by unfold noteW; simp]
    unfold takeF
    rw [ht, if_neg (by show wLake ≠ wSheet; decide), if_neg (by show wLake ≠ wPoint; decide), if_pos (by rfl), if_pos (by rfl)]
    rw [p1, p2]
    rfl
  · have p1 := point_pt hg hx.a (ws := [wSlope, ptAt s a, ptAt s b, itB lo, itB hi]) (i := 1) (by simp) rfl
    have p2 := point_pt hg hx.b (ws := [wSlope, ptAt s a, ptAt s b, itB lo, itB hi]) (i := 2) (by simp) rfl
    simp only at p1 p2 nl nh
    rw [show noteW s ⟨4, a, b, lo, hi⟩ = [wSlope, ptAt s a, ptAt s b, itB lo, itB hi] by unfold noteW; simp]
    unfold takeF
    rw [ht, if_neg (by show wSlope ≠ wSheet; decide), if_neg (by show wSlope ≠ wPoint; decide), if_neg (by show wSlope ≠ wLake; decide), if_neg (by show ¬ (wSlope = wSpot ∨ wSlope = wContour); decide), if_pos (by rfl), if_pos (by rfl)]
    rw [p1, p2]
    show ((numF (itB lo)).bind fun lo => (numF (itB hi)).map fun hi => addN t ⟨4, a, b, lo, hi⟩) = _
    rw [nl, nh]
    rfl
theorem takes_append (l m : List (List ByteArray)) (s : ShR) : takesF s (l ++ m) = (takesF s l).bind fun t => takesF t m := by
  induction l generalizing s with
  | nil => simp [takesF]
  | cons x l ih =>
    simp only [List.cons_append, takesF]
    cases takeF s x with
    | none => rfl
    | some t => exact ih t
theorem takes_pts (l : List ByteArray) (s : ShR) : takesF s (l.map fun p => [wPoint, p]) = some { s with pts := s.pts ++ l } := by
  induction l generalizing s with
  | nil => simp [takesF]
  | cons p l ih =>
    have h1 : takeF s [wPoint, p] = some (addP s p) := by
      unfold takeF
      rw [if_neg (by show wPoint ≠ wSheet; decide), if_pos (by rfl), if_pos (by rfl)]
      rfl
    rw [List.map_cons]
    unfold takesF
    rw [h1]
    show takesF (addP s p) _ = _
    rw [ih]
    simp [addP]
theorem takes_notes {s : ShR} (hg : Good s) : ∀ (l : List NoteR) (t : ShR), (∀ x ∈ l, x ∈ s.notes) → t.pts = s.pts → takesF t (l.map (noteW s)) = some { t with notes := t.notes ++ l } := by
  intro l
  induction l with
  | nil => intro t _ _; simp [takesF]
  | cons x l ih =>
    intro t hl ht
    rw [List.map_cons]
    unfold takesF
    rw [take_note hg ht (hg.notes x (hl x (by simp)))]
    show takesF (addN t x) _ = _
    rw [ih (addN t x) (fun y hy => hl y (by simp [hy])) ht]
    simp [addN]
theorem takes_lines {s : ShR} (hg : Good s) : takesF zeroS (linesW s) = some s := by
  have h1 : takeF zeroS [wSheet, itB s.iv] = some ⟨s.iv, [], []⟩ := by
    unfold takeF
    rw [if_pos (by rfl), if_pos (by rfl)]
    show (numF (itB s.iv)).map _ = _
    rw [numF_it (by have := hg.iv; omega)]
    rfl
  unfold linesW
  unfold takesF
  rw [h1]
  show takesF ⟨s.iv, [], []⟩ _ = _
  rw [takes_append, takes_pts]
  show takesF ⟨s.iv, [] ++ s.pts, []⟩ _ = _
  rw [List.nil_append, takes_notes hg s.notes ⟨s.iv, s.pts, []⟩ (fun _ h => h) rfl]
  simp
/-- THE WAY BACK -/
theorem read_text {s : ShR} (hg : Good s) : readF ⟨(textB s).toArray⟩ = (s, 0) := by
  have hsz : (⟨(textB s).toArray⟩ : ByteArray).size = (textB s).length := by simp [ByteArray.size]
  have hsm := text_small hg
  unfold readF
  rw [if_neg (by omega)]
  have hl : linesOf ⟨(textB s).toArray⟩ = (linesW s).map fun ws => ⟨(lineW ws).toArray⟩ := by
    refine toLists_inj ?_
    unfold linesOf
    rw [linesN_cat ((linesW s).map fun ws => Lib.join (ws.map (·.data.toList)) [32]) _ _ (Nat.le_refl _) ?_ ?_]
    · rw [List.map_map, List.map_map]
      rfl
    · show textB s = _
      rw [text_lines, List.flatMap_map]
      rfl
    · intro b hb
      obtain ⟨ws, hws, rfl⟩ := List.mem_map.1 hb
      exact join_clean fun w hw => by
        obtain ⟨v, hv, rfl⟩ := List.mem_map.1 hw
        exact fun hm => ((linesW_clean hg ws hws).2 v hv _ hm).1 rfl
  have hw : (linesOf ⟨(textB s).toArray⟩).map wordsOf = linesW s := by
    rw [hl, List.map_map]
    conv => rhs; rw [← List.map_id (linesW s)]
    refine List.map_congr_left fun ws hws => ?_
    obtain ⟨h1, h2⟩ := linesW_clean hg ws hws
    exact words_line h1 h2 rfl
  rw [hw, takes_lines hg]
  unfold endF
  simp only
  rw [if_pos ⟨errOf_good hg, by trivial⟩]
theorem read_ok {t : ByteArray} (h : (readF t).2 = 0) : Good (readF t).1 ∧ (⟨(textB (readF t).1).toArray⟩ : ByteArray) = t := by
  unfold readF at *
  split at h
  · cases h
  · rename_i h0
    rw [if_neg h0]
    generalize takesF zeroS ((linesOf t).map wordsOf) = o at *
    cases o with
    | none => cases h
    | some s =>
      unfold endF at *
      simp only at *
      split at h
      · rename_i hc
        rw [if_pos hc]
        exact ⟨good_of_valid hc.1, hc.2⟩
      · cases h
theorem read_zero {t : ByteArray} (h : (readF t).2 ≠ 0) : (readF t).1 = zeroS := by
  unfold readF at *
  split
  · rfl
  · rename_i h0
    rw [if_neg h0] at h
    generalize takesF zeroS ((linesOf t).map wordsOf) = o at *
    cases o with
    | none => rfl
    | some s =>
      unfold endF at *
      simp only at *
      split
      · rename_i hc
        rw [if_pos hc] at h
        exact absurd rfl h
      · rfl
end Go.Proofs.YtajdgdelhlfniaaGreatDoor
namespace Go.Proofs.YtajdgdelhlfniaaGreatDoor

def updM (t : Mat) (i n : Nat) (v : Int) : Mat := fun a b => if a = i ∧ b = n then v else t a b
def fwStep (k i n : Nat) (t : Mat) : Mat := updM t i n (min (t i n) (t i k + t k n))
/-- the first n columns of row i, by way of k -/
def fwN (k i : Nat) (t : Mat) : Nat → Mat
  | 0 => t
  | n + 1 => fwStep k i n (fwN k i t n)
/-- the first i rows -/
def fwI (N k : Nat) (t : Mat) : Nat → Mat
  | 0 => t
  | i + 1 => fwN k i (fwI N k t i) N
/-- by way of the first k points -/
def fwK (N : Nat) (t : Mat) : Nat → Mat
  | 0 => t
  | k + 1 => fwI N k (fwK N t k) N
def fwM (N : Nat) (t : Mat) : Mat := fwK N t N
def diagB (N : Nat) (t : Mat) : Bool := (List.range N).all fun i => decide (0 ≤ t i i)
def SolN (N : Nat) (t : Mat) (y : Nat → Int) : Prop := ∀ i k, i < N → k < N → y k - y i ≤ t i k

/-! ### what a property keeps through the steps -/
theorem fwN_ind {P : Mat → Prop} {k i : Nat} {t : Mat} (h0 : P t) {N : Nat} (hs : ∀ n t', n < N → P t' → P (fwStep k i n t')) : ∀ n, n ≤ N → P (fwN k i t n) := by
  intro n
  induction n with
  | zero => intro _; exact h0
  | succ n ih => intro hn; exact hs n _ (by omega) (ih (by omega))
theorem fwI_ind {P : Mat → Prop} {N k : Nat} {t : Mat} (h0 : P t) (hs : ∀ i n t', i < N → n < N → P t' → P (fwStep k i n t')) : ∀ i, i ≤ N → P (fwI N k t i) := by
  intro i
  induction i with
  | zero => intro _; exact h0
  | succ i ih => intro hi; exact fwN_ind (ih (by omega)) (fun n t' hn ht => hs i n t' (by omega) hn ht) N (Nat.le_refl _)
theorem fwK_ind {P : Mat → Prop} {N : Nat} {t : Mat} (h0 : P t) (hs : ∀ k i n t', k < N → i < N → n < N → P t' → P (fwStep k i n t')) : ∀ k, k ≤ N → P (fwK N t k) := by
  intro k
  induction k with
  | zero => intro _; exact h0
  | succ k ih => intro hk; exact fwI_ind (ih (by omega)) (fun i n t' hi hn ht => hs k i n t' (by omega) hi hn ht) N (Nat.le_refl _)
theorem step_le (k i n : Nat) (t : Mat) (a b : Nat) : fwStep k i n t a b ≤ t a b := by
  unfold fwStep updM
  split
  · rename_i h
    obtain ⟨rfl, rfl⟩ := h
    omega
  · omega
theorem step_sol {N k i n : Nat} {t : Mat} (hk : k < N) (hi : i < N) (hn : n < N) (y : Nat → Int) : SolN N (fwStep k i n t) y ↔ SolN N t y := by
  constructor
  · intro h a b ha hb
    exact Int.le_trans (h a b ha hb) (step_le k i n t a b)
  · intro h a b ha hb
    unfold fwStep updM
    split
    · rename_i e
      obtain ⟨rfl, rfl⟩ := e
      have h1 := h a k ha hk
      have h2 := h k b hk hb
      have h3 := h a b ha hb
      omega
    · exact h a b ha hb
theorem fw_sol {N : Nat} (t : Mat) (y : Nat → Int) : SolN N (fwM N t) y ↔ SolN N t y :=
  fwK_ind (P := fun t' => SolN N t' y ↔ SolN N t y) Iff.rfl (fun _ _ _ _ hk hi hn h => (step_sol hk hi hn y).trans h) N (Nat.le_refl _)
theorem fwK_mono {N : Nat} (t : Mat) (a b : Nat) : ∀ k j, k ≤ j → j ≤ N → fwK N t j a b ≤ fwK N t k a b := by
  intro k j hkj
  induction j with
  | zero => intro _; obtain rfl : k = 0 := by omega
            omega
  | succ j ih =>
    intro hj
    by_cases e : k = j + 1
    · subst e; omega
    · refine Int.le_trans ?_ (ih (by omega) (by omega))
      exact fwI_ind (P := fun t' => t' a b ≤ fwK N t j a b) (Int.le_refl _) (fun i n t' _ _ h => Int.le_trans (step_le _ _ _ _ _ _) h) N (Nat.le_refl _)
/-- a round where the way by k to itself is 0 -/
theorem fwN_eq {k i : Nat} {t : Mat} (hkk : t k k = 0) : ∀ n a b, fwN k i t n a b = if a = i ∧ b < n then min (t i b) (t i k + t k b) else t a b := by
  intro n
  induction n with
  | zero => intro a b; simp [fwN]
  | succ n ih =>
    intro a b
    have e1 : fwN k i t n i k = t i k := by
      rw [ih]
      split
      · rw [hkk]; omega
      · rfl
    have e2 : ∀ c, fwN k i t n k c = t k c := fun c => by
      rw [ih]
      split
      · rename_i h
        obtain ⟨rfl, _⟩ := h
        rw [hkk]; omega
      · rfl
    have e3 : fwN k i t n i n = t i n := by
      rw [ih, if_neg (by omega)]
    show fwStep k i n (fwN k i t n) a b = _
    unfold fwStep updM
    rw [e1, e2, e3]
    by_cases ha : a = i
    · by_cases hb : b = n
      · subst ha hb
        rw [if_pos ⟨rfl, rfl⟩, if_pos ⟨rfl, by omega⟩]
      · rw [if_neg (fun h => hb h.2), ih]
        by_cases hb2 : b < n
        · rw [if_pos ⟨ha, hb2⟩, if_pos ⟨ha, by omega⟩]
        · rw [if_neg (fun h => hb2 h.2), if_neg (fun h => by omega)]
    · rw [if_neg (fun h => ha h.1), ih, if_neg (fun h => ha h.1), if_neg (fun h => ha h.1)]
theorem fwI_eq {N k : Nat} {t : Mat} (_hk : k < N) (hkk : t k k = 0) : ∀ i a b, i ≤ N → b < N → fwI N k t i a b = if a < i then min (t a b) (t a k + t k b) else t a b := by
  intro i
  induction i with
  | zero => intro a b _ _; simp [fwI]
  | succ i ih =>
    intro a b hi hb
    have hrow : ∀ c, c < N → fwI N k t i k c = t k c := fun c hc => by
      rw [ih k c (by omega) hc]
      split
      · rw [hkk]; omega
      · rfl
    have hkk2 : fwI N k t i k k = 0 := by rw [hrow k (by omega), hkk]
    show fwN k i (fwI N k t i) N a b = _
    rw [fwN_eq hkk2]
    by_cases ha : a = i
    · subst ha
      rw [if_pos ⟨rfl, hb⟩, if_pos (by omega), ih a b (by omega) hb, if_neg (by omega), ih a k (by omega) (by omega), if_neg (by omega), hrow b hb]
    · rw [if_neg (fun h => ha h.1), ih a b (by omega) hb]
      by_cases h2 : a < i
      · rw [if_pos h2, if_pos (by omega)]
      · rw [if_neg h2, if_neg (by omega)]
/-- what is closed by way of the first k points -/
def TriK (N k : Nat) (t : Mat) : Prop := ∀ i p j, i < N → p < k → j < N → t i j ≤ t i p + t p j
theorem tri_round {N k : Nat} {t : Mat} (hk : k < N) (hkk : t k k = 0) (h : TriK N k t) : TriK N (k + 1) (fwI N k t N) := by
  have e : ∀ a b, a < N → b < N → fwI N k t N a b = min (t a b) (t a k + t k b) := fun a b ha hb => by
    rw [fwI_eq hk hkk N a b (Nat.le_refl _) hb, if_pos ha]
  intro i p j hi hp hj
  rw [e i j hi hj, e i p hi (by omega), e p j (by omega) hj]
  by_cases hpk : p = k
  · subst hpk
    omega
  · have h1 := h i p j hi (by omega) hj
    have h2 := h k p j hk (by omega) hj
    have h3 := h i p k hi (by omega) hk
    have h4 := h k p k hk (by omega) hk
    omega
theorem fw_tri {N : Nat} {t : Mat} (h0 : ∀ i, i < N → t i i = 0) (hd : ∀ i, i < N → 0 ≤ fwM N t i i) : ∀ k, k ≤ N → TriK N k (fwK N t k) := by
  intro k
  induction k with
  | zero => intro _ i p j _ hp _; omega
  | succ k ih =>
    intro hk
    refine tri_round (by omega) ?_ (ih (by omega))
    have h1 := fwK_mono (N := N) t k k 0 k (by omega) (by omega)
    have h2 := fwK_mono (N := N) t k k k N (by omega) (Nat.le_refl _)
    have h3 := h0 k (by omega)
    have h4 := hd k (by omega)
    unfold fwM at h4
    have h5 : fwK N t 0 k k = t k k := rfl
    omega
theorem diagB_iff {N : Nat} {t : Mat} : diagB N t = true ↔ ∀ i, i < N → 0 ≤ t i i := by
  simp [diagB, List.all_eq_true]
theorem fw_closed {N : Nat} {t : Mat} (h0 : ∀ i, i < N → t i i = 0) (hd : diagB N (fwM N t) = true) : Closed N (fwM N t) := by
  rw [diagB_iff] at hd
  refine ⟨fun i hi => ?_, fun i j k hi hj hk => fw_tri h0 hd N (Nat.le_refl _) i j k hi hj hk⟩
  have h1 := fwK_mono (N := N) t i i 0 N (by omega) (Nat.le_refl _)
  have h2 := h0 i hi
  have h3 := hd i hi
  have h5 : fwK N t 0 i i = t i i := rfl
  unfold fwM at *
  omega
/-- THE REFERENCE's ANSWER: just if there is a truth -/
theorem fw_iff {N : Nat} {t : Mat} (hN : 0 < N) (h0 : ∀ i, i < N → t i i = 0) : diagB N (fwM N t) = true ↔ ∃ y, SolN N t y := by
  constructor
  · intro h
    exact ⟨fun j => fwM N t 0 j, (fw_sol t _).1 ((fw_closed h0 h).row hN)⟩
  · rintro ⟨y, hy⟩
    rw [diagB_iff]
    intro i hi
    have := (fw_sol t y).2 hy i i hi hi
    omega

/-! ### how far numbers go -/
theorem fw_le {N : Nat} {t : Mat} {C : Int} (h : ∀ a b, a < N → b < N → t a b ≤ C) : ∀ k, k ≤ N → ∀ a b, a < N → b < N → fwK N t k a b ≤ C := fun k hk a b ha hb =>
  Int.le_trans (fwK_mono t a b 0 k (by omega) hk) (h a b ha hb)
/-- within round k, when rows below i and the first n columns of row i are done -/
structure Bd (N k i n : Nat) (M : Int) (t : Mat) : Prop where
  all : ∀ a b, a < N → b < N → -(6 * M) ≤ t a b
  row : ∀ b, b < N → -(3 * M) ≤ t k b
  col : ∀ a, a < N → -(3 * M) ≤ t a k
  kk : -(2 * M) ≤ t k k
  yet : ∀ a b, a < N → b < N → (i < a ∨ (a = i ∧ n ≤ b)) → -M ≤ t a b
theorem Bd.start {N k : Nat} {M : Int} {t : Mat} (hk : k < N) (hM : 0 ≤ M) (h : ∀ a b, a < N → b < N → -M ≤ t a b) : Bd N k 0 0 M t :=
  ⟨fun a b ha hb => by have := h a b ha hb; omega, fun b hb => by have := h k b hk hb; omega, fun a ha => by have := h a k ha hk; omega, by have := h k k hk hk; omega, fun a b ha hb _ => h a b ha hb⟩
theorem Bd.step {N k i n : Nat} {M : Int} {t : Mat} (hk : k < N) (hi : i < N) (hn : n < N) (hM : 0 ≤ M) (h : Bd N k i n M t) : Bd N k i (n + 1) M (fwStep k i n t) := by
  have u1 := h.col i hi
  have v1 := h.row n hn
  have w1 := h.kk
  have x1 := h.yet i n hi hn (.inr ⟨rfl, Nat.le_refl _⟩)
  have key : ∀ a b, fwStep k i n t a b = if a = i ∧ b = n then min (t i n) (t i k + t k n) else t a b := fun a b => rfl
  refine ⟨fun a b ha hb => ?_, fun b hb => ?_, fun a ha => ?_, ?_, fun a b ha hb hy => ?_⟩
  · rw [key]
    split
    · omega
    · exact h.all a b ha hb
  · rw [key]
    split
    · rename_i e
      obtain ⟨rfl, rfl⟩ := e
      omega
    · exact h.row b hb
  · rw [key]
    split
    · rename_i e
      obtain ⟨rfl, rfl⟩ := e
      omega
    · exact h.col a ha
  · rw [key]
    split
    · rename_i e
      obtain ⟨rfl, rfl⟩ := e
      omega
    · exact h.kk
  · rw [key]
    split
    · rename_i e
      omega
    · exact h.yet a b ha hb (by omega)
theorem Bd.next {N k i : Nat} {M : Int} {t : Mat} (h : Bd N k i N M t) : Bd N k (i + 1) 0 M t :=
  ⟨h.all, h.row, h.col, h.kk, fun a b ha hb hy => h.yet a b ha hb (by omega)⟩
theorem bd_fwN {N k i : Nat} {M : Int} {t : Mat} (hk : k < N) (hi : i < N) (hM : 0 ≤ M) (h : Bd N k i 0 M t) : ∀ n, n ≤ N → Bd N k i n M (fwN k i t n) := by
  intro n
  induction n with
  | zero => intro _; exact h
  | succ n ih => intro hn; exact (ih (by omega)).step hk hi (by omega) hM
theorem bd_fwI {N k : Nat} {M : Int} {t : Mat} (hk : k < N) (hM : 0 ≤ M) (h : Bd N k 0 0 M t) : ∀ i, i ≤ N → Bd N k i 0 M (fwI N k t i) := by
  intro i
  induction i with
  | zero => intro _; exact h
  | succ i ih => intro hi; exact (bd_fwN hk (by omega) hM (ih (by omega)) N (Nat.le_refl _)).next
def mK (M : Int) : Nat → Int
  | 0 => M
  | k + 1 => 6 * mK M k
theorem mK_pos {M : Int} (hM : 0 ≤ M) (k : Nat) : 0 ≤ mK M k := by
  induction k with
  | zero => exact hM
  | succ k ih => show 0 ≤ 6 * mK M k; omega
theorem bd_fwK {N : Nat} {M : Int} {t : Mat} (hM : 0 ≤ M) (h : ∀ a b, a < N → b < N → -M ≤ t a b) : ∀ k, k ≤ N → ∀ a b, a < N → b < N → -(mK M k) ≤ fwK N t k a b := by
  intro k
  induction k with
  | zero => intro _ a b ha hb; exact h a b ha hb
  | succ k ih =>
    intro hk a b ha hb
    exact (bd_fwI (by omega) (mK_pos hM k) (Bd.start (by omega) (mK_pos hM k) (ih (by omega))) N (Nat.le_refl _)).all a b ha hb
theorem mK_small {k : Nat} (hk : k ≤ 9) : mK 18000 k ≤ 200000000000 := by
  have : ∀ j : Fin 10, mK 18000 j.val ≤ 200000000000 := by decide +kernel
  exact this ⟨k, by omega⟩
/-- every number within a round lies far from the ends of an int -/
theorem fw_range {N k i n : Nat} {t : Mat} (hN : N ≤ 9) (hk : k < N) (hi : i < N) (hn : n ≤ N) (h : ∀ a b, a < N → b < N → -18000 ≤ t a b ∧ t a b ≤ 18000) : ∀ a b, a < N → b < N → -1500000000000 ≤ fwN k i (fwI N k (fwK N t k) i) n a b ∧ fwN k i (fwI N k (fwK N t k) i) n a b ≤ 18000 := by
  intro a b ha hb
  have h1 := bd_fwK (N := N) (M := 18000) (t := t) (by omega) (fun a b ha hb => (h a b ha hb).1) k (by omega)
  have hp := mK_pos (M := 18000) (by omega) k
  have h2 := (bd_fwN hk hi hp (bd_fwI hk hp (Bd.start hk hp h1) i (by omega)) n hn).all a b ha hb
  have h3 := mK_small (k := k) (by omega)
  refine ⟨by omega, ?_⟩
  have h4 : fwI N k (fwK N t k) i a b ≤ 18000 := fwI_ind (P := fun t' => t' a b ≤ 18000) (fw_le (fun a b ha hb => (h a b ha hb).2) k (by omega) a b ha hb) (fun i n t' _ _ h => Int.le_trans (step_le _ _ _ _ _ _) h) i (by omega)
  exact fwN_ind (P := fun t' => t' a b ≤ 18000) (N := N) h4 (fun n t' _ h => Int.le_trans (step_le _ _ _ _ _ _) h) n hn

/-! ### the bounds of notes -/
/-- without notes; N - 1 is the level of the sea -/
def startM (N : Nat) : Mat := fun i k => if i = k ∨ k + 1 = N then 0 else 9000
def othR (np : Nat) (x : NoteR) : Nat := if x.kind = 1 ∨ x.kind = 2 then np else x.b.toNat
/-- with one note more -/
def noteM (np : Nat) (iv wd : Int) (t : Mat) (x : NoteR) : Mat :=
  let t1 := updM t (othR np x) x.a.toNat (min (t (othR np x) x.a.toNat) (nhi iv x + wd))
  updM t1 x.a.toNat (othR np x) (min (t1 x.a.toNat (othR np x)) (wd - nlo iv x))
def notesM (np : Nat) (iv wd : Int) (l : List NoteR) (t : Mat) : Mat := l.foldl (noteM np iv wd) t
theorem notesM_snoc (np : Nat) (iv wd : Int) (l : List NoteR) (x : NoteR) (t : Mat) : notesM np iv wd (l ++ [x]) t = noteM np iv wd (notesM np iv wd l t) x := by simp [notesM]
def refM (s : ShR) (l : List NoteR) (wd : Int) : Mat := notesM s.pts.length s.iv wd l (startM (s.pts.length + 1))
/-- where a place of the reference lies in the program's bounds -/
def emb (np : Nat) (i : Nat) : Nat := if i = np then 8 else i
theorem oth_emb {np : Nat} {iv : Int} {x : NoteR} (h : NoteOK np iv x) : othN x = emb np (othR np x) := by
  have := h.b
  unfold othN othR emb
  split
  · rw [if_pos rfl]
  · rw [if_neg (by omega)]
theorem othR_lt {np : Nat} {iv : Int} {x : NoteR} (h : NoteOK np iv x) : othR np x < np + 1 := by
  have hb := h.b
  unfold othR
  split <;> omega
theorem othR_ne {np : Nat} {iv : Int} {x : NoteR} (h : NoteOK np iv x) : x.a.toNat ≠ othR np x := by
  have ha := h.a
  have hb := h.b
  have hk := h.kind
  unfold othR
  split
  · omega
  · have := h.two (by omega)
    omega
theorem noteM_at {np : Nat} {iv wd : Int} {x : NoteR} {t : Mat} (hne : x.a.toNat ≠ othR np x) (i k : Nat) : noteM np iv wd t x i k = if i = x.a.toNat ∧ k = othR np x then min (t i k) (wd - nlo iv x) else if i = othR np x ∧ k = x.a.toNat then min (t i k) (nhi iv x + wd) else t i k := by
  unfold noteM updM
  by_cases h1 : i = x.a.toNat ∧ k = othR np x
  · obtain ⟨rfl, rfl⟩ := h1
    simp [hne]
  · by_cases h2 : i = othR np x ∧ k = x.a.toNat
    · obtain ⟨rfl, rfl⟩ := h2
      simp [hne, Ne.symm hne]
    · simp [h1, h2]
theorem noteM_sol {np : Nat} {iv wd : Int} {x : NoteR} {t : Mat} (h : NoteOK np iv x) (y : Nat → Int) : SolN (np + 1) (noteM np iv wd t x) y ↔ SolN (np + 1) t y ∧ (y x.a.toNat - y (othR np x) ≤ nhi iv x + wd ∧ y (othR np x) - y x.a.toNat ≤ wd - nlo iv x) := by
  have ha := h.a
  have ho := othR_lt h
  have hne := othR_ne h
  have key := noteM_at (iv := iv) (wd := wd) (t := t) hne
  constructor
  · intro hs
    have h1 := hs x.a.toNat (othR np x) (by omega) ho
    have h2 := hs (othR np x) x.a.toNat ho (by omega)
    rw [key, if_pos ⟨rfl, rfl⟩] at h1
    rw [key, if_neg (fun h => hne h.2), if_pos ⟨rfl, rfl⟩] at h2
    refine ⟨fun i k hi hk => ?_, by omega, by omega⟩
    have h3 := hs i k hi hk
    rw [key] at h3
    split at h3
    · omega
    · split at h3 <;> omega
  · rintro ⟨hs, h1, h2⟩ i k hi hk
    have h3 := hs i k hi hk
    rw [key]
    split
    · rename_i e
      obtain ⟨rfl, rfl⟩ := e
      omega
    · split
      · rename_i e
        obtain ⟨rfl, rfl⟩ := e
        omega
      · exact h3
theorem noteM_diag {np : Nat} {iv wd : Int} {x : NoteR} {t : Mat} (h : NoteOK np iv x) (i : Nat) : noteM np iv wd t x i i = t i i := by
  have hne := othR_ne h
  rw [noteM_at hne, if_neg (fun h => hne (h.1.symm.trans h.2)), if_neg (fun h => hne (h.2.symm.trans h.1))]
theorem notesM_sol {np : Nat} {iv wd : Int} : ∀ {l : List NoteR} {t : Mat}, (∀ x ∈ l, NoteOK np iv x) → ∀ y, SolN (np + 1) (notesM np iv wd l t) y ↔ SolN (np + 1) t y ∧ ∀ x ∈ l, y x.a.toNat - y (othR np x) ≤ nhi iv x + wd ∧ y (othR np x) - y x.a.toNat ≤ wd - nlo iv x := by
  intro l
  induction l with
  | nil => intro t _ y; simp [notesM]
  | cons x l ih =>
    intro t hl y
    show SolN (np + 1) (notesM np iv wd l (noteM np iv wd t x)) y ↔ _
    rw [ih (fun z hz => hl z (by simp [hz])) y, noteM_sol (hl x (by simp)) y]
    simp [and_assoc]
theorem notesM_diag {np : Nat} {iv wd : Int} : ∀ {l : List NoteR} {t : Mat}, (∀ x ∈ l, NoteOK np iv x) → ∀ i, notesM np iv wd l t i i = t i i := by
  intro l
  induction l with
  | nil => intro t _ i; rfl
  | cons x l ih =>
    intro t hl i
    show notesM np iv wd l (noteM np iv wd t x) i i = _
    rw [ih (fun z hz => hl z (by simp [hz])), noteM_diag (hl x (by simp))]
theorem noteM_range {np : Nat} {iv wd : Int} {x : NoteR} {t : Mat} (h : NoteOK np iv x) (hi : 1 ≤ iv) (hw : 0 ≤ wd ∧ wd ≤ 18000) (ht : ∀ a b, -18000 ≤ t a b ∧ t a b ≤ 18000) : ∀ a b, -18000 ≤ noteM np iv wd t x a b ∧ noteM np iv wd t x a b ≤ 18000 := by
  intro a b
  have := noteOK_ends h hi
  have := ht a b
  rw [noteM_at (othR_ne h)]
  split
  · omega
  · split <;> omega
theorem notesM_range {np : Nat} {iv wd : Int} (hi : 1 ≤ iv) (hw : 0 ≤ wd ∧ wd ≤ 18000) : ∀ {l : List NoteR} {t : Mat}, (∀ x ∈ l, NoteOK np iv x) → (∀ a b, -18000 ≤ t a b ∧ t a b ≤ 18000) → ∀ a b, -18000 ≤ notesM np iv wd l t a b ∧ notesM np iv wd l t a b ≤ 18000 := by
  intro l
  induction l with
  | nil => intro t _ ht; exact ht
  | cons x l ih =>
    intro t hl ht
    exact ih (fun z hz => hl z (by simp [hz])) (noteM_range (hl x (by simp)) hi hw ht)
theorem startM_range (N : Nat) : ∀ a b, -18000 ≤ startM N a b ∧ startM N a b ≤ 18000 := by
  intro a b
  unfold startM
  split <;> omega
theorem startM_diag (N i : Nat) : startM N i i = 0 := by simp [startM]
/-- heights of the reference's places, laid into the program's -/
def liftY (np : Nat) (y : Nat → Int) : Nat → Int := fun i => if i < np then y i else y np
theorem startM_sol {np : Nat} (hn : np ≤ 8) (y : Nat → Int) : SolN (np + 1) (startM (np + 1)) y ↔ Sol 9 freeM (liftY np y) := by
  rw [free_sol]
  have h8 : liftY np y 8 = y np := by unfold liftY; rw [if_neg (by omega)]
  rw [h8]
  constructor
  · intro hs i hi
    unfold liftY
    split
    · rename_i h
      have h1 := hs i np (by omega) (by omega)
      have h2 := hs np i (by omega) (by omega)
      unfold startM at h1 h2
      rw [if_pos (.inr rfl)] at h1
      rw [if_neg (by omega)] at h2
      omega
    · omega
  · intro h i k hi hk
    have key : ∀ j, j < np → 0 ≤ y j - y np ∧ y j - y np ≤ 9000 := fun j hj => by
      have := h j (by omega)
      unfold liftY at this
      rwa [if_pos hj] at this
    unfold startM
    split
    · rename_i e
      rcases e with rfl | e
      · omega
      · obtain rfl : k = np := by omega
        by_cases hin : i = k
        · subst hin; omega
        · have := key i (by omega); omega
    · rename_i e
      have h1 := key k (by omega)
      by_cases hin : i = np
      · subst hin; omega
      · have := key i (by omega); omega
theorem liftY_a {np : Nat} {iv : Int} {x : NoteR} (h : NoteOK np iv x) (y : Nat → Int) : liftY np y x.a.toNat = y x.a.toNat := by
  have := h.a
  unfold liftY
  rw [if_pos (by omega)]
theorem liftY_o {np : Nat} {iv : Int} {x : NoteR} (hn : np ≤ 8) (h : NoteOK np iv x) (y : Nat → Int) : liftY np y (othN x) = y (othR np x) := by
  have := h.b
  unfold liftY othN othR
  split
  · rw [if_neg (by omega)]
  · rw [if_pos (by omega)]
/-- the reference's bounds and the program's have the same truths -/
theorem refM_sol {s : ShR} (hg : Good s) {l : List NoteR} (hl : ∀ x ∈ l, NoteOK s.pts.length s.iv x) (wd : Int) (y : Nat → Int) : SolN (s.pts.length + 1) (refM s l wd) y ↔ TruthOf (withN s l) wd (liftY s.pts.length y) := by
  unfold refM
  rw [notesM_sol hl, startM_sol hg.plen.2, TruthOf.notes]
  refine and_congr_right fun _ => ⟨fun h x hx => ?_, fun h x hx => ?_⟩
  · have := h x hx
    unfold Says
    rw [liftY_a (hl x hx), liftY_o hg.plen.2 (hl x hx)]
    omega
  · have := h x hx
    unfold Says at this
    rw [liftY_a (hl x hx), liftY_o hg.plen.2 (hl x hx)] at this
    omega
/-- heights of the program's places, as the reference's -/
theorem lift_emb {np : Nat} (Y : Nat → Int) {i : Nat} (hi : i < np + 1) : (fun i => Y (emb np i)) i = Y (emb np i) := rfl
theorem sol_back {s : ShR} (hg : Good s) {l : List NoteR} (hl : ∀ x ∈ l, NoteOK s.pts.length s.iv x) {wd : Int} {Y : Nat → Int} (h : TruthOf (withN s l) wd Y) : SolN (s.pts.length + 1) (refM s l wd) (fun i => Y (emb s.pts.length i)) := by
  rw [refM_sol hg hl]
  have hp := hg.plen
  have e8 : liftY s.pts.length (fun i => Y (emb s.pts.length i)) 8 = Y 8 := by
    unfold liftY
    rw [if_neg (by omega)]
    show Y (emb s.pts.length s.pts.length) = Y 8
    unfold emb
    rw [if_pos rfl]
  have ei : ∀ i, i < s.pts.length → liftY s.pts.length (fun i => Y (emb s.pts.length i)) i = Y i := fun i hi => by
    unfold liftY
    rw [if_pos hi]
    show Y (emb s.pts.length i) = Y i
    unfold emb
    rw [if_neg (by omega)]
  refine ⟨?_, fun x hx => ?_⟩
  · have h0 := (free_sol Y).1 h.1
    rw [free_sol]
    intro i hi
    rw [e8]
    by_cases hin : i < s.pts.length
    · rw [ei i hin]; exact h0 i hi
    · have e2 : emb s.pts.length s.pts.length = 8 := by unfold emb; rw [if_pos rfl]
      unfold liftY
      rw [if_neg hin]
      show 0 ≤ Y (emb s.pts.length s.pts.length) - Y 8 ∧ Y (emb s.pts.length s.pts.length) - Y 8 ≤ 9000
      rw [e2]
      omega
  · have h1 := h.2 x hx
    have ho := hl x hx
    have ha := ho.a
    have hb := ho.b
    unfold Says at *
    rw [ei _ (by omega)]
    unfold othN at *
    split at h1
    · rename_i hk
      rw [if_pos hk, e8]
      exact h1
    · rename_i hk
      rw [if_neg hk, ei _ (by omega)]
      exact h1
theorem ref_iff {s : ShR} (hg : Good s) {l : List NoteR} (hl : ∀ x ∈ l, NoteOK s.pts.length s.iv x) (wd : Int) : diagB (s.pts.length + 1) (fwM (s.pts.length + 1) (refM s l wd)) = true ↔ ∃ y, TruthOf (withN s l) wd y := by
  rw [fw_iff (by omega) (fun i _ => by unfold refM; rw [notesM_diag hl, startM_diag])]
  constructor
  · rintro ⟨y, hy⟩
    exact ⟨_, (refM_sol hg hl wd y).1 hy⟩
  · rintro ⟨Y, hY⟩
    exact ⟨_, sol_back hg hl hY⟩
/-- the reference's numbers are the program's -/
theorem ref_eq {s : ShR} (h : openE s = 0) {i k : Nat} (hi : i < s.pts.length + 1) (hk : k < s.pts.length + 1) : fwM (s.pts.length + 1) (refM s s.notes 0) i k = openM s (emb s.pts.length i) (emb s.pts.length k) := by
  have hg := good_of_open h
  have hp := hg.plen
  have hl : ∀ x ∈ s.notes, NoteOK s.pts.length s.iv x := hg.notes
  have hex : ∃ y, TruthOf s 0 y := by
    rcases openE_two hg with ⟨_, hy⟩ | ⟨e, _⟩
    · exact hy
    · rw [h] at e; cases e
  have hcl := fw_closed (N := s.pts.length + 1) (t := refM s s.notes 0) (fun i _ => by unfold refM; rw [notesM_diag hl, startM_diag]) ((ref_iff hg hl 0).2 hex)
  have emb_lt : ∀ j, j < s.pts.length + 1 → emb s.pts.length j < 9 := fun j hj => by unfold emb; split <;> omega
  have lift_e : ∀ (y : Nat → Int) j, j < s.pts.length + 1 → liftY s.pts.length y (emb s.pts.length j) = y j := fun y j hj => by
    unfold liftY emb
    split
    · rename_i e; rw [if_neg (by omega), e]
    · rw [if_pos (by omega)]
  have hM := openM_fine h
  refine Int.le_antisymm ?_ ?_
  · have hrow : SolN (s.pts.length + 1) (fwM (s.pts.length + 1) (refM s s.notes 0)) (fun j => fwM (s.pts.length + 1) (refM s s.notes 0) i j) := hcl.row hi
    have h1 := (refM_sol hg hl 0 _).1 ((fw_sol _ _).1 hrow)
    have h2 := (open_sol h _).2 h1 (emb s.pts.length i) (emb s.pts.length k) (emb_lt i hi) (emb_lt k hk)
    rw [lift_e _ k hk, lift_e _ i hi, hcl.diag i hi] at h2
    omega
  · have h1 := (open_sol h _).1 (hM.closed.row (emb_lt i hi))
    have h2 := (fw_sol _ _).2 (sol_back (s := s) hg hl h1) i k hi hk
    have h3 := hM.closed.diag _ (emb_lt i hi)
    omega
end Go.Proofs.YtajdgdelhlfniaaGreatDoor
