/- Plain: what a search finds is the first one of the shortest lists. Helpers of the laws of the layer sheet: bits. Helpers of the laws of the layer sheet: ascending. -/
import Derived.Test.YtajdgdelhlfniaaGreatDoorH29
import Derived.Test.YtajdgdelhlfniaaGreatDoorH15
import Derived.Test.YtajdgdelhlfniaaGreatDoorH12
import Derived.Test.YtajdgdelhlfniaaGreatDoorH9
import Derived.Test.YtajdgdelhlfniaaGreatDoorH3
set_option linter.unusedSimpArgs false
set_option linter.unusedVariables false
namespace Go.Proofs.YtajdgdelhlfniaaGreatDoor

/-- ascending numbers from i on, below n -/
def InR (n : Nat) : Nat → List Int → Prop
  | _, [] => True
  | i, x :: l => (i : Int) ≤ x ∧ x < n ∧ InR n (x.toNat + 1) l
theorem InR.mem {n : Nat} : ∀ {l : List Int} {i : Nat}, InR n i l → ∀ x ∈ l, (i : Int) ≤ x ∧ x < n := by
  intro l
  induction l with
  | nil => intro i _ x hx; cases hx
  | cons y l ih =>
    intro i h x hx
    obtain ⟨h1, h2, h3⟩ := h
    rcases List.mem_cons.1 hx with rfl | hx
    · exact ⟨h1, h2⟩
    · have := ih h3 x hx; omega
theorem InR.mono {n : Nat} : ∀ {l : List Int} {i j : Nat}, InR n i l → j ≤ i → InR n j l := by
  intro l
  cases l with
  | nil => intro i j _ _; trivial
  | cons y l => intro i j h hj; obtain ⟨h1, h2, h3⟩ := h; exact ⟨by omega, h2, h3⟩
theorem InR.split {n : Nat} {l : List Int} {i : Nat} (h : InR n i l) : InR n (i + 1) l ∨ ∃ m, l = (i : Int) :: m ∧ InR n (i + 1) m := by
  cases l with
  | nil => exact .inl trivial
  | cons y l =>
    obtain ⟨h1, h2, h3⟩ := h
    by_cases e : y = i
    · subst e
      exact .inr ⟨l, rfl, by simpa using h3⟩
    · exact .inl ⟨by omega, h2, h3⟩
theorem InR.top {n : Nat} {l : List Int} (h : InR n n l) : l = [] := by
  cases l with
  | nil => rfl
  | cons y l => obtain ⟨h1, h2, _⟩ := h; omega
theorem InR.cons {n i : Nat} {l : List Int} (hi : i < n) (h : InR n (i + 1) l) : InR n i ((i : Int) :: l) := ⟨Int.le_refl _, by omega, by simpa using h⟩

/-- not later, of lists as long as each other -/
def lexLe : List Int → List Int → Prop
  | [], _ => True
  | _ :: _, [] => False
  | a :: m, b :: l => a < b ∨ (a = b ∧ lexLe m l)
/-- shorter, or as long and not later -/
def Lx (m l : List Int) : Prop := m.length < l.length ∨ (m.length = l.length ∧ lexLe m l)
theorem Lx.le {m l : List Int} (h : Lx m l) : m.length ≤ l.length := by rcases h with h | ⟨h, _⟩ <;> omega
theorem Lx.cons {m l : List Int} (h : Lx m l) (x : Int) : Lx (x :: m) (x :: l) := by
  rcases h with h | ⟨h, k⟩
  · exact .inl (by simpa using h)
  · exact .inr ⟨by simpa using h, .inr ⟨rfl, k⟩⟩
theorem Lx.nil (l : List Int) : Lx [] l := by
  cases l with
  | nil => exact .inr ⟨rfl, trivial⟩
  | cons _ _ => exact .inl (by simp)

/-- what a search among the lists that begin with cur leaves -/
def Res (Q : List Int → Prop) (n i : Nat) (cur : List Int) (st st' : Bool × List Int) : Prop :=
  (st' = st ∧ ∀ l, InR n i l → Q (cur ++ l) → st.1 = true ∧ st.2.length ≤ (cur ++ l).length) ∨
  (st'.1 = true ∧ ∃ m, st'.2 = cur ++ m ∧ InR n i m ∧ Q (cur ++ m) ∧ (st.1 = true → (cur ++ m).length < st.2.length) ∧ ∀ l, InR n i l → Q (cur ++ l) → Lx m l)
theorem Res.step {Q : List Int → Prop} {n i : Nat} {cur : List Int} {st st1 st2 : Bool × List Int} (hi : i < n) (h1 : Res Q n (i + 1) (cur ++ [(i : Int)]) st st1) (h2 : Res Q n (i + 1) cur st1 st2) : Res Q n i cur st st2 := by
  have app : ∀ l, cur ++ [(i : Int)] ++ l = cur ++ ((i : Int) :: l) := fun l => by simp
  rcases h2 with ⟨rfl, k2⟩ | ⟨e2, m, em, hm, qm, lt2, k2⟩
  · rcases h1 with ⟨rfl, k1⟩ | ⟨e1, m, em, hm, qm, lt1, k1⟩
    · refine .inl ⟨rfl, fun l hl hq => ?_⟩
      rcases hl.split with hl | ⟨l', rfl, hl'⟩
      · exact k2 l hl hq
      · have := k1 l' hl' (by rw [app]; exact hq)
        rwa [app] at this
    · refine .inr ⟨e1, (i : Int) :: m, by rw [em, app], InR.cons hi hm, by rw [← app]; exact qm, fun h => by rw [← app]; exact lt1 h, fun l hl hq => ?_⟩
      rcases hl.split with hl | ⟨l', rfl, hl'⟩
      · have := (k2 l hl hq).2
        rw [em, app] at this
        simp only [List.length_append, List.length_cons] at this
        by_cases he : m.length + 1 = l.length
        · refine .inr ⟨by simpa using he, ?_⟩
          cases l with
          | nil => simp at he
          | cons y l => obtain ⟨h1, _, _⟩ := hl; exact .inl (by omega)
        · exact .inl (by simp only [List.length_cons]; omega)
      · exact (k1 l' hl' (by rw [app]; exact hq)).cons _
  · refine .inr ⟨e2, m, em, hm.mono (by omega), qm, fun h => ?_, fun l hl hq => ?_⟩
    · rcases h1 with ⟨rfl, _⟩ | ⟨e1, m1, em1, _, _, lt1, _⟩
      · exact lt2 h
      · have a := lt2 e1
        have b := lt1 h
        rw [em1] at a
        omega
    · rcases hl.split with hl | ⟨l', rfl, hl'⟩
      · exact k2 l hl hq
      · refine .inl ?_
        rw [← app] at hq
        rcases h1 with ⟨rfl, k1⟩ | ⟨e1, m1, em1, _, _, _, k1⟩
        · obtain ⟨a, b⟩ := k1 l' hl' hq
          have c := lt2 a
          simp only [List.length_append, List.length_cons, List.length_nil] at b c ⊢
          omega
        · have a := (k1 l' hl' hq).le
          have c := lt2 e1
          rw [em1] at c
          simp only [List.length_append, List.length_cons, List.length_nil] at c ⊢
          omega

/-- what a note of a sheet says -/
def SaysAt (s : ShR) (j : Int) (y : Nat → Int) : Prop := Says s.iv 0 (s.notes.getD j.toNat default) y
/-- notes that contradict each other -/
def BadL (s : ShR) (l : List Int) : Prop := ∀ y, ¬ (Sol 9 freeM y ∧ ∀ j ∈ l, SaysAt s j y)
/-- notes without which the others do not contradict each other -/
def GoodW (s : ShR) (l : List Int) : Prop := ∃ y, Sol 9 freeM y ∧ ∀ j : Nat, j < s.notes.length → (j : Int) ∉ l → SaysAt s j y

theorem try_right {s : ShR} (hg : Good s) : ∀ (r : Nat) (b : Mat) (bad : Bool) (cur : List Int) (st : Bool × List Int), r ≤ s.notes.length →
    (bad = true → BadL s cur) → (bad = false → Fine b ∧ ∀ y, Sol 9 b y ↔ Sol 9 freeM y ∧ ∀ j ∈ cur, SaysAt s j y) → Res (BadL s) s.notes.length (s.notes.length - r) cur st (tryS s.iv s.notes false r b bad cur st) := by
  intro r
  induction r with
  | zero =>
    intro b bad cur st _ hb hf
    unfold tryS
    simp only [Bool.false_and, Bool.or_false]
    by_cases hst : (st.1 && decide (st.2.length ≤ cur.length)) = true
    · rw [if_pos hst]
      rw [Bool.and_eq_true, decide_eq_true_eq] at hst
      exact .inl ⟨rfl, fun l _ _ => ⟨hst.1, by simp; omega⟩⟩
    · rw [if_neg hst]
      cases bad with
      | true =>
        rw [if_pos rfl]
        refine .inr ⟨rfl, [], by simp, trivial, by simpa using hb rfl, fun h => ?_, fun l _ _ => Lx.nil l⟩
        simp only [h, Bool.true_and, decide_eq_true_eq] at hst
        simp
        omega
      | false =>
        rw [if_neg (by simp)]
        refine .inl ⟨rfl, fun l hl hq => ?_⟩
        rw [Nat.sub_zero] at hl
        rw [hl.top, List.append_nil] at hq
        obtain ⟨fb, hs⟩ := hf rfl
        obtain ⟨y, hy, _⟩ := fb.closed.reach (i := 0) (k := 0) (by omega) (by omega)
        exact absurd ((hs y).1 hy) (hq y)
  | succ r ih =>
    intro b bad cur st hr hb hf
    unfold tryS
    simp only [Bool.false_and, Bool.or_false, Bool.false_eq_true, if_false]
    by_cases hst : (st.1 && decide (st.2.length ≤ cur.length)) = true
    · rw [if_pos hst]
      rw [Bool.and_eq_true, decide_eq_true_eq] at hst
      exact .inl ⟨rfl, fun l _ _ => ⟨hst.1, by simp; omega⟩⟩
    · rw [if_neg hst]
      cases bad with
      | true =>
        rw [if_pos rfl]
        refine .inr ⟨rfl, [], by simp, trivial, by simpa using hb rfl, fun h => ?_, fun l _ _ => Lx.nil l⟩
        simp only [h, Bool.true_and, decide_eq_true_eq] at hst
        simp
        omega
      | false =>
        rw [if_neg (by simp)]
        obtain ⟨fb, hs⟩ := hf rfl
        have hi : s.notes.length - (r + 1) < s.notes.length := by omega
        have hx := hg.notes _ (getD_mem hi default)
        have e1 : s.notes.length - (r + 1) + 1 = s.notes.length - r := by omega
        refine Res.step hi (st1 := tryS s.iv s.notes false r (withM s.iv 0 b (s.notes.getD (s.notes.length - (r + 1)) default)).1 (!(withM s.iv 0 b (s.notes.getD (s.notes.length - (r + 1)) default)).2) (cur ++ [((s.notes.length - (r + 1) : Nat) : Int)]) st) ?_ ?_
        · rw [e1]
          refine ih _ _ _ _ (by omega) (fun h => ?_) (fun h => ⟨withM_fine hx hg.plen.2 fb, fun y => ?_⟩)
          · intro y hy
            refine withM_no hx hg.plen.2 fb (by simpa using h) y ⟨(hs y).2 ⟨hy.1, fun j hj => hy.2 j (by simp [hj])⟩, ?_⟩
            exact hy.2 ((s.notes.length - (r + 1) : Nat) : Int) (by simp)
          · rw [withM_sol hx hg.plen.2 fb (by simpa using h) y, hs y]
            constructor
            · rintro ⟨⟨h1, h2⟩, h3⟩
              refine ⟨h1, fun j hj => ?_⟩
              rcases List.mem_append.1 hj with hj | hj
              · exact h2 j hj
              · rw [List.mem_singleton] at hj
                subst hj
                exact h3
            · rintro ⟨h1, h2⟩
              exact ⟨⟨h1, fun j hj => h2 j (by simp [hj])⟩, h2 ((s.notes.length - (r + 1) : Nat) : Int) (by simp)⟩
        · rw [e1]
          exact ih _ _ _ _ (by omega) (fun h => by cases h) (fun _ => ⟨fb, hs⟩)
theorem try_left {s : ShR} (hg : Good s) : ∀ (r : Nat) (b : Mat) (bad : Bool) (cur : List Int) (st : Bool × List Int), r ≤ s.notes.length → (∀ j ∈ cur, j < ((s.notes.length - r : Nat) : Int)) →
    (bad = true → ∀ y, ¬ (Sol 9 freeM y ∧ ∀ j : Nat, j < s.notes.length - r → (j : Int) ∉ cur → SaysAt s j y)) → (bad = false → Fine b ∧ ∀ y, Sol 9 b y ↔ Sol 9 freeM y ∧ ∀ j : Nat, j < s.notes.length - r → (j : Int) ∉ cur → SaysAt s j y) →
    Res (GoodW s) s.notes.length (s.notes.length - r) cur st (tryS s.iv s.notes true r b bad cur st) := by
  intro r
  induction r with
  | zero =>
    intro b bad cur st _ hcur hb hf
    unfold tryS
    simp only [Bool.true_and]
    rw [Nat.sub_zero] at *
    by_cases hst : (st.1 && decide (st.2.length ≤ cur.length)) = true
    · rw [if_pos (by rw [hst]; rfl)]
      rw [Bool.and_eq_true, decide_eq_true_eq] at hst
      exact .inl ⟨rfl, fun l _ _ => ⟨hst.1, by simp; omega⟩⟩
    · cases bad with
      | true =>
        rw [if_pos (by simp)]
        refine .inl ⟨rfl, fun l hl hq => ?_⟩
        rw [hl.top, List.append_nil] at hq
        obtain ⟨y, hy⟩ := hq
        exact absurd hy (hb rfl y)
      | false =>
        rw [if_neg (by simpa using hst), if_pos (by simp)]
        obtain ⟨fb, hs⟩ := hf rfl
        obtain ⟨y, hy, _⟩ := fb.closed.reach (i := 0) (k := 0) (by omega) (by omega)
        refine .inr ⟨rfl, [], by simp, trivial, ⟨y, by simpa using (hs y).1 hy⟩, fun h => ?_, fun l _ _ => Lx.nil l⟩
        simp only [h, Bool.true_and, decide_eq_true_eq] at hst
        simp
        omega
  | succ r ih =>
    intro b bad cur st hr hcur hb hf
    unfold tryS
    simp only [Bool.true_and]
    by_cases hst : (st.1 && decide (st.2.length ≤ cur.length)) = true
    · rw [if_pos (by rw [hst]; rfl)]
      rw [Bool.and_eq_true, decide_eq_true_eq] at hst
      exact .inl ⟨rfl, fun l _ _ => ⟨hst.1, by simp; omega⟩⟩
    · cases bad with
      | true =>
        rw [if_pos (by simp)]
        refine .inl ⟨rfl, fun l hl hq => ?_⟩
        obtain ⟨y, hy, hn⟩ := hq
        refine absurd ⟨hy, fun j hj hjc => hn j (by omega) fun hm => ?_⟩ (hb rfl y)
        rcases List.mem_append.1 hm with h | h
        · exact hjc h
        · have := (hl.mem _ h).1; omega
      | false =>
        rw [if_neg (by simpa using hst), if_neg (by simp), if_pos trivial]
        obtain ⟨fb, hs⟩ := hf rfl
        have hi : s.notes.length - (r + 1) < s.notes.length := by omega
        have hx := hg.notes _ (getD_mem hi default)
        have e1 : s.notes.length - (r + 1) + 1 = s.notes.length - r := by omega
        have hni : ((s.notes.length - (r + 1) : Nat) : Int) ∉ cur := fun h => by have := hcur _ h; omega
        refine Res.step hi (st1 := tryS s.iv s.notes true r b false (cur ++ [((s.notes.length - (r + 1) : Nat) : Int)]) st) ?_ ?_
        · rw [e1]
          refine ih _ _ _ _ (by omega) (fun j hj => ?_) (fun h => by cases h) (fun _ => ⟨fb, fun y => ?_⟩)
          · rcases List.mem_append.1 hj with hj | hj
            · have := hcur j hj; omega
            · rw [List.mem_singleton] at hj; omega
          · rw [hs y]
            refine and_congr_right fun _ => ⟨fun h j hj hjc => ?_, fun h j hj hjc => ?_⟩
            · by_cases e : j = s.notes.length - (r + 1)
              · subst e; simp at hjc
              · exact h j (by omega) fun hm => hjc (by simp [hm])
            · refine h j (by omega) fun hm => ?_
              rcases List.mem_append.1 hm with hm | hm
              · exact hjc hm
              · rw [List.mem_singleton] at hm; omega
        · rw [e1]
          refine ih _ _ _ _ (by omega) (fun j hj => by have := hcur j hj; omega) (fun h y hy => ?_) (fun h => ⟨withM_fine hx hg.plen.2 fb, fun y => ?_⟩)
          · refine withM_no hx hg.plen.2 fb (by simpa using h) y ⟨(hs y).2 ⟨hy.1, fun j hj hjc => hy.2 j (by omega) hjc⟩, ?_⟩
            exact hy.2 (s.notes.length - (r + 1)) (by omega) hni
          · rw [withM_sol hx hg.plen.2 fb (by simpa using h) y, hs y]
            constructor
            · rintro ⟨⟨h1, h2⟩, h3⟩
              refine ⟨h1, fun j hj hjc => ?_⟩
              by_cases e : j = s.notes.length - (r + 1)
              · subst e; exact h3
              · exact h2 j (by omega) hjc
            · rintro ⟨h1, h2⟩
              exact ⟨⟨h1, fun j hj hjc => h2 j (by omega) hjc⟩, h2 (s.notes.length - (r + 1)) (by omega) hni⟩
/-- what is found: the first one of the shortest -/
structure Least (Q : List Int → Prop) (n : Nat) (m : List Int) : Prop where
  inr : InR n 0 m
  ok : Q m
  least : ∀ l, InR n 0 l → Q l → Lx m l
theorem search_right {s : ShR} (hg : Good s) {l : List Int} (hl : InR s.notes.length 0 l) (hb : BadL s l) : Least (BadL s) s.notes.length (searchF s false) := by
  have h := try_right hg s.notes.length freeM false [] (false, []) (Nat.le_refl _) (fun h => by cases h) (fun _ => ⟨free_fine, fun y => by simp⟩)
  rw [Nat.sub_self] at h
  rcases h with ⟨_, k⟩ | ⟨_, m, em, hm, qm, _, k⟩
  · have := (k l hl (by simpa using hb)).1
    cases this
  · have e : searchF s false = m := by unfold searchF; rw [em]; rfl
    rw [e]
    exact ⟨hm, by simpa using qm, fun l hl hq => k l hl (by simpa using hq)⟩
theorem search_left {s : ShR} (hg : Good s) {l : List Int} (hl : InR s.notes.length 0 l) (hb : GoodW s l) : Least (GoodW s) s.notes.length (searchF s true) := by
  have h := try_left hg s.notes.length freeM false [] (false, []) (Nat.le_refl _) (fun j h => by cases h) (fun h => by cases h) (fun _ => ⟨free_fine, fun y => by simp⟩)
  rw [Nat.sub_self] at h
  rcases h with ⟨_, k⟩ | ⟨_, m, em, hm, qm, _, k⟩
  · have := (k l hl (by simpa using hb)).1
    cases this
  · have e : searchF s true = m := by unfold searchF; rw [em]; rfl
    rw [e]
    exact ⟨hm, by simpa using qm, fun l hl hq => k l hl (by simpa using hq)⟩
end Go.Proofs.YtajdgdelhlfniaaGreatDoor
namespace Go.Proofs.YtajdgdelhlfniaaGreatDoor
open Go.RowKit

def bitsL (x : Int) : Nat → List Int
  | 0 => []
  | k + 1 => if x / 2 ^ k % 2 = 1 then bitsL x k ++ [(k : Int)] else bitsL x k
theorem bitsL_le (x : Int) (k : Nat) : (bitsL x k).length ≤ k := by
  induction k with
  | zero => exact Nat.le_refl _
  | succ k ih =>
    unfold bitsL
    split
    · simp; omega
    · omega
set_option maxRecDepth 100000 in
set_option maxHeartbeats 1000000 in
theorem bits_any (x : Int) (hx0 : 0 ≤ x) (hx1 : x ≤ 65535) (n : Nat) (hn : n ≤ 16) (w : World) :
    Calls Tryz.prog 51 #[.int .u16 x, .int .i64 n] w fun e w' => ∃ A c, e = .returned (.slice A (bitsL x n).length c) ∧ Own w.heap.size 3 w' (.slice A (bitsL x n).length c) (bitsL x n) ∧ Below w.heap.size w w' := by
  go_enter Tryz.func51, Tryz.ntmps51
  go_wp2
  go_loopw [5, 6] (fun lv i wr => ∃ (k len : Nat) (A : Option Addr) (c : Nat), k ≤ n ∧ i = .int .i64 k ∧ len = (bitsL x k).length ∧ lv = .slice A len c ∧ Own w.heap.size 3 wr (.slice A len c) (bitsL x k) ∧ Below w.heap.size w wr) (fun _ i _ => n - (intOf i).toNat)
  case atStart => exact ⟨0, 0, none, 0, Nat.zero_le _, rfl, rfl, rfl, Own.nil _ _ _, Below.refl _ _⟩
  case round =>
    obtain ⟨k, len, A, c, hk, rfl, hlen, rfl, hown, hbr⟩ := hrel
    by_cases hlt : k < n
    · have Hlen := Lib.hid hlen
      have hle := bitsL_le x k
      rw [← hlen] at hle
      have hy0 : 0 ≤ x / 2 ^ k := Int.ediv_nonneg hx0 (by exact_mod_cast Nat.zero_le _)
      have htm : (x / 2 ^ k).tmod 2 = x / 2 ^ k % 2 := Int.tmod_eq_emod_of_nonneg hy0
      have Hst := Lib.hid (show bitsL x (k + 1) = if (x / 2 ^ k).tmod 2 = 1 then bitsL x k ++ [(k : Int)] else bitsL x k by rw [htm]; rfl)
      clear hlen hy0 htm
      obtain ⟨A2, c2', w2, hrun, hown3, hb3, _⟩ := append_int hown (k : Int) (by rw [← Hlen.out]; omega) hbr.size
      rw [← Hlen.out] at hrun hown3
      have Hown := Lib.hid hown
      have Hbr := Lib.hid hbr
      have Hown3 := Lib.hid hown3
      have Hb3 := Lib.hid (hbr.trans hb3)
      clear hown hbr hown3 hb3
      cases h2 : ((x / 2 ^ k).tmod 2 == 1) with
      | true =>
        have H1 := Lib.hid (show (x / 2 ^ k).tmod 2 = 1 by simpa using h2)
        go_wp2_with (at_builtin; refine wpList_append_run rfl _ _ _ rfl rfl rfl hrun ?_)
        exact ⟨⟨k + 1, len + 1, A2, c2', by omega, by go_num, by rw [Hst.out, if_pos H1.out, List.length_append, ← Hlen.out]; rfl, rfl, by rw [Hst.out, if_pos H1.out]; exact Hown3.out, Hb3.out⟩, by simp [intOf]; omega⟩
      | false =>
        have H1 := Lib.hid (show ¬ (x / 2 ^ k).tmod 2 = 1 by simpa using h2)
        go_wp2
        exact ⟨⟨k + 1, len, A, c, by omega, by go_num, by rw [Hst.out, if_neg H1.out]; exact Hlen.out, rfl, by rw [Hst.out, if_neg H1.out]; exact Hown.out, Hbr.out⟩, by simp [intOf]; omega⟩
    · have hkn : k = n := by omega
      subst hkn
      have Hown := Lib.hid hown
      have Hbr := Lib.hid hbr
      have Hlen := Lib.hid hlen
      clear hown hbr hlen
      go_wp2
      go_ret
      exact ⟨A, c, by rw [← Hlen.out]; rfl, by rw [← Hlen.out]; exact Hown.out, Hbr.out⟩
end Go.Proofs.YtajdgdelhlfniaaGreatDoor
namespace Go.Proofs.YtajdgdelhlfniaaGreatDoor
open Go.RowKit

def okI (l : List Int) (m : Int) (i : Nat) : Bool := !(decide (l.getD i 0 < 0) || decide (m ≤ l.getD i 0) || (decide (0 < i) && decide (l.getD i 0 ≤ l.getD (i - 1) 0)))
def ascB (l : List Int) (m : Int) : Bool := (List.range l.length).all (okI l m)
theorem ascB_no {l : List Int} {m : Int} {k : Nat} (hk : k < l.length) (h : okI l m k = false) : ascB l m = false := by
  unfold ascB
  rw [List.all_eq_false]
  exact ⟨k, List.mem_range.2 hk, by simp [h]⟩
theorem ascB_yes {l : List Int} {m : Int} (h : ∀ k, k < l.length → okI l m k = true) : ascB l m = true := by
  unfold ascB
  rw [List.all_eq_true]
  exact fun k hk => h k (List.mem_range.1 hk)
theorem int_cell {B i : Nat} {w : World} {A : Option Addr} {n c : Nat} {l : List Int} (h : Rd IntAt 1 B w (.slice A n c) l) (hi : i < l.length) : ∃ ad, A = some ad ∧ w.cell? (ad.add i) = some (.int .i64 (l.getD i 0)) := by
  obtain ⟨A', c', e, _, _, h3⟩ := h
  cases e
  obtain ⟨ad, e, _, hc⟩ := h3 i _ (List.getElem?_eq_getElem hi)
  refine ⟨ad, e, ?_⟩
  rw [Nat.mul_one] at hc
  rw [List.getD_eq_getElem?_getD, List.getElem?_eq_getElem hi]
  exact hc
set_option maxRecDepth 100000 in
set_option maxHeartbeats 1000000 in
theorem ascending_any {B : Nat} {w : World} {v : Value} {l : List Int} (m : Int) (hv : Rd IntAt 1 B w v l) :
    Calls Tryz.prog 53 #[v, .int .i64 m] w fun e w' => e = .returned (.bool (ascB l m)) ∧ Qt w w' := by
  obtain ⟨A, c, rfl, hlc, hc, _⟩ := id hv
  go_enter Tryz.func53, Tryz.ntmps53
  go_wp2
  go_loopw [5] (fun i wr => ∃ k : Nat, k ≤ l.length ∧ i = .int .i64 k ∧ Qt w wr ∧ ∀ j, j < k → okI l m j = true) (fun i _ => l.length - (intOf i).toNat)
  case atStart => exact ⟨0, Nat.zero_le _, rfl, Qt.refl _, fun _ h => by omega⟩
  case round =>
    obtain ⟨k, hk, rfl, hq, hno⟩ := hrel
    have HQ := Lib.hid hq
    have HR := Lib.hid (hv.qt hq)
    clear hq
    have Hno := Lib.hid hno
    clear hno
    by_cases hlt : k < l.length
    · obtain ⟨ad, rfl, h0⟩ := int_cell HR.out hlt
      have hok : okI l m k = !(decide (l.getD k 0 < 0) || decide (m ≤ l.getD k 0) || (decide (0 < k) && decide (l.getD k 0 ≤ l.getD (k - 1) 0))) := rfl
      have hprev : 0 < k → wr.cell? (ad.add (k - 1)) = some (.int .i64 (l.getD (k - 1) 0)) := fun h => by
        obtain ⟨ad', e, h1⟩ := int_cell HR.out (i := k - 1) (by omega)
        cases e
        exact h1
      have Hok := Lib.hid hok
      have HP := Lib.hid hprev
      have Hlt := Lib.hid hlt
      have Hl2 := Lib.hid (ascB_no (m := m) hlt)
      clear hok hprev
      generalize l.getD k 0 = x at *
      generalize l.getD (k - 1) 0 = y at *
      obtain ⟨b1, d1⟩ : ∃ b, decide (x < 0) = b := ⟨_, rfl⟩
      obtain ⟨b2, d2⟩ : ∃ b, decide (m ≤ x) = b := ⟨_, rfl⟩
      obtain ⟨b3, d3⟩ : ∃ b, decide (0 < k) = b := ⟨_, rfl⟩
      obtain ⟨b4, d4⟩ : ∃ b, decide (x ≤ y) = b := ⟨_, rfl⟩
      have e3 := d3
      have Hres : Hid (okI l m k = !(b1 || b2 || (b3 && b4))) := Lib.hid (by rw [Hok.out, d1, d2, e3, d4])
      have h1 : b3 = true → wr.cell? (ad.add (k - 1)) = some (.int .i64 y) := fun h => HP.out (by rw [h] at e3; simpa using e3)
      have H1 := Lib.hid h1
      have hkk : b3 = true → 0 < k := fun h => by rw [h] at e3; simpa using e3
      have HKK := Lib.hid hkk
      clear e3 h1 hkk
      cases b1 <;> cases b2 <;> cases b3 <;> cases b4
      all_goals
        try have h1 := H1.out rfl
        try have hk0 := HKK.out rfl
        go_wp2
        go_quiet (fail)
      all_goals first
        | (have HN : Hid (okI l m k = true) := Lib.hid Hres.out
           go_wp2
           go_roundw
           case rel => exact ⟨k + 1, by omega, by go_num, HQ.out.drewN _, fun j hj => by
             by_cases h : j < k
             · exact Hno.out j h
             · obtain rfl : j = k := by omega
               exact HN.out⟩
           case measure => simp [intOf]; omega)
        | (have HF := Lib.hid (Hl2.out Hres.out)
           go_wp2
           go_ret
           exact ⟨by rw [HF.out]; rfl, HQ.out.drewN _⟩)
    · have hkn : k = l.length := by omega
      have hr := Lib.hid (ascB_yes (l := l) (m := m) fun j hj => Hno.out j (by omega))
      go_wp2
      go_ret
      exact ⟨by rw [hr.out]; rfl, HQ.out⟩
end Go.Proofs.YtajdgdelhlfniaaGreatDoor
