/- Plain: what has been written is read as the same sheet. Plain: the pieces of a text, and its numbers, as the reference reads them. -/
import Derived.Test.YtajdgdelhlfniaaGreatDoorH31
import Derived.Test.YtajdgdelhlfniaaGreatDoorH26
import Derived.Lib.SplitLaws
set_option linter.unusedSimpArgs false
set_option linter.unusedVariables false
namespace Go.Proofs.YtajdgdelhlfniaaGreatDoor

/-! ### numbers -/
theorem parse_append {l m : List UInt8} : ∀ {acc v : Nat}, Lib.parseUint10 acc l = .ok v → Lib.parseUint10 acc (l ++ m) = Lib.parseUint10 v m := by
  induction l with
  | nil => intro acc v h; simp only [Lib.parseUint10] at h; injection h with h; subst h; rfl
  | cons c l ih =>
    intro acc v h
    rw [List.cons_append]
    unfold Lib.parseUint10 at h
    conv => lhs; unfold Lib.parseUint10
    split at h
    · rename_i h1
      rw [if_pos h1]
      split at h
      · cases h
      · rename_i h2
        rw [if_neg h2]
        split at h
        · cases h
        · rename_i h3
          rw [if_neg h3]
          exact ih h
    · cases h
theorem digit_nat {d : Nat} (h : d < 10) : (UInt8.ofNat (48 + d)).toNat = 48 + d := by
  rw [UInt8.toNat_ofNat']
  omega
theorem parse_digits : ∀ (u : Nat), u ≤ 1000000 → Lib.parseUint10 0 (Lib.decDigits u) = .ok u := by
  intro u
  induction u using Nat.strongRecOn with
  | _ u ih =>
    intro hu
    by_cases h : u < 10
    · rw [Lib.decDigits_one h]
      unfold Lib.parseUint10
      rw [digit_nat h, if_pos (by omega), if_neg (by omega), if_neg (by omega)]
      unfold Lib.parseUint10
      congr 1
      omega
    · rw [Lib.decDigits, dif_neg h, parse_append (ih (u / 10) (by omega) (by omega))]
      unfold Lib.parseUint10
      rw [digit_nat (by omega), if_pos (by omega), if_neg (by omega), if_neg (by omega)]
      unfold Lib.parseUint10
      congr 1
      omega
theorem digits_mem : ∀ (u : Nat), ∀ c ∈ Lib.decDigits u, 48 ≤ c.toNat ∧ c.toNat ≤ 57 := by
  intro u
  induction u using Nat.strongRecOn with
  | _ u ih =>
    intro c hc
    by_cases h : u < 10
    · rw [Lib.decDigits_one h, List.mem_singleton] at hc
      subst hc
      rw [digit_nat h]
      omega
    · rw [Lib.decDigits, dif_neg h] at hc
      rcases List.mem_append.1 hc with hc | hc
      · exact ih _ (by omega) c hc
      · rw [List.mem_singleton] at hc
        subst hc
        rw [digit_nat (by omega)]
        omega
theorem digits_ne (u : Nat) : Lib.decDigits u ≠ [] := by
  intro h
  have h1 := Lib.decDigits_length u
  have h2 := Lib.nDigits_pos u
  rw [h] at h1
  simp at h1
  omega
theorem numF_it {n : Int} (h : -1000000 ≤ n ∧ n ≤ 1000000) : numF (itB n) = some n := by
  unfold numF itB Lib.itoa
  by_cases h0 : n < 0
  · rw [if_pos h0]
    have hp := parse_digits n.natAbs (by omega)
    have hm : Lib.parseMag (Lib.decDigits n.natAbs) = .ok n.natAbs := by unfold Lib.parseMag; rw [if_neg (digits_ne _), hp]
    have he : Lib.atoiAll (45 :: Lib.decDigits n.natAbs) = .ok n := by
      unfold Lib.atoiAll
      simp only
      rw [if_pos (.inr (by decide)), hm]
      simp only
      rw [if_neg (fun h => h.1 (by decide)), if_neg (by omega), if_pos (by decide)]
      congr 1
      omega
    simp only [he]
  · rw [if_neg h0]
    have hp := parse_digits n.toNat (by omega)
    obtain ⟨c, r, hcr⟩ := List.exists_cons_of_ne_nil (digits_ne n.toNat)
    have hc := digits_mem n.toNat c (by rw [hcr]; simp)
    have hm : Lib.parseMag (c :: r) = .ok n.toNat := by unfold Lib.parseMag; rw [if_neg (by simp), ← hcr, hp]
    have he : Lib.atoiAll (c :: r) = .ok n := by
      unfold Lib.atoiAll
      simp only
      rw [if_neg (by omega), hm]
      simp only
      rw [if_neg (by omega), if_neg (by omega), if_neg (by omega)]
      congr 1
      omega
    rw [hcr]
    simp only [he]
theorem nDigits_le : ∀ (k u : Nat), u < 10 ^ (k + 1) → Lib.nDigits u ≤ k + 1 := by
  intro k
  induction k with
  | zero => intro u h; rw [Lib.nDigits_small (by simpa using h)]; exact Nat.le_refl _
  | succ k ih =>
    intro u h
    by_cases hu : u < 10
    · rw [Lib.nDigits_small hu]; omega
    · rw [Lib.nDigits_big hu]
      have := ih (u / 10) (by rw [Nat.pow_succ] at h; omega)
      omega
theorem it_len {n : Int} (h : -9000 ≤ n ∧ n ≤ 9000) : (itB n).data.toList.length ≤ 16 := by
  have hd : ∀ u, u ≤ 9000 → (Lib.decDigits u).length ≤ 4 := fun u hu => by
    rw [Lib.decDigits_length]
    exact nDigits_le 3 u (by omega)
  show (Lib.itoa n).length ≤ 16
  unfold Lib.itoa
  split
  · rw [List.length_cons]
    have := hd n.natAbs (by omega)
    omega
  · have := hd n.toNat (by omega)
    omega
/-- neither the end of a line nor a space -/
def Clean (l : List UInt8) : Prop := ∀ c ∈ l, c ≠ 10 ∧ c ≠ 32
theorem it_clean (n : Int) : Clean (itB n).data.toList := by
  have hd : ∀ u, Clean (Lib.decDigits u) := fun u c hc => by
    have := digits_mem u c hc
    constructor <;> (rintro rfl; revert this; decide)
  show Clean (Lib.itoa n)
  unfold Lib.itoa
  split
  · intro c hc
    rcases List.mem_cons.1 hc with rfl | hc
    · decide
    · exact hd _ c hc
  · exact hd _
theorem name_clean {p : ByteArray} (h : nameB p = true) : Clean p.data.toList := by
  unfold nameB at h
  generalize p.data.toList = l at *
  unfold nameL at h
  split at h
  · cases h
  · rename_i c r
    simp only [Bool.and_eq_true, List.all_eq_true, decide_eq_true_eq] at h
    obtain ⟨⟨h1, h2⟩, _⟩ := h
    have hl : ∀ c, loB c = true → c ≠ 10 ∧ c ≠ 32 := fun c hc => by
      constructor <;> (rintro rfl; revert hc; decide)
    have hr : ∀ c, restB c = true → c ≠ 10 ∧ c ≠ 32 := fun c hc => by
      constructor <;> (rintro rfl; revert hc; decide)
    intro x hx
    rcases List.mem_cons.1 hx with rfl | hx
    · exact hl _ h1
    · exact hr _ (h2 _ hx)
theorem name_len16 {p : ByteArray} (h : nameB p = true) : p.data.toList.length ≤ 16 := by
  unfold nameB at h
  generalize p.data.toList = l at *
  unfold nameL at h
  split at h
  · cases h
  · simp only [Bool.and_eq_true, decide_eq_true_eq] at h
    exact h.2

/-! ### lines and words -/
theorem indexByte_at {c : UInt8} : ∀ {x r : List UInt8}, c ∉ x → Lib.indexByte (x ++ c :: r) c = x.length := by
  intro x
  induction x with
  | nil => intro r _; simp [Lib.indexByte]
  | cons y x ih =>
    intro r h
    have h1 : y ≠ c := fun e => h (by simp [e])
    have h2 := ih (r := r) (fun e => h (by simp [e]))
    rw [List.cons_append]
    unfold Lib.indexByte
    have hb : (y == c) = false := by simpa using h1
    rw [h2]
    simp [hb, h1]
    try omega
theorem index_at {c : UInt8} {x r : List UInt8} (h : c ∉ x) : Lib.index (x ++ c :: r) [c] = x.length := by
  refine Lib.index_first (by simp) ?_ ?_
  · unfold Lib.occAt
    rw [List.drop_left]
    simp [List.isPrefixOf]
  · intro j hj
    unfold Lib.occAt
    rw [List.drop_append_of_le_length (by omega), List.drop_eq_getElem_cons hj]
    have : x[j] ≠ c := fun e => h (e ▸ List.getElem_mem hj)
    have hb : (c == x[j]) = false := by simpa using Ne.symm this
    simp only [List.cons_append, List.isPrefixOf, hb, Bool.false_and]
theorem splitK_join : ∀ (ws : List (List UInt8)), ws ≠ [] → (∀ w ∈ ws, (32 : UInt8) ∉ w) → Lib.splitK [32] 0 (Lib.count (Lib.join ws [32]) [32]) (Lib.join ws [32]) = ws := by
  intro ws
  induction ws with
  | nil => intro h; exact absurd rfl h
  | cons x r ih =>
    intro _ hc
    have hx := hc x (by simp)
    cases r with
    | nil =>
      rw [Lib.join_one, Lib.count_one, List.count_eq_zero_of_not_mem hx]
      rfl
    | cons y r =>
      have e : Lib.join (x :: y :: r) [32] = x ++ 32 :: Lib.join (y :: r) [32] := by
        rw [Lib.join_cons, Lib.join_cons]
        simp [Lib.joinTail]
      have hi := index_at (r := Lib.join (y :: r) [32]) hx
      have hcnt : Lib.count (x ++ 32 :: Lib.join (y :: r) [32]) [32] = Lib.count (Lib.join (y :: r) [32]) [32] + 1 := by
        rw [Lib.count_one, Lib.count_one, List.count_append, List.count_cons_self, List.count_eq_zero_of_not_mem hx]
        omega
      rw [e, hcnt]
      unfold Lib.splitK
      rw [hi, if_neg (by simp)]
      have h1 : (x ++ 32 :: Lib.join (y :: r) [32]).take ((x.length : Int).toNat + 0) = x := by simp
      have h2 : (x ++ 32 :: Lib.join (y :: r) [32]).drop ((x.length : Int).toNat + [32].length) = Lib.join (y :: r) [32] := by simp
      rw [h1]
      congr 1
      have h2' : (x ++ 32 :: Lib.join (y :: r) [32]).drop ((x.length : Int).toNat + [(32 : UInt8)].length) = Lib.join (y :: r) [32] := h2
      rw [h2']
      exact ih (by simp) (fun w hw => hc w (by simp [hw]))
theorem toList_inj {a b : ByteArray} (h : a.data.toList = b.data.toList) : a = b := ByteArray.ext (Array.toList_inj.mp h)
theorem toLists_inj {a b : List ByteArray} (h : a.map (·.data.toList) = b.map (·.data.toList)) : a = b := by
  induction a generalizing b with
  | nil => cases b with
    | nil => rfl
    | cons y b => cases h
  | cons x a ih =>
    cases b with
    | nil => cases h
    | cons y b =>
      simp only [List.map_cons, List.cons.injEq] at h
      rw [toList_inj h.1, ih h.2]
theorem linesN_cat : ∀ (bs : List (List UInt8)) (f : Nat) (s : ByteArray), s.size ≤ f → s.data.toList = bs.flatMap (· ++ [10]) → (∀ b ∈ bs, (10 : UInt8) ∉ b) → (linesN f s).map (·.data.toList) = bs.map (· ++ [10]) := by
  intro bs
  induction bs with
  | nil =>
    intro f s _ hs _
    have h0 : s.size = 0 := by
      have := congrArg List.length hs
      simpa using this
    cases f with
    | zero => rfl
    | succ f => unfold linesN; rw [if_pos h0]; rfl
  | cons b bs ih =>
    intro f s hf hs hb
    rw [List.flatMap_cons, List.append_assoc] at hs
    have hlen : s.size = s.data.toList.length := by simp
    have hpos : 0 < s.size := by rw [hlen, hs]; simp; omega
    cases f with
    | zero => omega
    | succ f =>
      unfold linesN
      rw [if_neg (by omega), List.map_cons, List.map_cons]
      have hn : nlOf s = b.length := by
        unfold nlOf
        rw [hs]
        exact indexByte_at (r := bs.flatMap (· ++ [10])) (hb b (by simp))
      have h1 : (lineOf s).data.toList = b ++ [10] := by
        unfold lineOf
        rw [if_pos (by omega), hn, Lib.extract_from_zero, hs]
        rw [show (b.length : Int).toNat + 1 = (b ++ [10]).length by simp, ← List.append_assoc, List.take_left]
      have h2 : (nextOf s).data.toList = bs.flatMap (· ++ [10]) := by
        unfold nextOf
        rw [if_pos (by omega), hn, Lib.extract_to_end, hs]
        rw [show (b.length : Int).toNat + 1 = (b ++ [10]).length by simp, ← List.append_assoc, List.drop_left]
      rw [h1]
      congr 1
      exact ih f (nextOf s) (by have := nextOf_size hpos; omega) h2 (fun x hx => hb x (by simp [hx]))
theorem trim_line {x : ByteArray} {b : List UInt8} (h : x.data.toList = b ++ [10]) : (trimL x).data.toList = b := by
  show Lib.trimSuffix x.data.toList [10] = b
  rw [h]
  unfold Lib.trimSuffix Lib.hasSuffix
  have : [(10 : UInt8)].isSuffixOf (b ++ [10]) = true := by
    rw [List.isSuffixOf_iff_suffix]
    exact List.suffix_append b [10]
  rw [if_pos this]
  simp
theorem words_line {x : ByteArray} {ws : List ByteArray} (hne : ws ≠ []) (hc : ∀ w ∈ ws, Clean w.data.toList) (h : x.data.toList = lineW ws) : wordsOf x = ws := by
  have ht : (trimL x).data.toList = Lib.join (ws.map (·.data.toList)) [32] := trim_line h
  refine toLists_inj ?_
  unfold wordsOf
  rw [Lib.splitB_data]
  unfold Lib.countB
  rw [ht]
  exact splitK_join _ (by simpa using hne) (fun w hw => by
    obtain ⟨v, hv, rfl⟩ := List.mem_map.1 hw
    exact fun hm => (hc v hv _ hm).2 rfl)
theorem join_clean {ws : List (List UInt8)} (h : ∀ w ∈ ws, (10 : UInt8) ∉ w) : (10 : UInt8) ∉ Lib.join ws [32] := by
  cases ws with
  | nil => simp [Lib.join_nil]
  | cons x r =>
    rw [Lib.join_cons]
    unfold Lib.joinTail
    intro hm
    rcases List.mem_append.1 hm with hm | hm
    · exact h x (by simp) hm
    · obtain ⟨l, hl, hx⟩ := List.mem_flatten.1 hm
      obtain ⟨w, hw, rfl⟩ := List.mem_map.1 hl
      rcases List.mem_append.1 hx with hx | hx
      · rw [List.mem_singleton] at hx
        revert hx
        decide
      · exact h w (by simp [hw]) hx

/-! ### the text of a sheet -/
def linesW (s : ShR) : List (List ByteArray) := [wSheet, itB s.iv] :: (s.pts.map (fun p => [wPoint, p]) ++ s.notes.map (noteW s))
theorem text_lines (s : ShR) : textB s = (linesW s).flatMap lineW := by
  unfold textB linesW headB ptsB notesB
  rw [List.flatMap_cons, List.flatMap_append, List.flatMap_map, List.flatMap_map, List.append_assoc]
theorem ptAt_clean {s : ShR} (hg : Good s) (i : Int) : Clean (ptAt s i).data.toList := by
  unfold ptAt
  cases h : s.pts[i.toNat]? with
  | none => intro c hc; simp at hc
  | some p => exact name_clean (hg.names p (List.mem_of_getElem? h))
theorem ptAt_len16 {s : ShR} (hg : Good s) (i : Int) : (ptAt s i).data.toList.length ≤ 16 := by
  unfold ptAt
  cases h : s.pts[i.toNat]? with
  | none => simp
  | some p => exact name_len16 (hg.names p (List.mem_of_getElem? h))
theorem noteW_all {P : ByteArray → Prop} {s : ShR} {x : NoteR} (h1 : P wSpot) (h2 : P wContour) (h3 : P wLake) (h4 : P wSlope) (ha : P (ptAt s x.a)) (hb : P (ptAt s x.b)) (hl : P (itB x.lo)) (hh : P (itB x.hi)) : ∀ w ∈ noteW s x, P w := by
  unfold noteW
  split
  · simp only [List.mem_cons, List.not_mem_nil, or_false]
    rintro w (rfl | rfl | rfl | rfl) <;> assumption
  · split
    · simp only [List.mem_cons, List.not_mem_nil, or_false]
      rintro w (rfl | rfl | rfl | rfl) <;> assumption
    · split
      · simp only [List.mem_cons, List.not_mem_nil, or_false]
        rintro w (rfl | rfl | rfl) <;> assumption
      · simp only [List.mem_cons, List.not_mem_nil, or_false]
        rintro w (rfl | rfl | rfl | rfl | rfl) <;> assumption
theorem consts_clean : Clean wSheet.data.toList ∧ Clean wPoint.data.toList ∧ Clean wSpot.data.toList ∧ Clean wContour.data.toList ∧ Clean wLake.data.toList ∧ Clean wSlope.data.toList := by
  unfold Clean
  refine ⟨?_, ?_, ?_, ?_, ?_, ?_⟩ <;> decide
theorem linesW_clean {s : ShR} (hg : Good s) : ∀ ws ∈ linesW s, ws ≠ [] ∧ ∀ w ∈ ws, Clean w.data.toList := by
  obtain ⟨c1, c2, c3, c4, c5, c6⟩ := consts_clean
  intro ws hws
  unfold linesW at hws
  rcases List.mem_cons.1 hws with rfl | hws
  · refine ⟨by simp, ?_⟩
    simp only [List.mem_cons, List.not_mem_nil, or_false]
    rintro w (rfl | rfl)
    · exact c1
    · exact it_clean _
  · rcases List.mem_append.1 hws with hws | hws
    · obtain ⟨p, hp, rfl⟩ := List.mem_map.1 hws
      refine ⟨by simp, ?_⟩
      simp only [List.mem_cons, List.not_mem_nil, or_false]
      rintro w (rfl | rfl)
      · exact c2
      · exact name_clean (hg.names _ hp)
    · obtain ⟨x, hx, rfl⟩ := List.mem_map.1 hws
      refine ⟨?_, noteW_all (P := fun w => Clean w.data.toList) c3 c4 c5 c6 (ptAt_clean hg _) (ptAt_clean hg _) (it_clean _) (it_clean _)⟩
      unfold noteW
      split
      · simp
      · split
        · simp
        · split <;> simp
theorem linesW_len {s : ShR} (hg : Good s) : ∀ ws ∈ linesW s, ∀ w ∈ ws, w.data.toList.length ≤ 16 := by
  intro ws hws
  unfold linesW at hws
  rcases List.mem_cons.1 hws with rfl | hws
  · simp only [List.mem_cons, List.not_mem_nil, or_false]
    rintro w (rfl | rfl)
    · decide
    · exact it_len (by have := hg.iv; omega)
  · rcases List.mem_append.1 hws with hws | hws
    · obtain ⟨p, hp, rfl⟩ := List.mem_map.1 hws
      simp only [List.mem_cons, List.not_mem_nil, or_false]
      rintro w (rfl | rfl)
      · decide
      · exact name_len16 (hg.names _ hp)
    · obtain ⟨x, hx, rfl⟩ := List.mem_map.1 hws
      obtain ⟨h1, h2⟩ := noteOK_int (hg.notes x hx) hg.iv.1
      exact noteW_all (P := fun w => w.data.toList.length ≤ 16) (by decide) (by decide) (by decide) (by decide) (ptAt_len16 hg _) (ptAt_len16 hg _) (it_len h1) (it_len h2)
theorem line_len16 {ws : List ByteArray} {n : Nat} (hn : ws.length ≤ n) (h : ∀ w ∈ ws, w.data.toList.length ≤ 16) : (lineW ws).length ≤ n * 17 + 1 := by
  have := lineB_len (ws := ws.map (·.data.toList)) (m := 16) (fun x hx => by
    obtain ⟨y, hy, rfl⟩ := List.mem_map.1 hx
    exact h y hy)
  unfold lineW
  rw [List.length_map] at this
  omega
theorem noteW_few (s : ShR) (x : NoteR) : (noteW s x).length ≤ 5 := by
  unfold noteW
  split
  · simp
  · split
    · simp
    · split <;> simp
theorem text_small {s : ShR} (hg : Good s) : (textB s).length ≤ 1500 := by
  have hl := linesW_len hg
  unfold linesW at hl
  have h1 : (headB s).length ≤ 2 * 17 + 1 := line_len16 (by simp) (hl _ (by simp))
  have h2 : (ptsB s.pts).length ≤ s.pts.length * (2 * 17 + 1) := flatB_len fun p hp => line_len16 (by simp) (hl _ (List.mem_cons_of_mem _ (List.mem_append_left _ (List.mem_map.2 ⟨p, hp, rfl⟩))))
  have h3 : (notesB s s.notes).length ≤ s.notes.length * (5 * 17 + 1) := flatB_len fun x hx => line_len16 (noteW_few s x) (hl _ (List.mem_cons_of_mem _ (List.mem_append_right _ (List.mem_map.2 ⟨x, hx, rfl⟩))))
  have := hg.plen
  have := hg.nlen
  unfold textB
  rw [List.length_append, List.length_append]
  omega
theorem idx_pt {s : ShR} (hg : Good s) {a : Int} (ha : 0 ≤ a ∧ a < s.pts.length) : Lib.idxOfS s.pts (ptAt s a) = a := by
  have hlt : a.toNat < s.pts.length := by omega
  have e : ptAt s a = s.pts.getD a.toNat ByteArray.empty := by unfold ptAt; rw [List.getD_eq_getElem?_getD]
  have h := Lib.idxFromS_hit (ptAt s a) s.pts a.toNat 0 hlt e.symm (fun j hj he => by
    have hf := hg.fresh a.toNat hlt
    rw [List.any_eq_false] at hf
    have hm : s.pts.getD j ByteArray.empty ∈ s.pts.take a.toNat := by
      rw [getD_at (by omega)]
      exact List.mem_iff_getElem.2 ⟨j, by rw [List.length_take]; omega, by rw [List.getElem_take]⟩
    have := hf _ hm
    rw [he, e] at this
    simp at this)
  unfold Lib.idxOfS
  rw [h]
  omega
theorem point_pt {s : ShR} (hg : Good s) {a : Int} (ha : 0 ≤ a ∧ a < s.pts.length) {ws : List ByteArray} {i : Nat} (hi : i < ws.length) (hw : wd ws i = ptAt s a) : pointF s.pts ws i = some a := by
  unfold pointF
  rw [hw, idx_pt hg ha, if_pos ⟨hi, ha.1⟩]
theorem take_note {s t : ShR} (hg : Good s) (ht : t.pts = s.pts) {x : NoteR} (hx : NoteOK s.pts.length s.iv x) : takeF t (noteW s x) = some (addN t x) := by
  obtain ⟨h1, h2⟩ := noteOK_int hx hg.iv.1
  have nl := numF_it (n := x.lo) (by omega)
  have nh := numF_it (n := x.hi) (by omega)
  have hk := hx.kind
  obtain ⟨k, a, b, lo, hi⟩ := x
  rcases (show k = 1 ∨ k = 2 ∨ k = 3 ∨ k = 4 by simp at hk; omega) with rfl | rfl | rfl | rfl
  · have hb := hx.one (.inl rfl)
    simp at hb
    subst hb
    have p1 := point_pt hg hx.a (ws := [wSpot, ptAt s a, itB lo, itB hi]) (i := 1) (by simp) rfl
    simp only at p1 nl nh
    rw [show noteW s ⟨1, a, 0, lo, hi⟩ = [wSpot, ptAt s a, itB lo, itB hi] by unfold noteW; simp]
    unfold takeF
    rw [ht, if_neg (by show wSpot ≠ wSheet; decide), if_neg (by show wSpot ≠ wPoint; decide), if_neg (by show wSpot ≠ wLake; decide), if_pos (.inl (by rfl)), if_pos (by rfl)]
    rw [p1]
    show ((numF (itB lo)).bind fun lo => (numF (itB hi)).map fun hi => addN t ⟨if wSpot = wContour then 2 else 1, a, 0, lo, hi⟩) = _
    rw [nl, nh, if_neg (by decide)]
    rfl
  · have hb := hx.one (.inr rfl)
    simp at hb
    subst hb
    have p1 := point_pt hg hx.a (ws := [wContour, ptAt s a, itB lo, itB hi]) (i := 1) (by simp) rfl
    simp only at p1 nl nh
    rw [show noteW s ⟨2, a, 0, lo, hi⟩ = [wContour, ptAt s a, itB lo, itB hi] by unfold noteW; simp]
    unfold takeF
    rw [ht, if_neg (by show wContour ≠ wSheet; decide), if_neg (by show wContour ≠ wPoint; decide), if_neg (by show wContour ≠ wLake; decide), if_pos (.inr (by rfl)), if_pos (by rfl)]
    rw [p1]
    show ((numF (itB lo)).bind fun lo => (numF (itB hi)).map fun hi => addN t ⟨if wContour = wContour then 2 else 1, a, 0, lo, hi⟩) = _
    rw [nl, nh, if_pos rfl]
    rfl
  · obtain ⟨e1, e2⟩ := hx.lake rfl
    simp at e1 e2
    subst e1 e2
    have p1 := point_pt hg hx.a (ws := [wLake, ptAt s a, ptAt s b]) (i := 1) (by simp) rfl
    have p2 := point_pt hg hx.b (ws := [wLake, ptAt s a, ptAt s b]) (i := 2) (by simp) rfl
    simp only at p1 p2
    rw [show noteW s ⟨3, a, b, 0, 0⟩ = [wLake, ptAt s a, ptAt s b] by unfold noteW; simp]
    unfold takeF
    rw [ht, if_neg (by show wLake ≠ wSheet; decide), if_neg (by show wLake ≠ wPoint; decide), if_pos (by rfl), if_pos (by rfl)]
    rw [p1, p2]
    rfl
  · have p1 := point_pt hg hx.a (ws := [wSlope, ptAt s a, ptAt s b, itB lo, itB hi]) (i := 1) (by simp) rfl
    have p2 := point_pt hg hx.b (ws := [wSlope, ptAt s a, ptAt s b, itB lo, itB hi]) (i := 2) (by simp) rfl
    simp only at p1 p2 nl nh
    rw [show noteW s ⟨4, a, b, lo, hi⟩ = [wSlope, ptAt s a, ptAt s b, itB lo, itB hi] by unfold noteW; simp]
    unfold takeF
    rw [ht, if_neg (by show wSlope ≠ wSheet; decide), if_neg (by show wSlope ≠ wPoint; decide), if_neg (by show wSlope ≠ wLake; decide), if_neg (by show ¬ (wSlope = wSpot ∨ wSlope = wContour); decide), if_pos (by rfl), if_pos (by rfl)]
    rw [p1, p2]
    show ((numF (itB lo)).bind fun lo => (numF (itB hi)).map fun hi => addN t ⟨4, a, b, lo, hi⟩) = _
    rw [nl, nh]
    rfl
theorem takes_append (l m : List (List ByteArray)) (s : ShR) : takesF s (l ++ m) = (takesF s l).bind fun t => takesF t m := by
  induction l generalizing s with
  | nil => simp [takesF]
  | cons x l ih =>
    simp only [List.cons_append, takesF]
    cases takeF s x with
    | none => rfl
    | some t => exact ih t
theorem takes_pts (l : List ByteArray) (s : ShR) : takesF s (l.map fun p => [wPoint, p]) = some { s with pts := s.pts ++ l } := by
  induction l generalizing s with
  | nil => simp [takesF]
  | cons p l ih =>
    have h1 : takeF s [wPoint, p] = some (addP s p) := by
      unfold takeF
      rw [if_neg (by show wPoint ≠ wSheet; decide), if_pos (by rfl), if_pos (by rfl)]
      rfl
    rw [List.map_cons]
    unfold takesF
    rw [h1]
    show takesF (addP s p) _ = _
    rw [ih]
    simp [addP]
theorem takes_notes {s : ShR} (hg : Good s) : ∀ (l : List NoteR) (t : ShR), (∀ x ∈ l, x ∈ s.notes) → t.pts = s.pts → takesF t (l.map (noteW s)) = some { t with notes := t.notes ++ l } := by
  intro l
  induction l with
  | nil => intro t _ _; simp [takesF]
  | cons x l ih =>
    intro t hl ht
    rw [List.map_cons]
    unfold takesF
    rw [take_note hg ht (hg.notes x (hl x (by simp)))]
    show takesF (addN t x) _ = _
    rw [ih (addN t x) (fun y hy => hl y (by simp [hy])) ht]
    simp [addN]
theorem takes_lines {s : ShR} (hg : Good s) : takesF zeroS (linesW s) = some s := by
  have h1 : takeF zeroS [wSheet, itB s.iv] = some ⟨s.iv, [], []⟩ := by
    unfold takeF
    rw [if_pos (by rfl), if_pos (by rfl)]
    show (numF (itB s.iv)).map _ = _
    rw [numF_it (by have := hg.iv; omega)]
    rfl
  unfold linesW
  unfold takesF
  rw [h1]
  show takesF ⟨s.iv, [], []⟩ _ = _
  rw [takes_append, takes_pts]
  show takesF ⟨s.iv, [] ++ s.pts, []⟩ _ = _
  rw [List.nil_append, takes_notes hg s.notes ⟨s.iv, s.pts, []⟩ (fun _ h => h) rfl]
  simp
/-- THE WAY BACK -/
theorem read_text {s : ShR} (hg : Good s) : readF ⟨(textB s).toArray⟩ = (s, 0) := by
  have hsz : (⟨(textB s).toArray⟩ : ByteArray).size = (textB s).length := by simp [ByteArray.size]
  have hsm := text_small hg
  unfold readF
  rw [if_neg (by omega)]
  have hl : linesOf ⟨(textB s).toArray⟩ = (linesW s).map fun ws => ⟨(lineW ws).toArray⟩ := by
    refine toLists_inj ?_
    unfold linesOf
    rw [linesN_cat ((linesW s).map fun ws => Lib.join (ws.map (·.data.toList)) [32]) _ _ (Nat.le_refl _) ?_ ?_]
    · rw [List.map_map, List.map_map]
      rfl
    · show textB s = _
      rw [text_lines, List.flatMap_map]
      rfl
    · intro b hb
      obtain ⟨ws, hws, rfl⟩ := List.mem_map.1 hb
      exact join_clean fun w hw => by
        obtain ⟨v, hv, rfl⟩ := List.mem_map.1 hw
        exact fun hm => ((linesW_clean hg ws hws).2 v hv _ hm).1 rfl
  have hw : (linesOf ⟨(textB s).toArray⟩).map wordsOf = linesW s := by
    rw [hl, List.map_map]
    conv => rhs; rw [← List.map_id (linesW s)]
    refine List.map_congr_left fun ws hws => ?_
    obtain ⟨h1, h2⟩ := linesW_clean hg ws hws
    exact words_line h1 h2 rfl
  rw [hw, takes_lines hg]
  unfold endF
  simp only
  rw [if_pos ⟨errOf_good hg, by trivial⟩]
theorem read_ok {t : ByteArray} (h : (readF t).2 = 0) : Good (readF t).1 ∧ (⟨(textB (readF t).1).toArray⟩ : ByteArray) = t := by
  unfold readF at *
  split at h
  · cases h
  · rename_i h0
    rw [if_neg h0]
    generalize takesF zeroS ((linesOf t).map wordsOf) = o at *
    cases o with
    | none => cases h
    | some s =>
      unfold endF at *
      simp only at *
      split at h
      · rename_i hc
        rw [if_pos hc]
        exact ⟨good_of_valid hc.1, hc.2⟩
      · cases h
theorem read_zero {t : ByteArray} (h : (readF t).2 ≠ 0) : (readF t).1 = zeroS := by
  unfold readF at *
  split
  · rfl
  · rename_i h0
    rw [if_neg h0] at h
    generalize takesF zeroS ((linesOf t).map wordsOf) = o at *
    cases o with
    | none => rfl
    | some s =>
      unfold endF at *
      simp only at *
      split
      · rename_i hc
        rw [if_pos hc] at h
        exact absurd rfl h
      · rfl
end Go.Proofs.YtajdgdelhlfniaaGreatDoor
namespace Go.Proofs.YtajdgdelhlfniaaGreatDoor

/-! ### pieces between bytes -/
def cutL (c : UInt8) : List UInt8 → List (List UInt8)
  | [] => [[]]
  | x :: r => if x = c then [] :: cutL c r else match cutL c r with | p :: ps => (x :: p) :: ps | [] => [[x]]
theorem cutL_none {c : UInt8} : ∀ {x : List UInt8}, c ∉ x → cutL c x = [x]
  | [], _ => rfl
  | y :: x, h => by
    unfold cutL
    rw [if_neg (fun e => h (by simp [e])), cutL_none (fun e => h (by simp [e]))]
theorem cutL_at {c : UInt8} : ∀ {x r : List UInt8}, c ∉ x → cutL c (x ++ c :: r) = x :: cutL c r
  | [], r, _ => by
    show cutL c (c :: r) = _
    rw [cutL, if_pos rfl]
  | y :: x, r, h => by
    show cutL c (y :: (x ++ c :: r)) = _
    rw [cutL, if_neg (fun e => h (by simp [e])), cutL_at (fun e => h (by simp [e]))]
theorem cutL_cat {c : UInt8} : ∀ {bs : List (List UInt8)} {r : List UInt8}, (∀ b ∈ bs, c ∉ b) → cutL c (bs.flatMap (· ++ [c]) ++ r) = bs ++ cutL c r
  | [], r, _ => rfl
  | b :: bs, r, h => by
    rw [List.flatMap_cons, List.append_assoc, List.append_assoc]
    show cutL c (b ++ c :: (bs.flatMap (· ++ [c]) ++ r)) = _
    rw [cutL_at (h b (by simp)), cutL_cat (fun x hx => h x (by simp [hx]))]
    rfl
theorem cutL_ne {c : UInt8} (x : List UInt8) : cutL c x ≠ [] := by
  cases x with
  | nil => simp [cutL]
  | cons y x =>
    unfold cutL
    split
    · simp
    · split <;> simp
theorem cutL_len {c : UInt8} : ∀ x : List UInt8, (cutL c x).length ≤ x.length + 1
  | [] => by simp [cutL]
  | y :: x => by
    have ih := cutL_len (c := c) x
    unfold cutL
    split
    · simpa using ih
    · split
      · rename_i p ps e
        rw [e] at ih
        simp at ih ⊢
        omega
      · simp
theorem cutL_small {c : UInt8} : ∀ {x p : List UInt8}, p ∈ cutL c x → p.length ≤ x.length
  | [], p, h => by simp [cutL] at h; subst h; simp
  | y :: x, p, h => by
    unfold cutL at h
    split at h
    · rcases List.mem_cons.1 h with rfl | h
      · simp
      · have := cutL_small h; simp; omega
    · split at h
      · rename_i q qs e
        rcases List.mem_cons.1 h with rfl | h
        · have := cutL_small (c := c) (x := x) (p := q) (by rw [e]; simp)
          simp; omega
        · have := cutL_small (c := c) (x := x) (p := p) (by rw [e]; simp [h])
          simp; omega
      · simp at h; subst h; simp
/-- a walk from byte to byte: the piece that ends here -/
theorem cutL_step {c : UInt8} {l : List UInt8} {a k : Nat} (ha : a ≤ k) (hk : k < l.length) (hno : ∀ j, a ≤ j → j < k → l.getD j 0 ≠ c) (hc : l.getD k 0 = c) : cutL c (l.drop a) = (l.take k).drop a :: cutL c (l.drop (k + 1)) := by
  have e : l.drop a = (l.take k).drop a ++ c :: l.drop (k + 1) := by
    conv => lhs; rw [← List.take_append_drop k l]
    rw [List.drop_append_of_le_length (by rw [List.length_take]; omega), List.drop_eq_getElem_cons hk]
    rw [getD_at hk] at hc
    rw [hc]
  rw [e, cutL_at]
  intro hm
  obtain ⟨j, hj, e⟩ := List.getElem_of_mem hm
  simp only [List.length_drop, List.length_take] at hj
  have := hno (a + j) (by omega) (by omega)
  rw [getD_at (by omega)] at this
  apply this
  rw [← e]
  simp
theorem cutL_end {c : UInt8} {l : List UInt8} {a : Nat} (hno : ∀ j, a ≤ j → j < l.length → l.getD j 0 ≠ c) : cutL c (l.drop a) = [l.drop a] := by
  refine cutL_none fun hm => ?_
  obtain ⟨j, hj, e⟩ := List.getElem_of_mem hm
  simp only [List.length_drop] at hj
  have := hno (a + j) (by omega) (by omega)
  rw [getD_at (by omega)] at this
  apply this
  rw [← e]
  simp
def toB (l : List UInt8) : ByteArray := ⟨l.toArray⟩
theorem toB_list (s : ByteArray) : toB s.data.toList = s := ByteArray.ext (by simp [toB])
theorem toB_data (l : List UInt8) : (toB l).data.toList = l := by simp [toB]
theorem toB_size (l : List UInt8) : (toB l).size = l.length := by simp [toB, ByteArray.size]
theorem toB_append (a b : List UInt8) : toB a ++ toB b = toB (a ++ b) := ByteArray.ext (by simp [toB])
def cutB (s : ByteArray) (c : UInt8) : List ByteArray := (cutL c s.data.toList).map toB
theorem extract_list (s : ByteArray) (a b : Nat) : s.extract a b = toB ((s.data.toList.take b).drop a) := by
  apply ByteArray.ext
  simp [toB]
  rw [← Array.toList_inj]
  simp [List.drop_take]

/-! ### numbers -/
def isDig (c : UInt8) : Bool := decide (48 ≤ c.toNat) && decide (c.toNat ≤ 57)
def valD (l : List UInt8) : Int := l.foldl (fun n c => 10 * n + ((c.toNat : Int) - 48)) 0
theorem valD_snoc (l : List UInt8) (c : UInt8) : valD (l ++ [c]) = 10 * valD l + ((c.toNat : Int) - 48) := by simp [valD]
def decimalF (s : ByteArray) : Int :=
  if inB s.size 1 9 = false then -1 else if 1 < s.size ∧ (s.data.toList.getD 0 0).toNat = 48 then -1 else if s.data.toList.all isDig = true then valD s.data.toList else -1
def signedF (s : ByteArray) : Int :=
  if 1 < s.size ∧ (s.data.toList.getD 0 0).toNat = 45 ∧ 0 < decimalF (s.extract 1 s.size) then - decimalF (s.extract 1 s.size)
  else if 0 ≤ decimalF s then decimalF s else 2000000000
theorem rev_ind {α : Type} {P : List α → Prop} (h0 : P []) (hs : ∀ l c, P l → P (l ++ [c])) (l : List α) : P l := by
  have h : ∀ r : List α, P r.reverse := fun r => by
    induction r with
    | nil => exact h0
    | cons x r ih => rw [List.reverse_cons]; exact hs _ _ ih
  have := h l.reverse
  rwa [List.reverse_reverse] at this
theorem valD_le : ∀ (l : List UInt8), l.all isDig = true → 0 ≤ valD l ∧ valD l < 10 ^ l.length := by
  refine rev_ind ?_ ?_
  · intro _; simp [valD]
  · intro l c ih h
    rw [List.all_append] at h
    simp only [Bool.and_eq_true, List.all_cons, List.all_nil, Bool.and_true] at h
    obtain ⟨h1, h2⟩ := ih h.1
    have h3 := h.2
    unfold isDig at h3
    simp only [Bool.and_eq_true, decide_eq_true_eq] at h3
    rw [valD_snoc, List.length_append, List.length_singleton, Int.pow_succ]
    omega
end Go.Proofs.YtajdgdelhlfniaaGreatDoor
