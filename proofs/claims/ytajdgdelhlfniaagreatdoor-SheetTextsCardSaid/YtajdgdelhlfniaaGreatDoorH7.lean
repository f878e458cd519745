/- A region that draws its order: quiet operations first (their callees may draw, or lay blocks), then a tail in one forced order: walked once. Walks of the layer sheet: one bound more. Whole bounds: loads, stores, new ones. -/
import Derived.Test.YtajdgdelhlfniaaGreatDoorH3
import Derived.StillTail
import Derived.Deep.Quiet
import Derived.Deep.RegionHeld3
import Derived.Test.YtajdgdelhlfniaaGreatDoorH6
import Derived.IntWalk
import Derived.Lib.MinMax
import Derived.WalkKit
import Derived.Test.YtajdgdelhlfniaaGreatDoorH4
import Derived.Laws.Tables
set_option linter.unusedSimpArgs false
set_option linter.unusedVariables false
namespace Go.Proofs.YtajdgdelhlfniaaGreatDoor
open Go.RowKit

section
variable {P : Program} {ops : Array Oper} {md : Region.Mode} {C : World → Prop}

/-- the head of the walk: only operations below n come up -/
def headQ (P : Program) (md : Region.Mode) (ops : Array Oper) (C : World → Prop) (n : Nat) (L : Array Bool → Act → Prop) : Nat → Array Bool → Act → Prop
  | 0, listed, a => L listed a
  | f + 1, listed, a => Region.ready md ops listed ≠ [] ∧ ∀ i ∈ Region.ready md ops listed, i < n ∧ qOp P ops C i (headQ P md ops C n L f (listed.setIfInBounds i true)) a

theorem any_of_headQ {n g : Nat} {L : Array Bool → Act → Prop} {Q' : Exit → Act → World → Prop} (hL : ∀ listed a w, C w → L listed a → wpAny P md ops Q' g listed a w) :
    ∀ (f : Nat) (listed : Array Bool) (a : Act) (w : World), C w → headQ P md ops C n L f listed a → wpAny P md ops Q' (f + g) listed a w := by
  intro f
  induction f with
  | zero => intro listed a w hw h; rw [Nat.zero_add]; exact hL _ _ _ hw h
  | succ f ih =>
    intro listed a w hw h
    rw [show f + 1 + g = (f + g) + 1 by omega]
    exact ⟨fun h0 => absurd h0 h.1, fun i hi => wpOp_of_qOp hw (fun a' w' hw' h' => ih _ a' w' hw' h') (h.2 i hi).2⟩

/-- every operation of the head from k0 on is waited for -/
def sinkFrom (md : Region.Mode) (ops : Array Oper) (k0 n : Nat) : Bool :=
  (List.range n).all fun i => decide (i < k0) || (List.range (n + 1)).any fun j => decide (i < j) && Region.waitsFor md ops j i

theorem tail_later {k0 n : Nat} {listed : Array Bool} (hs : sinkFrom md ops k0 n = true) (hc : Region.chainB md ops n = true) (hn : n < ops.size) (inv : HeadInv md ops n listed) :
    ∀ (d i : Nat), n - i = d → k0 ≤ i → i < n → listed.getD i true = false → ∀ t, n ≤ t → t ∉ Region.ready md ops listed := by
  intro d
  induction d using Nat.strongRecOn with
  | _ d ih =>
    intro i hd hk hi hun t ht hr
    obtain ⟨_, ot, hot, hall⟩ := mem_ready.1 hr
    have htlt : t < ops.size := (Array.getElem?_eq_some_iff.1 hot).1
    by_cases htn : t = n
    · subst htn
      have h1 := List.all_eq_true.1 hs i (List.mem_range.2 hi)
      simp only [Bool.or_eq_true, decide_eq_true_eq] at h1
      obtain ⟨j, hj, hj2⟩ := List.any_eq_true.1 (h1.resolve_left (by omega))
      simp only [Bool.and_eq_true, decide_eq_true_eq] at hj2
      obtain ⟨oj, hoj, e, he, hb, hon⟩ := Region.waitsFor_spec hj2.2
      have hjle : j ≤ t := by have := List.mem_range.1 hj; omega
      by_cases hjt : j = t
      · subst hjt
        obtain rfl : oj = ot := Option.some.inj (hoj.symm.trans hot)
        have h2 := hall e he hb
        rw [hon, getD_both hun] at h2
        cases h2
      · cases hl : listed.getD j false with
        | true =>
          have h2 := inv.closed j oj hoj hl e he hb
          rw [hon, getD_both hun] at h2
          cases h2
        | false => exact ih (t - j) (by omega) j rfl (by omega) (by omega) (getD_in (by rw [inv.size]; omega) hl) t (Nat.le_refl _) hr
    · have h1 := List.all_eq_true.1 hc t (List.mem_range.2 htlt)
      simp only [Bool.or_eq_true, decide_eq_true_eq] at h1
      obtain ⟨o', ho', e, he, hb, hon⟩ := Region.waitsFor_spec (h1.resolve_left (by omega))
      obtain rfl : o' = ot := Option.some.inj (ho'.symm.trans hot)
      have h2 := hall e he hb
      rw [hon, getD_both (inv.tail (t - 1) (by omega) (by omega))] at h2
      cases h2

theorem headQ_first {k0 n i : Nat} {oi : Oper} {v : Value} {L : Array Bool → Act → Prop} (hi : ops[i]? = some oi) (hsel : ∀ (j : Nat) (o : Oper) cs b, ops[j]? = some o → o.op ≠ .select cs b)
    (hs : sinkFrom md ops k0 n = true) (hc : Region.chainB md ops n = true) (hn : n < ops.size) (hki : k0 ≤ i) (hin : i < n) (hdone : ∀ listed a, L listed a → ∀ j ∈ Region.ready md ops listed, n ≤ j) :
    ∀ (f : Nat) (listed : Array Bool) (a : Act), HeadInv md ops n listed →
      (∀ j oj, ops[j]? = some oj → j ≠ i → listed.getD j true = false → (∀ e ∈ oj.after, Region.binds md e = true → e.on ≠ i) → oi.apart ops oj = true) →
      i ∈ Region.ready md ops listed → YieldsIn P ops C oi v a →
      headQ P md ops C n L f (listed.setIfInBounds i true) (a.put oi.dst v) → headQ P md ops C n L (f + 1) listed a := by
  intro f
  induction f with
  | zero =>
    intro listed a inv _ hr hy H
    have hun := (mem_ready.1 hr).1
    refine ⟨fun h => (by rw [h] at hr; cases hr), fun j hj => ?_⟩
    have hjn : j < n := Nat.lt_of_not_le fun h => absurd hj (tail_later hs hc hn inv _ i rfl hki hin hun j h)
    refine ⟨hjn, ?_⟩
    by_cases hji : j = i
    · subst hji; exact hy.qOp hi H
    · have := hdone _ _ H j (ready_mono hj hji)
      omega
  | succ f ih =>
    intro listed a inv hfree hr hy H
    have hun := (mem_ready.1 hr).1
    refine ⟨fun h => (by rw [h] at hr; cases hr), fun j hj => ?_⟩
    have hjn : j < n := Nat.lt_of_not_le fun h => absurd hj (tail_later hs hc hn inv _ i rfl hki hin hun j h)
    refine ⟨hjn, ?_⟩
    by_cases hji : j = i
    · subst hji; exact hy.qOp hi H
    · obtain ⟨hjun, oj, hoj, hall⟩ := mem_ready.1 hj
      have hnot : ∀ e ∈ oj.after, Region.binds md e = true → e.on ≠ i := fun e he hb heq => by
        have h1 := hall e he hb
        rw [heq, getD_both hun] at h1
        cases h1
      have h2 := qOp_put hoj (hfree j oj hoj hji hjun hnot) (fun cs b => hsel i oi cs b hi) (fun cs b => hsel j oj cs b hoj) hy (H.2 j (ready_mono hj hji)).2
      refine qOp_mono (fun a' h3 => ih (listed.setIfInBounds j true) a' (inv.set hj hjn) (fun k ok hk hki2 hun hno => ?_) (ready_mono hr (Ne.symm hji)) h3.1 ?_) h2
      · refine hfree k ok hk hki2 ?_ hno
        by_cases hjk : j = k
        · subst hjk; exact hjun
        · rwa [getD_set_ne true hjk] at hun
      · rw [Array.setIfInBounds_comm _ _ hji]
        exact h3.2

theorem headQ_lex {k0 n g : Nat} {Lq : Act → Prop} (hsel : Region.noSelect ops = true) (hs : sinkFrom md ops k0 n = true) (hc : Region.chainB md ops n = true) (hn : n < ops.size) :
    ∀ (l : List Oper) (k : Nat) (listed : Array Bool) (a : Act), (∀ j, j < l.length → l[j]? = ops[k + j]?) → k0 ≤ k → k + l.length = n → HeadInv md ops n listed →
    Region.lexHead md ops g l.length k listed = true → wpQuiet P ops C Lq l a →
    headQ P md ops C n (fun listed' a' => Region.seqB md ops g n listed' = true ∧ Lq a') l.length listed a := by
  intro l
  induction l with
  | nil =>
    intro k listed a _ _ hk _ hB h
    obtain rfl : k = n := by simpa using hk
    exact ⟨by simpa [Region.lexHead] using hB, h⟩
  | cons o l ih =>
    intro k listed a hl hk0 hk inv hB h
    have h0 : ops[k]? = some o := by simpa using (hl 0 (by simp)).symm
    simp only [List.length_cons, Region.lexHead, Bool.and_eq_true] at hB
    obtain ⟨⟨hr, hf⟩, hB'⟩ := hB
    simp only [List.length_cons] at hk
    have hr' : k ∈ Region.ready md ops listed := by simpa using hr
    obtain ⟨v, hy, hK⟩ := yieldsIn_of_qOp (K := wpQuiet P ops C Lq l) h0 (by unfold qOp; simp only [h0]; exact h)
    exact headQ_first h0 (Region.noSelect_spec hsel) hs hc hn hk0 (by omega) (fun listed' a' hL => seqB_ready hL.1) l.length listed a inv (Region.free_spec h0 hf) hr' hy
      (ih (k + 1) _ _ (fun j hj => by have := hl (j + 1) (by simp; omega); simpa [Nat.add_assoc, Nat.add_comm 1 j] using this) (by omega) (by omega) (inv.set hr' (by omega)) hB' hK)
end

theorem sinkFrom_zero {md : Region.Mode} {ops : Array Oper} {n : Nat} (h : Region.sinkB md ops n = true) : sinkFrom md ops 0 n = true := by
  unfold sinkFrom
  unfold Region.sinkB at h
  rw [List.all_eq_true] at h ⊢
  intro i hi
  rw [h i hi]
  simp

theorem region_quiet_tail {P : Program} {C : World → Prop} {id : Nat} {Q : Exit → Act → World → Prop} {a : Act} {w : World} {l : List Oper} (n : Nat) (hm : P.follows .mixedOrders = true) (hB : Region.lexTailB .any l.toArray n = true) (hC : C w.drew)
    (h : wpQuiet P l.toArray C (fun a' => ∀ w', C w' → wpList P l.toArray Q (l.drop n) a' w') (l.take n) a) : (Code.region id l.toArray true).wp P Q a w := by
  simp only [Region.lexTailB, Bool.and_eq_true, decide_eq_true_eq] at hB
  obtain ⟨⟨⟨⟨hsel, hn⟩, hs⟩, hc⟩, hlex⟩ := hB
  have hn' : n < l.length := by simpa using hn
  have htl : (l.take n).length = n := by simp; omega
  have hdl : (l.drop n).length = l.toArray.size - n := by simp
  have H := headQ_lex (C := C) (md := .any) (k0 := 0) (g := l.toArray.size - n) hsel (sinkFrom_zero hs) hc hn (l.take n) 0 (Array.replicate l.toArray.size false) a (fun j hj => by
      rw [htl] at hj
      simp [hj]) (Nat.zero_le _) (by simpa using htl)
    ⟨by simp, fun j oj _ hl => (by rw [getD_replicate_false] at hl; cases hl), fun t _ ht => getD_in (by simpa using ht) (getD_replicate_false _ _)⟩ (by rw [htl]; exact hlex) h
  refine wp_region_any hm ?_
  have := any_of_headQ (Q' := Q) (g := l.toArray.size - n) (fun listed a' w' hw' hL => by
    have := wpAny_of_seq (md := .any) (Q' := Q) (l.drop n) n listed a' w' (fun j => by simp [List.getElem?_drop]) (by rw [hdl]; exact hL.1) (hL.2 w' hw')
    rwa [hdl] at this) _ _ _ _ hC H
  rwa [htl, show n + (l.toArray.size - n) = l.toArray.size by omega] at this
/-- the same where the first operation is a move, that no operation of the head waits for -/
def moveTailB (ops : Array Oper) (n : Nat) : Bool :=
  Region.noSelect ops && decide (1 ≤ n) && decide (n < ops.size) && sinkFrom .any ops 1 n && Region.chainB .any ops n && Region.free .any ops (Array.replicate ops.size false) 0 && (Region.ready .any ops (Array.replicate ops.size false)).contains 0 &&
    Region.lexHead .any ops (ops.size - n) (n - 1) 1 ((Array.replicate ops.size false).setIfInBounds 0 true)

theorem region_move_quiet_tail {P : Program} {C : World → Prop} {id : Nat} {Q : Exit → Act → World → Prop} {a : Act} {w : World} {o : Oper} {l : List Oper} (n : Nat) (x : Operand) (ho : o.op = .move x) (hgd : o.guard = none)
    (hm : P.follows .mixedOrders = true) (hB : moveTailB (o :: l).toArray n = true)
    (hQ2 : ∀ c v a w, Q (.panic c) (a.put o.dst v) w → Q (.panic c) a w) (hC : C w.drew)
    (h : wpQuiet P (o :: l).toArray C (fun a' => ∀ w', C w' → wpList P (o :: l).toArray Q (l.drop (n - 1)) a' w') (l.take (n - 1)) (a.put o.dst (a.eval x))) : (Code.region id (o :: l).toArray true).wp P Q a w := by
  simp only [moveTailB, Bool.and_eq_true, decide_eq_true_eq] at hB
  obtain ⟨⟨⟨⟨⟨⟨⟨hsel, hn1⟩, hn⟩, hs⟩, hc⟩, hfree⟩, hready⟩, hlex⟩ := hB
  have hn' : n < l.length + 1 := by simpa using hn
  have hsz : (o :: l).toArray.size = l.length + 1 := by simp
  have htl : (l.take (n - 1)).length = n - 1 := by simp; omega
  have hdl : (l.drop (n - 1)).length = (o :: l).toArray.size - n := by simp; omega
  have h0 : (o :: l).toArray[0]? = some o := by simp
  refine wp_region_any hm ?_
  rw [show (o :: l).toArray.size = l.length + 1 from hsz]
  rw [hsz] at hfree hready hlex
  refine wpAny_take (v := a.eval x) h0 hsel hfree hready (fun c a w h => hQ2 c _ a w h) (.inl ⟨by simp [Region.wanted, hgd], fun w => by unfold execOp; rw [ho]; rfl⟩) ?_
  have hr0 : 0 ∈ Region.ready .any (o :: l).toArray (Array.replicate (l.length + 1) false) := by simpa using hready
  have inv0 : HeadInv .any (o :: l).toArray n (Array.replicate (l.length + 1) false) :=
    ⟨by simp, fun j oj _ hl => (by rw [getD_replicate_false] at hl; cases hl), fun t _ ht => getD_in (by simpa using ht) (getD_replicate_false _ _)⟩
  have H := headQ_lex (C := C) (md := .any) (k0 := 1) (g := l.length + 1 - n) hsel hs hc hn (l.take (n - 1)) 1 _ _ (fun j hj => by
      rw [htl] at hj
      rw [List.getElem?_take]
      simp [hj, Nat.add_comm 1 j]) (Nat.le_refl _) (by rw [htl]; omega) (inv0.set hr0 (by omega)) (by rw [htl]; exact hlex) h
  have := any_of_headQ (Q' := Q) (g := l.length + 1 - n) (fun listed a' w' hw' hL => by
    have := wpAny_of_seq (md := .any) (Q' := Q) (l.drop (n - 1)) n listed a' w' (fun j => by
      rw [List.getElem?_drop]
      obtain ⟨m, rfl⟩ : ∃ m, n = m + 1 := ⟨n - 1, by omega⟩
      rw [List.getElem?_toArray, Nat.add_sub_cancel, show m + 1 + j = (m + j) + 1 by omega, List.getElem?_cons_succ]) (by rw [hdl, hsz]; exact hL.1) (hL.2 w' hw')
    rwa [hdl, hsz] at this) _ _ _ _ hC H
  rwa [htl, show n - 1 + (l.length + 1 - n) = l.length by omega] at this

/-- the same, whatever Q says of a panic: none comes -/
theorem region_move_quiet_tail2 {P : Program} {C : World → Prop} {id : Nat} {Q : Exit → Act → World → Prop} {a : Act} {w : World} {o : Oper} {l : List Oper} (n : Nat) (x : Operand) (ho : o.op = .move x) (hgd : o.guard = none)
    (hm : P.follows .mixedOrders = true) (hB : moveTailB (o :: l).toArray n = true) (hC : C w.drew)
    (h : wpQuiet P (o :: l).toArray C (fun a' => ∀ w', C w' → wpList P (o :: l).toArray (NoPanic Q) (l.drop (n - 1)) a' w') (l.take (n - 1)) (a.put o.dst (a.eval x))) : (Code.region id (o :: l).toArray true).wp P Q a w :=
  wp_region_noPanic (region_move_quiet_tail n x ho hgd hm hB (fun _ _ _ _ h => h.elim) hC h)
end Go.Proofs.YtajdgdelhlfniaaGreatDoor
namespace Go.Proofs.YtajdgdelhlfniaaGreatDoor
open Go.RowKit

/-- bounds as they lie: row by row -/
def matC (b : Mat) : Array Value := ((List.range 81).map fun n => Value.int .i64 (b (n / 9) (n % 9))).toArray
theorem matC_size (b : Mat) : (matC b).size = 81 := by simp [matC]
theorem matC_get (b : Mat) {n : Nat} (hn : n < 81) : (matC b)[n]? = some (.int .i64 (b (n / 9) (n % 9))) := by
  unfold matC
  rw [List.getElem?_toArray, List.getElem?_map, List.getElem?_range hn]
  rfl
theorem matC_at (b : Mat) {i k : Nat} (hi : i < 9) (hk : k < 9) : (matC b)[i * 9 + k]? = some (.int .i64 (b i k)) := by
  rw [matC_get b (by omega), show (i * 9 + k) / 9 = i by omega, show (i * 9 + k) % 9 = k by omega]
/-- block g is bounds -/
def MatAt (w : World) (g : Nat) (T : TypeId) (b : Mat) : Prop := w.heap[g]? = some (.cells (matC b) T (0, 0))
theorem MatAt.cell {w : World} {g : Nat} {T : TypeId} {b : Mat} (h : MatAt w g T b) {i k : Nat} (hi : i < 9) (hk : k < 9) : w.cell? ⟨g, i * 9 + k, none⟩ = some (.int .i64 (b i k)) :=
  cellOf h _ (matC_at b hi hk)

theorem MatAt.frozen {w : World} {g : Nat} {T : TypeId} {b : Mat} (h : MatAt w g T b) (n : Nat) : w.frozen? ⟨g, n, none⟩ = false := by
  unfold MatAt at h
  simp [World.frozen?, h]
theorem bind_yes {w : World} {g : Nat} {T : TypeId} {b : Mat} {f t : Nat} {m : Int} (hm : MatAt w g T b) (hf : f < 9) (ht : t < 9) (h0 : b f t ≤ m) :
    Calls Tryz.prog 72 #[.pointer (some ⟨g, 0, none⟩), .int .i64 f, .int .i64 t, .int .i64 m] w fun e w' => e = .returned (.bool true) ∧ w = w' := by
  have c0 := hm.cell hf ht
  have H := Lib.hid hm
  clear hm
  generalize b f t = x at *
  go_enter Tryz.func72, Tryz.ntmps72
  go_wp2
  go_ret
  exact ⟨rfl, rfl⟩
theorem bind_not {w : World} {g : Nat} {T : TypeId} {b : Mat} {f t : Nat} {m : Int} (hm : MatAt w g T b) (hf : f < 9) (ht : t < 9) (h0 : ¬ b f t ≤ m) (h1 : m + b t f < 0) (hm0 : -100000 ≤ m) (hb : Fine b) :
    Calls Tryz.prog 72 #[.pointer (some ⟨g, 0, none⟩), .int .i64 f, .int .i64 t, .int .i64 m] w fun e w' => e = .returned (.bool false) ∧ w = w' := by
  have c0 := hm.cell hf ht
  have c1 := hm.cell ht hf
  have b1 := hb.ge ht hf
  have b2 := hb.le t f ht hf
  have b3 := hb.le f t hf ht
  have H := Lib.hid hm
  clear hm hb
  generalize b f t = x at *
  generalize b t f = y at *
  go_enter Tryz.func72, Tryz.ntmps72
  go_wp2
  go_ret
  exact ⟨rfl, rfl⟩

/-- the first n cells done -/
def mixM (f t : Nat) (m : Int) (b : Mat) (n : Nat) : Mat := fun i k => if i * 9 + k < n then bindM f t m b i k else b i k
theorem mixM_zero (f t : Nat) (m : Int) (b : Mat) : mixM f t m b 0 = b := by funext i k; simp [mixM]
theorem mixM_step (f t : Nat) (m : Int) (b : Mat) {i k : Nat} (_hi : i < 9) (hk : k < 9) : (matC (mixM f t m b (i * 9 + k))).setIfInBounds (i * 9 + k) (.int .i64 (bindM f t m b i k)) = matC (mixM f t m b (i * 9 + k + 1)) := by
  apply Array.ext_getElem?
  intro n
  by_cases hn : n < 81
  · rw [Array.getElem?_setIfInBounds, matC_get _ hn, matC_get _ hn, matC_size]
    by_cases h : i * 9 + k = n
    · subst h
      rw [if_pos rfl, if_pos (by omega), show (i * 9 + k) / 9 = i by omega, show (i * 9 + k) % 9 = k by omega]
      unfold mixM
      rw [if_pos (by omega)]
    · rw [if_neg h]
      unfold mixM
      have e : n / 9 * 9 + n % 9 = n := by omega
      rw [e]
      by_cases h2 : n < i * 9 + k
      · rw [if_pos h2, if_pos (by omega)]
      · rw [if_neg h2, if_neg (by omega)]
  · have h1 := matC_size (mixM f t m b (i * 9 + k))
    have h2 := matC_size (mixM f t m b (i * 9 + k + 1))
    rw [Array.getElem?_eq_none (by simp; omega), Array.getElem?_eq_none (by omega)]
theorem mixM_all (f t : Nat) (m : Int) (b : Mat) : matC (mixM f t m b 81) = matC (bindM f t m b) := by
  apply Array.ext_getElem?
  intro n
  by_cases hn : n < 81
  · rw [matC_get _ hn, matC_get _ hn]
    unfold mixM
    rw [if_pos (by omega)]
  · have h1 := matC_size (mixM f t m b 81)
    have h2 := matC_size (bindM f t m b)
    rw [Array.getElem?_eq_none (by omega), Array.getElem?_eq_none (by omega)]
theorem heap_setCell_row {w : World} {g n : Nat} {cs : Array Value} {T : TypeId} {fz : Nat × Nat} (h : w.heap[g]? = some (.cells cs T fz)) (v : Value) : (w.setCell ⟨g, n, none⟩ v).heap[g]? = some (.cells (cs.setIfInBounds n v) T fz) := by
  simp [World.setCell, Array.getElem?_modify, h]
theorem grown_setCell (w : World) (g n : Nat) (v : Value) : w.grownBy (w.setCell ⟨g, n, none⟩ v) (some g) := ⟨rfl, rfl, rfl, by simp [World.setCell], fun k _ hk => Below.heap_setCell _ _ _ _ (by intro e; subst e; exact hk rfl)⟩
theorem grown_qt {w w' : World} (h : Qt w w') (row : Option Nat) : w.grownBy w' row := by
  obtain ⟨n, rfl⟩ := h
  exact ⟨rfl, rfl, rfl, Nat.le_refl _, fun _ _ _ => rfl⟩

set_option maxRecDepth 100000 in
set_option maxHeartbeats 4000000 in
theorem bind_do {w : World} {g : Nat} {T : TypeId} {b : Mat} {f t : Nat} {m : Int} (hm : MatAt w g T b) (hf : f < 9) (ht : t < 9) (h0 : ¬ b f t ≤ m) (h1 : 0 ≤ m + b t f) (hb : Fine b) (hm1 : m ≤ 100000) :
    Calls Tryz.prog 72 #[.pointer (some ⟨g, 0, none⟩), .int .i64 f, .int .i64 t, .int .i64 m] w fun e w' => e = .returned (.bool true) ∧ MatAt w' g T (bindM f t m b) ∧ w.grownBy w' (some g) := by
  have c0 := hm.cell hf ht
  have c1 := hm.cell ht hf
  have b1 := hb.ge ht hf
  have b2 := hb.le t f ht hf
  have b3 := hb.le f t hf ht
  have Hm := Lib.hid hm
  have HF := Lib.hid (fun i => hb.closed.bind_f h1 i)
  have HT := Lib.hid (fun k => hb.closed.bind_t h1 k)
  have HB := Lib.hid hb
  clear hm hb
  generalize b f t = x at *
  generalize b t f = y at *
  go_enter Tryz.func72, Tryz.ntmps72
  go_wp2
  clear c0 c1
  have hm0 : -9000 ≤ m := by omega
  go_loopw [30, 9, 10] (fun i _ _ wr => ∃ n : Nat, n ≤ 9 ∧ i = .int .i64 n ∧ MatAt wr g T (mixM f t m b (n * 9)) ∧ w.grownBy wr (some g)) (fun i _ _ _ => 9 - (intOf i).toNat)
  case atStart => exact ⟨0, Nat.zero_le _, rfl, by rw [Nat.zero_mul, mixM_zero]; exact Hm.out, World.grownBy.refl _ _⟩
  case round =>
    obtain ⟨i, hi, rfl, hmr, hg⟩ := hrel
    have HM := Lib.hid hmr
    have HG := Lib.hid hg
    clear hmr hg
    by_cases hlt : i < 9
    · go_wp2
      obtain ⟨wo, rfl⟩ : ∃ wo : World, wo = wr := ⟨_, rfl⟩
      go_loopw [33, 10] (fun k _ wr => ∃ n : Nat, n ≤ 9 ∧ k = .int .i64 n ∧ MatAt wr g T (mixM f t m b (i * 9 + n)) ∧ w.grownBy wr (some g)) (fun k _ _ => 9 - (intOf k).toNat)
      case atStart => exact ⟨0, Nat.zero_le _, rfl, HM.out, HG.out⟩
      case round =>
        obtain ⟨k, hk, rfl, hmr, hg⟩ := hrel
        by_cases hkl : k < 9
        · have d0 := hmr.cell hlt hkl
          have d1 := hmr.cell hlt hf
          have d2 := hmr.cell ht hkl
          have e0 : mixM f t m b (i * 9 + k) i k = b i k := by unfold mixM; rw [if_neg (by omega)]
          have e1 : mixM f t m b (i * 9 + k) i f = b i f := by
            unfold mixM
            split
            · exact HF.out i
            · rfl
          have e2 : mixM f t m b (i * 9 + k) t k = b t k := by
            unfold mixM
            split
            · exact HT.out k
            · rfl
          rw [e0] at d0
          rw [e1] at d1
          rw [e2] at d2
          clear e0 e1 e2
          have es := Lib.hid (mixM_step f t m b hlt hkl)
          have HM2 := Lib.hid hmr
          have HG2 := Lib.hid hg
          have fz := hmr.frozen (i * 9 + k)
          clear hmr hg
          have p1 := HB.out.ge hlt hf
          have p2 := HB.out.le i f hlt hf
          have p3 := HB.out.ge ht hkl
          have p4 := HB.out.le t k ht hkl
          have ebm : bindM f t m b i k = min (b i k) (b i f + m + b t k) := rfl
          rw [ebm] at es
          clear ebm
          generalize b i k = z0 at *
          generalize b i f = z1 at *
          generalize b t k = z2 at *
          go_wp2
          have s1 : IntKind.i64.wrap (z1 + m) = z1 + m := IntWalk.i64_in _ (by omega)
          have s2 : IntKind.i64.wrap (z1 + m + z2) = z1 + m + z2 := IntWalk.i64_in _ (by omega)
          refine region_quiet_tail (C := fun w' => ∃ n, w' = wr.drewN n) 31 (by kernel_rfl) (by kernel_rfl) ⟨1, rfl⟩ ?_
          simp only [List.take_succ_cons, List.take_zero, List.drop_succ_cons, List.drop_zero]
          repeat (first | go_big_quiet_step (fail) | quiet_step (fail))
          refine wpQuiet_nil ?_
          rintro _ ⟨n1, rfl⟩
          go_wp2
          go_roundw
          case rel =>
            refine ⟨k + 1, by omega, by go_num, ?_, HG2.out.trans ((grown_qt ⟨n1, rfl⟩ _).trans (grown_setCell _ _ _ _))⟩
            unfold MatAt
            rw [← Nat.add_assoc, ← es.out]
            exact heap_setCell_row HM2.out _
          case measure => simp [intOf]; omega
        · have hk9 : k = 9 := by omega
          subst hk9
          have HM2 := Lib.hid hmr
          have HG2 := Lib.hid hg
          clear hmr hg
          go_wp2
          go_roundw
          case rel => exact ⟨i + 1, by omega, by go_num, by rw [Nat.add_mul]; exact HM2.out, HG2.out⟩
          case measure => simp [intOf]; omega
    · have hi9 : i = 9 := by omega
      subst hi9
      go_wp2
      go_ret
      refine ⟨rfl, ?_, HG.out⟩
      have := HM.out
      unfold MatAt at this ⊢
      rw [← mixM_all]
      exact this

theorem bind_any {w : World} {g : Nat} {T : TypeId} {b : Mat} {f t : Nat} {m : Int} (hm : MatAt w g T b) (hf : f < 9) (ht : t < 9) (hb : Fine b) (hm0 : -100000 ≤ m) (hm1 : m ≤ 100000) :
    Calls Tryz.prog 72 #[.pointer (some ⟨g, 0, none⟩), .int .i64 f, .int .i64 t, .int .i64 m] w fun e w' => e = .returned (.bool (bindB f t m b)) ∧ MatAt w' g T (bindR f t m b) ∧ w.grownBy w' (some g) := by
  by_cases h0 : b f t ≤ m
  · refine (bind_yes hm hf ht h0).mono ?_
    rintro e w' ⟨rfl, rfl⟩
    exact ⟨ret_bool (by simp [bindB, h0]), by unfold bindR; rw [if_pos h0]; exact hm, World.grownBy.refl _ _⟩
  · by_cases h1 : 0 ≤ m + b t f
    · refine (bind_do hm hf ht h0 h1 hb hm1).mono ?_
      rintro e w' ⟨rfl, h2, h3⟩
      exact ⟨ret_bool (by simp [bindB, h1]), by unfold bindR; rw [if_neg h0, if_pos h1]; exact h2, h3⟩
    · refine (bind_not hm hf ht h0 (by omega) hm0 hb).mono ?_
      rintro e w' ⟨rfl, rfl⟩
      exact ⟨ret_bool (by simp [bindB, h0, h1]), by unfold bindR; rw [if_neg h0, if_neg h1]; exact hm, World.grownBy.refl _ _⟩
end Go.Proofs.YtajdgdelhlfniaaGreatDoor
namespace Go.Proofs.YtajdgdelhlfniaaGreatDoor
open Go.RowKit

theorem u93 : Tryz.prog.underlying 93 = some (.array 9 91) := by kernel_rfl
theorem size93 : (Tryz.prog.info? 93).map (·.size) = some 81 := by kernel_rfl
def zeroM : Mat := fun _ _ => 0
theorem matC_one (b : Mat) : (matC b).all (·.oneCell') = true := by
  rw [Array.all_eq_true_iff_forall_mem]
  intro x hx
  simp only [matC, List.mem_toArray, List.mem_map] at hx
  obtain ⟨n, _, rfl⟩ := hx
  rfl
theorem load_mat {w : World} {g : Nat} {T : TypeId} {b : Mat} (hm : MatAt w g T b) : (loadVar 93 ⟨g, 0, none⟩).run Tryz.prog w = .ok (.agg (matC b)) w :=
  run_loadVar_row w g T 93 (matC b) (0, 0) _ hm u93 rfl (by rw [size93, matC_size])
theorem wpList_load_mat {ops : Array Oper} {rest : List Oper} {o : Oper} {a : Act} {w : World} {Q : Exit → Act → World → Prop} (hgd : o.guard = none) (x : Operand) (ho : o.op = .load 93 x)
    {g : Nat} (hx : a.eval x = .pointer (some ⟨g, 0, none⟩)) {T : TypeId} {b : Mat} (hm : MatAt w g T b) (h : wpList Tryz.prog ops Q rest (a.put o.dst (.agg (matC b))) w) : wpList Tryz.prog ops Q (o :: rest) a w :=
  wpList_load_row hgd 93 x ho g hx T (matC b) (0, 0) _ hm u93 rfl (by rw [size93, matC_size]) h
theorem setRow_mat {w : World} {g : Nat} {T : TypeId} {b b' : Mat} (hm : MatAt w g T b) : MatAt (w.setRow g (matC b')) g T b' ∧ w.grownBy (w.setRow g (matC b')) (some g) := by
  unfold MatAt at *
  refine ⟨?_, rfl, rfl, rfl, by simp, fun k _ hk => ?_⟩
  · simp [World.setRow, Array.getElem?_modify, hm]
  · have : g ≠ k := by intro e; subst e; exact hk rfl
    simp [World.setRow, Array.getElem?_modify, this]
theorem wpList_store_mat {ops : Array Oper} {rest : List Oper} {o : Oper} {a : Act} {w : World} {Q : Exit → Act → World → Prop} (hgd : o.guard = none) (x y : Operand) (ho : o.op = .store 93 x y)
    {g : Nat} (hx : a.eval x = .pointer (some ⟨g, 0, none⟩)) {T : TypeId} {b b' : Mat} (hy : a.eval y = .agg (matC b')) (hm : MatAt w g T b)
    (h : ∀ w', MatAt w' g T b' → w.grownBy w' (some g) → wpList Tryz.prog ops Q rest (a.put o.dst undef) w') : wpList Tryz.prog ops Q (o :: rest) a w :=
  wpList_store_row hgd 93 x y ho g (matC b') hx hy T (matC b) hm (by rw [size93, matC_size]) (by rw [matC_size, matC_size]) (matC_one b') (h _ (setRow_mat hm).1 (setRow_mat hm).2)
theorem run_alloc93 (w : World) : (Instr.alloc 93 true (.tuple #[])).run Tryz.prog w = .ok (.pointer (some ⟨w.heap.size, 0, none⟩)) (w.alloc (.cells (matC zeroM) 93)) := by kernel_rfl
theorem wpList_alloc_mat {ops : Array Oper} {rest : List Oper} {o : Oper} {a : Act} {w : World} {Q : Exit → Act → World → Prop} (hgd : o.guard = none) (ho : o.op = .alloc 93)
    (h : ∀ w', w' = w.alloc (.cells (matC zeroM) 93) → MatAt w' w.heap.size 93 zeroM → Below w.heap.size w w' → w'.heap.size = w.heap.size + 1 → wpList Tryz.prog ops Q rest (a.put o.dst (.pointer (some ⟨w.heap.size, 0, none⟩))) w') : wpList Tryz.prog ops Q (o :: rest) a w := by
  refine wpList_plain hgd fun K hK => ?_
  unfold Oper.wp execOp
  rw [ho]
  simp only [Sem.run_bind, Sem.run_pure, run_alloc93, Result.andThen_ok]
  exact hK _ _ (h _ rfl (heap_alloc_new w _) ((Below.refl _ _).alloc (Nat.le_refl _) _) (by simp))
theorem MatAt.grown {w w' : World} {g : Nat} {T : TypeId} {b : Mat} (h : MatAt w g T b) {row : Option Nat} (hg : w.grownBy w' row) (hne : some g ≠ row) : MatAt w' g T b := (hg.block g (lt_of_block h) hne).trans h
theorem MatAt.below {w w' : World} {g : Nat} {T : TypeId} {b : Mat} (h : MatAt w g T b) (hg : Below w.heap.size w w') : MatAt w' g T b := (hg.block g (lt_of_block h)).trans h
theorem MatAt.lt {w : World} {g : Nat} {T : TypeId} {b : Mat} (h : MatAt w g T b) : g < w.heap.size := lt_of_block h
theorem MatAt.alloc {w : World} (b : Mat) : MatAt (w.alloc (.cells (matC b) 93)) w.heap.size 93 b := heap_alloc_new w _

/-- bounds of the first n cells as free returns them -/
def mixF (n : Nat) : Mat := fun i k => if i * 9 + k < n then freeM i k else 0
theorem mixF_zero : mixF 0 = zeroM := by funext i k; simp [mixF, zeroM]
theorem mixF_step {i k : Nat} (hk : k < 9) (h : freeM i k = 9000) : (matC (mixF (i * 9 + k))).setIfInBounds (i * 9 + k) (.int .i64 9000) = matC (mixF (i * 9 + k + 1)) := by
  apply Array.ext_getElem?
  intro n
  by_cases hn : n < 81
  · rw [Array.getElem?_setIfInBounds, matC_get _ hn, matC_get _ hn, matC_size]
    by_cases e : i * 9 + k = n
    · subst e
      rw [if_pos rfl, if_pos (by omega), show (i * 9 + k) / 9 = i by omega, show (i * 9 + k) % 9 = k by omega]
      unfold mixF
      rw [if_pos (by omega), h]
    · rw [if_neg e]
      unfold mixF
      have e2 : n / 9 * 9 + n % 9 = n := by omega
      rw [e2]
      by_cases h2 : n < i * 9 + k
      · rw [if_pos h2, if_pos (by omega)]
      · rw [if_neg h2, if_neg (by omega)]
  · have h1 := matC_size (mixF (i * 9 + k))
    have h2 := matC_size (mixF (i * 9 + k + 1))
    rw [Array.getElem?_eq_none (by simp; omega), Array.getElem?_eq_none (by omega)]
theorem mixF_same {i k : Nat} (hk : k < 9) (h : freeM i k = 0) : mixF (i * 9 + k) = mixF (i * 9 + k + 1) ∨ matC (mixF (i * 9 + k)) = matC (mixF (i * 9 + k + 1)) := by
  right
  apply Array.ext_getElem?
  intro n
  by_cases hn : n < 81
  · rw [matC_get _ hn, matC_get _ hn]
    unfold mixF
    have e2 : n / 9 * 9 + n % 9 = n := by omega
    rw [e2]
    by_cases h2 : n < i * 9 + k
    · rw [if_pos h2, if_pos (by omega)]
    · rw [if_neg h2]
      by_cases e : i * 9 + k = n
      · subst e
        rw [if_pos (by omega), show (i * 9 + k) / 9 = i by omega, show (i * 9 + k) % 9 = k by omega, h]
      · rw [if_neg (by omega)]
  · have h1 := matC_size (mixF (i * 9 + k))
    have h2 := matC_size (mixF (i * 9 + k + 1))
    rw [Array.getElem?_eq_none (by omega), Array.getElem?_eq_none (by omega)]
theorem mixF_all : matC (mixF 81) = matC freeM := by
  apply Array.ext_getElem?
  intro n
  by_cases hn : n < 81
  · rw [matC_get _ hn, matC_get _ hn]
    unfold mixF
    rw [if_pos (by omega)]
  · have h1 := matC_size (mixF 81)
    have h2 := matC_size freeM
    rw [Array.getElem?_eq_none (by omega), Array.getElem?_eq_none (by omega)]

set_option maxRecDepth 100000 in
set_option maxHeartbeats 4000000 in
theorem free_any (w : World) : Calls Tryz.prog 76 #[] w fun e w' => e = .returned (.agg (matC freeM)) ∧ Below w.heap.size w w' := by
  go_enter Tryz.func76, Tryz.ntmps76
  go_wp2_with (refine wpList_alloc_mat rfl rfl ?_; intro W hW hm hb hz)
  rw [← hW]
  clear hW
  have Hb := Lib.hid hb
  have Hm := Lib.hid hm
  have Hz := Lib.hid hz
  clear hb hm hz
  go_loopw [3, 1, 2] (fun i _ _ wr => ∃ n : Nat, n ≤ 9 ∧ i = .int .i64 n ∧ MatAt wr w.heap.size 93 (mixF (n * 9)) ∧ W.grownBy wr (some w.heap.size)) (fun i _ _ _ => 9 - (intOf i).toNat)
  case atStart => exact ⟨0, Nat.zero_le _, rfl, by rw [Nat.zero_mul, mixF_zero]; exact Hm.out, World.grownBy.refl _ _⟩
  case round =>
    obtain ⟨i, hi, rfl, hmr, hg⟩ := hrel
    have HM := Lib.hid hmr
    have HG := Lib.hid hg
    clear hmr hg
    by_cases hlt : i < 9
    · go_wp2
      obtain ⟨wo, rfl⟩ : ∃ wo : World, wo = wr := ⟨_, rfl⟩
      go_loopw [6, 2] (fun k _ wr => ∃ n : Nat, n ≤ 9 ∧ k = .int .i64 n ∧ MatAt wr w.heap.size 93 (mixF (i * 9 + n)) ∧ W.grownBy wr (some w.heap.size)) (fun k _ _ => 9 - (intOf k).toNat)
      case atStart => exact ⟨0, Nat.zero_le _, rfl, HM.out, HG.out⟩
      case round =>
        obtain ⟨k, hk, rfl, hmr, hg⟩ := hrel
        have HM2 := Lib.hid hmr
        have HG2 := Lib.hid hg
        by_cases hkl : k < 9
        · have d0 := hmr.cell hlt hkl
          have fz := hmr.frozen (i * 9 + k)
          clear hmr hg
          by_cases e1 : i = k
          · have hf : freeM i k = 0 := by unfold freeM; rw [if_pos (.inl e1)]
            have hs := Lib.hid ((mixF_same hkl hf).elim (fun e => by rw [e]) id)
            have hb1 : ((i : Int) != (k : Int)) = false := by simp [e1]
            have E1 := Lib.hid e1
            clear e1 hf
            go_wp2
            go_roundw
            case rel => exact ⟨k + 1, by omega, by go_num, by have := HM2.out; unfold MatAt at this ⊢; rw [this, hs.out]; rfl, HG2.out⟩
            case measure => simp [intOf]; omega
          · have hb1 : ((i : Int) != (k : Int)) = true := by simp; omega
            by_cases e2 : k = 8
            · have hf : freeM i k = 0 := by unfold freeM; rw [if_pos (.inr e2)]
              have hs := Lib.hid ((mixF_same hkl hf).elim (fun e => by rw [e]) id)
              have hb2 : ((k : Int) != 8) = false := by simp [e2]
              have E2 := Lib.hid e2
              clear e1 e2 hf
              go_wp2
              go_roundw
              case rel => exact ⟨k + 1, by omega, by go_num, by have := HM2.out; unfold MatAt at this ⊢; rw [this, hs.out]; rfl, HG2.out⟩
              case measure => simp [intOf]; omega
            · have hf : freeM i k = 9000 := by unfold freeM; rw [if_neg (by omega)]
              have hs := Lib.hid (mixF_step hkl hf)
              have hb2 : ((k : Int) != 8) = true := by simp; omega
              clear e1 e2 hf
              go_wp2
              go_roundw
              case rel => exact ⟨k + 1, by omega, by go_num, by unfold MatAt; rw [← Nat.add_assoc, ← hs.out]; exact heap_setCell_row HM2.out _, HG2.out.trans (grown_setCell _ _ _ _)⟩
              case measure => simp [intOf]; omega
        · have hk9 : k = 9 := by omega
          subst hk9
          clear hmr hg
          go_wp2
          go_roundw
          case rel => exact ⟨i + 1, by omega, by go_num, by rw [Nat.add_mul]; exact HM2.out, HG2.out⟩
          case measure => simp [intOf]; omega
    · have hi9 : i = 9 := by omega
      subst hi9
      have hm9 := HM.out
      go_wp2_with (first | (refine wpList_load_mat rfl _ rfl rfl hm9 ?_) | (refine wpList_store_mat rfl _ _ rfl rfl rfl hm9 ?_; intro w2 hm2 hg2))
      have hm3 : MatAt w2 w.heap.size 93 freeM := by unfold MatAt at hm2 ⊢; rw [← mixF_all]; exact hm2
      refine bodyPost_ret (v := .agg (matC freeM)) (results_cell_row rfl _ w2 w.heap.size 93 (matC freeM) (0, 0) _ rfl hm3 u93 rfl (by rw [size93, matC_size])) rfl ⟨rfl, ?_⟩
      exact Hb.out.trans ((grown_below HG.out (Nat.le_refl _) (by have := Hz.out; omega)).trans (grown_below hg2 (Nat.le_refl _) (by have := Hz.out; have := HG.out.size; omega)))
end Go.Proofs.YtajdgdelhlfniaaGreatDoor
