/- Parts of the proof of TpP: RwG, Srch, RwI, RwJ, Srch2. -/
import Derived.Test.YthnimhnlnddnoaaGreatDoorH20
import Derived.Test.YthnimhnlnddnoaaGreatDoorH29
import Derived.WalkKit
import Derived.Deep.Quiet
import Derived.Test.YthnimhnlnddnoaaGreatDoorH15
import Derived.Test.YthnimhnlnddnoaaGreatDoorH5
import Derived.Laws.EntriesVeiled
set_option linter.unusedSimpArgs false
set_option linter.unusedVariables false
set_option maxRecDepth 100000
set_option maxHeartbeats 8000000
namespace Go.Proofs.YthnimhnlnddnoaaGreatDoor
open Go.RowKit
def setH (l : List RvR) (i : Nat) (y : Int) : List RvR := l.set i { l.getD i default with hgt := y }
theorem flat_setH : ∀ (l : List RvR) (i : Nat) (y : Int), i < l.length → (setH l i y).flatMap (Enc.enc (α := RvR)) = (l.flatMap (Enc.enc (α := RvR))).set (i * 4 + 3) (.int .i64 y)
 | [], _, _, h => by simp at h
 | p :: l, 0, y, _ => by
  unfold setH
  simp only [List.set_cons_zero, List.flatMap_cons, List.getD_cons_zero]
  rfl
 | p :: l, i + 1, y, h => by
  have := flat_setH l i y (by simpa using h)
  unfold setH at *
  simp only [List.set_cons_succ, List.flatMap_cons, List.getD_cons_succ]
  rw [this, List.set_append_right _ _ (by rw [Enc.len]; omega), Enc.len]
  congr 2
  omega
theorem flat_hgt : ∀ (l : List RvR) (i : Nat), i < l.length → (l.flatMap (Enc.enc (α := RvR)))[i * 4 + 3]? = some (.int .i64 (l.getD i default).hgt)
 | [], _, h => by simp at h
 | p :: l, 0, _ => rfl
 | p :: l, i + 1, h => by
  have := flat_hgt l i (by simpa using h)
  rw [List.flatMap_cons, List.getElem?_append_right (by rw [Enc.len]; omega), Enc.len, show (i + 1) * 4 + 3 - 4 = i * 4 + 3 by omega, this]
  rfl
theorem Own.putHgt {base : Nat} {w : World} {g n c : Nat} {l : List RvR} (h : Own base 51 w (.slice (some ⟨g, 0, none⟩) n c) l) {i : Nat} (hi : i < l.length) :
  (∃ o, w.cell? ⟨g, i * 4 + 3, none⟩ = some o) ∧ w.frozen? ⟨g, i * 4 + 3, none⟩ = false ∧ base ≤ g ∧ ∀ y : Int, Own base 51 (w.setCell ⟨g, i * 4 + 3, none⟩ (.int .i64 y)) (.slice (some ⟨g, 0, none⟩) n c) (setH l i y) := by
 rcases h with ⟨hl, ⟨h1, _⟩ | ⟨g', cap, cur, h1, hb, hh, hn, hc, hsz, hx⟩⟩
 ·cases h1
 ·simp only [Value.slice.injEq, Option.some.injEq, Addr.mk.injEq, and_true] at h1
  obtain ⟨rfl, h2, rfl⟩ := h1
  have hcell : cur[i * 4 + 3]? = some (.int .i64 (l.getD i default).hgt) := by
   have e : (cur.toList.take (l.length * 4))[i * 4 + 3]? = (l.flatMap (Enc.enc (α := RvR)))[i * 4 + 3]? := by rw [hx]
   rw [flat_hgt l i hi, List.getElem?_take, if_pos (by omega), Array.getElem?_toList] at e
   exact e
  refine ⟨⟨_, cellOf hh _ hcell⟩, by simp [World.frozen?, hh], hb, fun y => ?_⟩
  have hls : (setH l i y).length = l.length := List.length_set
  refine ⟨by rw [flat_len, hls], .inr ⟨g, c, cur.setIfInBounds (i * 4 + 3) (.int .i64 y), by rw [h2, hls], hb, heap_setCell_row hh _, by rw [hls]; exact hn, hc, by rw [Array.size_setIfInBounds]; exact hsz, ?_⟩⟩
  rw [hls, Array.toList_setIfInBounds, flat_setH l i y hi, ← hx, List.take_set]
def highK (r : List RvR) (h : List Int) : Nat → List RvR
 | 0 => r
 | k + 1 => setH (highK r h k) k (h.getD k 0)
theorem highK_len (r : List RvR) (h : List Int) : ∀ k, (highK r h k).length = r.length
 | 0 => rfl
 | k + 1 => by rw [highK, setH, List.length_set, highK_len r h k]
theorem highK_at (r : List RvR) (h : List Int) : ∀ (k i : Nat), i < r.length → (highK r h k).getD i default = if i < k then { r.getD i default with hgt := h.getD i 0 } else r.getD i default
 | 0, i, _ => rfl
 | k + 1, i, hi => by
  have hl := highK_len r h k
  have ih := highK_at r h k i hi
  rw [highK, setH]
  by_cases e : k = i
  ·subst e
   rw [getD_set (by omega), if_pos rfl, if_pos (by omega), ih, if_neg (by omega)]
  ·by_cases hk : k < r.length
   ·rw [getD_set (by omega), if_neg e, ih]
    by_cases h2 : i < k
    ·rw [if_pos h2, if_pos (by omega)]
    ·rw [if_neg h2, if_neg (by omega)]
   ·rw [List.set_eq_of_length_le (by omega), ih, if_pos (by omega), if_pos (by omega)]
def highR (r : List RvR) (h : List Int) : List RvR := highK r h r.length
theorem flat_rv {w : World} {B : Nat} {A : Option Addr} {n c : Nat} {xs : List RvR} (h : Rd RvAt 4 B w (.slice A n c) xs) (ad : Addr) (hA : A = some ad) :
  ∀ j u, (xs.flatMap (Enc.enc (α := RvR)))[j]? = some u → w.cell? (ad.add j) = some u := by
 intro j u hj
 have hlt := (List.getElem?_eq_some_iff.1 hj).1
 rw [flat_len] at hlt
 have hi : j / 4 < xs.length := by omega
 obtain ⟨A', cap', e, h1, h2, h3⟩ := h
 obtain ⟨ad', e2, hb, ha⟩ := h3 (j / 4) xs[j / 4] (List.getElem?_eq_getElem hi)
 injection e with e e' e''
 subst e
 rw [hA] at e2
 injection e2 with e2
 subst e2
 have hlt4 : j % 4 < 4 := Nat.mod_lt _ (by omega)
 have hfl : ∃ v, (Enc.enc (α := RvR) xs[j / 4])[j % 4]? = some v := ⟨_, List.getElem?_eq_getElem (by rw [Enc.len (α := RvR)]; exact hlt4)⟩
 obtain ⟨v, hv⟩ := hfl
 have := flat_at (xs := xs) (i := j / 4) (List.getElem?_eq_getElem hi) hv
 rw [show j / 4 * 4 + j % 4 = j by omega, hj] at this
 cases this
 have hadd : ∀ k, 0 < k → (⟨(ad.add (j / 4 * 4)).block, (ad.add (j / 4 * 4)).off + k, none⟩ : Addr) = ad.add (j / 4 * 4 + k) := by
  intro k hk
  unfold Addr.add
  rw [if_neg (show ¬ j / 4 * 4 + k = 0 by omega)]
  split
  ·rename_i h0; simp
  ·simp [Nat.add_assoc]
 obtain ⟨a0, a1, a2, a3⟩ := ha
 rw [hadd 1 (by omega)] at a1
 rw [hadd 2 (by omega)] at a2
 rw [hadd 3 (by omega)] at a3
 have hj4 : j = j / 4 * 4 + j % 4 := by omega
 generalize xs[j / 4] = o at *
 generalize hq : j / 4 * 4 = q at *
 generalize hm : j % 4 = m at *
 subst hj4
 have hm4 : m = 0 ∨ m = 1 ∨ m = 2 ∨ m = 3 := by omega
 rcases hm4 with rfl | rfl | rfl | rfl
 ·cases hv; exact a0
 ·cases hv; exact a1
 ·cases hv; exact a2
 ·cases hv; exact a3
theorem append_rv {base B : Nat} {w : World} {v : Value} {xs ys : List RvR} {A : Option Addr} {c m : Nat} (hm : m = ys.length) (h : Own base 51 w v xs) (hr : Rd RvAt 4 B w (.slice A ys.length c) ys) (hn : xs.length + ys.length ≤ 1000) (hbase : base ≤ w.heap.size) :
  ∃ v' w', (Builtin.append_ #[22, 22] 22 #[v, .slice A m c]).run Tryz.prog w = .ok v' w' ∧ Own base 51 w' v' (xs ++ ys) ∧ w.grownBy w' v.ownBlock ∧ (v'.ownBlock = v.ownBlock ∨ v'.ownBlock = some w.heap.size) :=
 append_gen (E := inferInstance) (bytes := 40) (by kernel_rfl) (by kernel_rfl) (by omega) (by simp [Enc.enc]; intros; refine ⟨?_, ?_, ?_, ?_⟩ <;> rfl) hm h (fun e => by subst e; exact rd_none hr) (fun ad e => flat_rv hr ad e) (by unfold maxLen; omega) (by omega) hbase
end Go.Proofs.YthnimhnlnddnoaaGreatDoor
namespace Go.Proofs.YthnimhnlnddnoaaGreatDoor
open Go.RowKit
def tryS (iv : Int) (notes : List NoteR) (left : Bool) : Nat → Mat → Bool → List Int → Bool × List Int → Bool × List Int
 | 0, _, bad, cur, st => if (st.1 && decide (st.2.length ≤ cur.length)) || (left && bad) then st else if bad || left then (true, cur) else st
 | r + 1, b, bad, cur, st =>
  if (st.1 && decide (st.2.length ≤ cur.length)) || (left && bad) then st else if bad then (true, cur)
  else if left then tryS iv notes left r (withM iv 0 b (notes.getD (notes.length - (r + 1)) default)).1 (!(withM iv 0 b (notes.getD (notes.length - (r + 1)) default)).2) cur (tryS iv notes left r b false (cur ++ [((notes.length - (r + 1) : Nat) : Int)]) st)
  else tryS iv notes left r b false cur (tryS iv notes left r (withM iv 0 b (notes.getD (notes.length - (r + 1)) default)).1 (!(withM iv 0 b (notes.getD (notes.length - (r + 1)) default)).2) (cur ++ [((notes.length - (r + 1) : Nat) : Int)]) st)
theorem Own.take {α : Type} {At : World → Addr → α → Prop} {sz : Nat} [E : Enc α At sz] {base : Nat} {e : TypeId} {w : World} {A : Option Addr} {n c : Nat} {xs : List α} (h : Own base e w (.slice A n c) xs) {k : Nat} (hk : k ≤ xs.length) : Own base e w (.slice A k c) (xs.take k) := by
 rcases h with ⟨hl, ⟨h1, h0⟩ | ⟨g, cap, cur, h1, hb, hh, hn, hc, hsz, hx⟩⟩
 ·have : xs = [] := List.eq_nil_of_length_eq_zero h0
  subst this
  have hk0 : k = 0 := by simpa using hk
  subst hk0
  injection h1 with h1 h2 h3
  subst h1 h3
  exact Own.nil _ _ _
 ·injection h1 with h1 h2 h3
  subst h1 h3
  have hfl : ((xs.take k).flatMap E.enc) = (xs.flatMap E.enc).take (k * sz) := by
   have h2 : xs.flatMap E.enc = (xs.take k).flatMap E.enc ++ (xs.drop k).flatMap E.enc := by rw [← List.flatMap_append, List.take_append_drop]
   have h3 : ((xs.take k).flatMap E.enc).length = k * sz := by rw [flat_len, List.length_take, Nat.min_eq_left hk]
   rw [h2, List.take_left' h3]
  have hlk : (xs.take k).length = k := by rw [List.length_take]; omega
  refine ⟨by rw [flat_len, hlk], .inr ⟨g, c, cur, by rw [hlk], hb, hh, by rw [hlk]; omega, hc, hsz, ?_⟩⟩
  rw [hlk, hfl, ← hx, List.take_take]
  congr 1
  have : k * sz ≤ xs.length * sz := Nat.mul_le_mul_right _ hk
  omega
structure TryI (a : Nat) (iv : Int) (vp vn : Value) (left : Bool) (cur : List Int) (st : Bool × List Int) (w : World) : Prop where
 c0 : w.heap[a]? = some (.cells #[.int .i64 iv, vp, vn] 108)
 c1 : w.heap[a + 1]? = some (.cells #[.bool left] 4)
 c3 : w.heap[a + 3]? = some (.cells #[.bool st.1] 4)
 c5 : w.heap[a + 5]? = some (.cells #[.func (.func 97) #[] #[.pointer (some ⟨a + 3, 0, none⟩), .pointer (some ⟨a + 4, 0, none⟩), .pointer (some ⟨a + 2, 0, none⟩), .pointer (some ⟨a + 1, 0, none⟩), .pointer (some ⟨a, 0, none⟩), .pointer (some ⟨a + 5, 0, none⟩)]] 150)
 lists : ∃ lv bv, w.heap[a + 4]? = some (.cells #[lv] 30) ∧ w.heap[a + 2]? = some (.cells #[bv] 30) ∧ Own (a + 6) 3 w lv cur ∧ Own (a + 6) 3 w bv st.2 ∧ ∀ g, lv.ownBlock = some g → bv.ownBlock ≠ some g
structure TF (a : Nat) (w w' : World) : Prop where
 os : w'.os = w.os
 tape : w'.tape = w.tape
 output : w'.output = w.output
 size : w.heap.size ≤ w'.heap.size
 low : ∀ k, k < a + 6 → k ≠ a + 2 → k ≠ a + 3 → k ≠ a + 4 → w'.heap[k]? = w.heap[k]?
 hi : ∀ k o, a + 6 ≤ k → w.heap[k]? = some o → (∀ c f, o ≠ .cells c 3 f) → w'.heap[k]? = some o
theorem TF.refl (a : Nat) (w : World) : TF a w w := ⟨rfl, rfl, rfl, Nat.le_refl _, fun _ _ _ _ _ => rfl, fun _ _ _ h _ => h⟩
theorem TF.trans {a : Nat} {x y z : World} (h : TF a x y) (k : TF a y z) : TF a x z :=
 ⟨k.os.trans h.os, k.tape.trans h.tape, k.output.trans h.output, Nat.le_trans h.size k.size, fun i h1 h2 h3 h4 => (k.low i h1 h2 h3 h4).trans (h.low i h1 h2 h3 h4), fun i o h1 h2 h3 => k.hi i o h1 (h.hi i o h1 h2 h3) h3⟩
theorem TF.of_below {a : Nat} {w w' : World} (h : Below w.heap.size w w') (ha : a + 6 ≤ w.heap.size) : TF a w w' :=
 ⟨h.os, h.tape, h.output, h.size, fun k hk _ _ _ => h.block k (by omega), fun k o _ ho _ => (h.block k (lt_of_block ho)).trans ho⟩
theorem TF.below {a : Nat} {w w' : World} (h : TF a w w') : Below a w w' := ⟨h.os, h.tape, h.output, h.size, fun k hk => h.low k (by omega) (by omega) (by omega) (by omega)⟩
theorem TF.mat {a : Nat} {w w' : World} (h : TF a w w') {g : Nat} {b : Mat} (hg : a + 6 ≤ g) (hm : MatAt w g 82 b) : MatAt w' g 82 b := h.hi g _ hg hm (fun c f e => by cases e)
theorem TryI.below {a : Nat} {iv : Int} {vp vn : Value} {left : Bool} {cur : List Int} {st : Bool × List Int} {w w' : World} (h : TryI a iv vp vn left cur st w) (hb : Below w.heap.size w w') : TryI a iv vp vn left cur st w' := by
 obtain ⟨lv, bv, h4, h2, ho1, ho2, hs⟩ := h.lists
 exact ⟨(hb.block _ (lt_of_block h.c0)).trans h.c0, (hb.block _ (lt_of_block h.c1)).trans h.c1, (hb.block _ (lt_of_block h.c3)).trans h.c3, (hb.block _ (lt_of_block h.c5)).trans h.c5,
  lv, bv, (hb.block _ (lt_of_block h4)).trans h4, (hb.block _ (lt_of_block h2)).trans h2, ho1.below hb, ho2.below hb, hs⟩
theorem TryI.size {a : Nat} {iv : Int} {vp vn : Value} {left : Bool} {cur : List Int} {st : Bool × List Int} {w : World} (h : TryI a iv vp vn left cur st w) : a + 6 ≤ w.heap.size := lt_of_block h.c5
def tryP (a : Nat) : Array Value := #[.pointer (some ⟨a + 3, 0, none⟩), .pointer (some ⟨a + 4, 0, none⟩), .pointer (some ⟨a + 2, 0, none⟩), .pointer (some ⟨a + 1, 0, none⟩), .pointer (some ⟨a, 0, none⟩), .pointer (some ⟨a + 5, 0, none⟩)]
def TryRes (a : Nat) (iv : Int) (vp vn : Value) (left : Bool) (cur : List Int) (st : Bool × List Int) (w : World) (e : Ending) (w' : World) : Prop :=
 e = .returned (.tuple #[]) ∧ TryI a iv vp vn left cur st w' ∧ TF a w w'
theorem own_empty (w : World) (e : TypeId) {α : Type} {At : World → Addr → α → Prop} {sz : Nat} [E : Enc α At sz] : Own w.heap.size e (w.alloc (.cells #[] e)) (.slice (some ⟨w.heap.size, 0, none⟩) 0 0) ([] : List α) :=
 ⟨by simp, .inr ⟨w.heap.size, 0, #[], rfl, Nat.le_refl _, heap_alloc_new w _, Nat.le_refl _, by unfold maxLen; omega, by simp, by simp⟩⟩
theorem clone_any {B : Nat} {w : World} {A : Option Addr} {c : Nat} {xs : List Int} (hv : Own B 3 w (.slice A xs.length c) xs) (hn : xs.length ≤ 1000) :
  Calls Tryz.prog 74 #[.slice A xs.length c] w fun e w' => ∃ A' c', e = .returned (.slice A' xs.length c') ∧ Own w.heap.size 3 w' (.slice A' xs.length c') xs ∧ Below w.heap.size w w' := by
 cases A with
 | none =>
  have hx : xs = [] := by
   rcases hv with ⟨_, ⟨h1, h0⟩ | ⟨g, cap, cur, h1, _⟩⟩
   ·exact List.eq_nil_of_length_eq_zero h0
   ·cases h1
  subst hx
  have hq : (binOp .eql 30 (.slice none 0 c) (.slice none 0 0)).run Tryz.prog w = .ok (.bool true) w := by kernel_rfl
  clear hv
  show Calls Tryz.prog 74 #[.slice none 0 c] w _
  go_enter Tryz.func74, Tryz.ntmps74
  go_wp2
  go_ret
  exact ⟨none, 0, rfl, Own.nil _ _ _, Below.refl _ _⟩
 | some ad =>
  obtain ⟨A, c', w', hrun, hown, hb, _⟩ := append_ints (own_empty w 3) (hv.rd.alloc (Nat.le_refl _) _) (by simp; omega) (by simp)
  simp only [List.length_nil, Nat.zero_add, List.nil_append] at hrun hown
  have Hown := Lib.hid hown
  have Hb := Lib.hid (((Below.refl w.heap.size w).alloc (Nat.le_refl _) _).trans hb)
  clear hown hb hv
  have hq : (binOp .eql 30 (.slice (some ad) xs.length c) (.slice none 0 0)).run Tryz.prog w = .ok (.bool false) w := by kernel_rfl
  go_enter Tryz.func74, Tryz.ntmps74
  go_wp2_with (at_builtin; refine wpList_append_run rfl _ _ _ rfl rfl rfl hrun ?_)
  go_ret
  exact ⟨A, c', rfl, Hown.out, Hb.out⟩
end Go.Proofs.YthnimhnlnddnoaaGreatDoor
namespace Go.Proofs.YthnimhnlnddnoaaGreatDoor
open Go.RowKit
theorem high_any {B BH : Nat} {w : World} {v u : Value} {r : List RvR} {h : List Int} (hs : Rd RvAt 4 B w v r) (h9 : 1 ≤ r.length ∧ r.length ≤ 9) (hB : B ≤ w.heap.size) (hh : Rd IntAt 1 BH w u h) (hBH : BH ≤ w.heap.size) (hl : h.length = r.length) :
  Calls Tryz.prog 12 #[v, u] w fun e w' => ∃ A c, e = .returned (.slice A r.length c) ∧ Own w.heap.size 51 w' (.slice A r.length c) (highR r h) ∧ Below w.heap.size w w' := by
 obtain ⟨A, cap, rfl, _⟩ := id hs
 obtain ⟨AH, cH, rfl, _⟩ := id hh
 have hH0 := Lib.hid (fun (X : World) (hb : Below w.heap.size w X) => hh.below (hb.mono hBH))
 obtain ⟨v', w', hrun, hown, hgr, _⟩ := append_rv (m := r.length) rfl (own_empty (α := RvR) w 51) (hs.alloc hB (.cells #[] 51)) (by simp; omega) (by simp)
 rw [List.nil_append] at hown
 have hgr : (w.alloc (.cells #[] 51)).grownBy w' (some w.heap.size) := hgr
 have hb1 : Below w.heap.size w w' := ((Below.refl _ _).alloc (Nat.le_refl _) _).trans (grown_below hgr (Nat.le_refl _) (by simp))
 obtain ⟨A', c', rfl, hc1, hc2⟩ := hown.form
 have hA' : ∃ g, A' = some ⟨g, 0, none⟩ := by
  rcases id hown with ⟨_, ⟨h1, h0⟩ | ⟨g, cap, cur, h1, _⟩⟩
  ·have := List.eq_nil_of_length_eq_zero h0
   rw [this] at h9
   simp at h9
  ·injection h1 with h1
   exact ⟨g, h1⟩
 obtain ⟨g, rfl⟩ := hA'
 have HO := Lib.hid hown
 have HB1 := Lib.hid hb1
 clear hs hh hown hgr hb1
 go_enter Tryz.func12, Tryz.ntmps12
 go_wp2_with (at_builtin; refine wpList_append_run rfl _ _ _ rfl rfl rfl hrun ?_)
 clear hrun
 go_loopw [6] (fun iv wr => ∃ k : Nat, k ≤ r.length ∧ iv = .int .i64 k ∧ Own w.heap.size 51 wr (.slice (some ⟨g, 0, none⟩) r.length c') (highK r h k) ∧ Below w.heap.size w wr) (fun iv _ => r.length - (intOf iv).toNat)
 case atStart => exact ⟨0, Nat.zero_le _, rfl, HO.out, HB1.out⟩
 case round =>
  obtain ⟨k, hk, rfl, ho, hb⟩ := hrel
  have HHl := Lib.hid hl
  have HOw := Lib.hid ho
  have HB := Lib.hid hb
  by_cases hlt : k < r.length
  ·have hkl : k < h.length := by omega
   obtain ⟨adH, rfl, _, e1⟩ := (hH0.out _ hb).int hkl
   replace e1 : wr.cell? (adH.add k) = some (.int .i64 (h.getD k 0)) := by rw [List.getD_eq_getElem?_getD]; exact e1
   obtain ⟨⟨o, e2⟩, f2, hgb, hset⟩ := ho.putHgt (i := k) (by rw [highK_len]; exact hlt)
   have HSt := Lib.hid (hset (h.getD k 0))
   have HK := Lib.hid (show highK r h (k + 1) = setH (highK r h k) k (h.getD k 0) from rfl)
   have HGb := Lib.hid hgb
   clear ho hb hset hgb
   generalize h.getD k 0 = y at *
   go_wp2
   go_roundw
   case rel => exact ⟨k + 1, by omega, by go_num, by rw [HK.out]; exact HSt.out, HB.out.setCell HGb.out _⟩
   case measure => simp [intOf]; omega
  ·have hkn : k = r.length := by omega
   subst hkn
   clear ho hb
   go_wp2
   go_ret
   exact ⟨_, _, rfl, HOw.out, HB.out⟩
end Go.Proofs.YthnimhnlnddnoaaGreatDoor
namespace Go.Proofs.YthnimhnlnddnoaaGreatDoor
open Go.RowKit
section
variable {α : Type} {At : World → Addr → α → Prop} {sz : Nat} [E : Enc α At sz]
structure ApJ (B0 : Nat) (T : TypeId) (W : World) (v0 : Value) (l : List α) (x : α) (ib ia it : Nat) (cell : Addr) (rdP : Nat → Bool) (val : Nat → Value) (L : Nat → Bool) (vs : Nat → Value) (X : World) : Prop where
 pre : L ia = false → L it = false → Below W.heap.size W X
 lit : L ib = true → L ia = false → L it = false → Own W.heap.size T X (vs ib) [x]
 post : L ia = true → L it = false → W.grownBy X v0.ownBlock ∧ Own B0 T X (vs ia) (l ++ [x])
 rd : ∀ k, rdP k = true → L k = true → vs k = val k
 st : L it = true → ∃ X0, W.grownBy X0 v0.ownBlock ∧ Own B0 T X0 (vs ia) (l ++ [x]) ∧ X = X0.setCell cell (vs ia)
variable {B0 : Nat} {T : TypeId} {W : World} {v0 : Value} {l : List α} {x : α} {ib ia it : Nat} {cell : Addr} {rdP : Nat → Bool} {val : Nat → Value} {L : Nat → Bool} {vs : Nat → Value} {X : World}
theorem ApJ.start : ApJ B0 T W v0 l x ib ia it cell rdP val (fun _ => false) (fun _ => undef) W.drew :=
 ⟨fun _ _ => (Below.refl _ _).drew, fun h => by (cases h), fun h => by (cases h), fun _ _ h => (by cases h), fun h => by (cases h)⟩
theorem ApJ.read (h : ApJ B0 T W v0 l x ib ia it cell rdP val L vs X) {i : Nat} (h1 : i ≠ ib) (h2 : i ≠ ia) (h3 : i ≠ it) : ApJ B0 T W v0 l x ib ia it cell rdP val (updB L i) (updV vs i (val i)) X := by
 refine ⟨?_, ?_, ?_, rd_step h.rd (fun _ => rfl), ?_⟩
 ·rw [updB_other _ (Ne.symm h2), updB_other _ (Ne.symm h3)]; exact h.pre
 ·rw [updB_other _ (Ne.symm h1), updB_other _ (Ne.symm h2), updB_other _ (Ne.symm h3), updV_other _ _ (Ne.symm h1)]; exact h.lit
 ·rw [updB_other _ (Ne.symm h2), updB_other _ (Ne.symm h3), updV_other _ _ (Ne.symm h2)]; exact h.post
 ·rw [updB_other _ (Ne.symm h3), updV_other _ _ (Ne.symm h2)]; exact h.st
theorem ApJ.build (h : ApJ B0 T W v0 l x ib ia it cell rdP val L vs X) (h2 : ib ≠ ia) (h3 : ib ≠ it) (h4 : L ia = false) (h5 : L it = false) (h6 : rdP ib = false) {cs : Array Value} (hcs : cs = (E.enc x).toArray) :
  ApJ B0 T W v0 l x ib ia it cell rdP val (updB L ib) (updV vs ib (.slice (some ⟨X.heap.size, 0, none⟩) 1 1)) (X.alloc (.cells cs T)) := by
 have hb := h.pre h4 h5
 refine ⟨fun _ _ => hb.alloc hb.size _, fun _ _ _ => ?_, fun h => ?_, rd_step h.rd (fun h => (by rw [h6] at h; cases h)), fun h => ?_⟩
 ·rw [updV_self]
  exact (own_lit (e := T) [x] (by simp) (by rw [heap_alloc_new X _, hcs]; simp)).mono hb.size
 ·rw [updB_other _ (Ne.symm h2), h4] at h; cases h
 ·rw [updB_other _ (Ne.symm h3), h5] at h; cases h
theorem ApJ.append_ (h : ApJ B0 T W v0 l x ib ia it cell rdP val L vs X) (h2 : ia ≠ ib) (h3 : ia ≠ it) (h4 : L ia = false) (h5 : L it = false) (h6 : rdP ia = false) {v' : Value} {X' : World} (ho : Own B0 T X' v' (l ++ [x])) (hg : X.grownBy X' v0.ownBlock) :
  ApJ B0 T W v0 l x ib ia it cell rdP val (updB L ia) (updV vs ia v') X' := by
 have hb := h.pre h4 h5
 refine ⟨fun h => (by rw [updB_self] at h; cases h), fun _ h => (by rw [updB_self] at h; cases h), fun _ _ => ⟨⟨hg.os.trans hb.os, hg.tape.trans hb.tape, hg.output.trans hb.output, Nat.le_trans hb.size hg.size, fun k hk hn => (hg.block k (by have := hb.size; omega) hn).trans (hb.block k hk)⟩, by rw [updV_self]; exact ho⟩, rd_step h.rd (fun h => (by rw [h6] at h; cases h)), fun h => ?_⟩
 rw [updB_other _ (Ne.symm h3), h5] at h; cases h
theorem ApJ.store (h : ApJ B0 T W v0 l x ib ia it cell rdP val L vs X) (h3 : it ≠ ia) (h4 : L ia = true) (h5 : L it = false) (h6 : rdP it = false) : ApJ B0 T W v0 l x ib ia it cell rdP val (updB L it) (updV vs it undef) (X.setCell cell (vs ia)) := by
 obtain ⟨hb, ho⟩ := h.post h4 h5
 refine ⟨fun _ h => (by rw [updB_self] at h; cases h), fun _ _ h => (by rw [updB_self] at h; cases h), fun _ h => (by rw [updB_self] at h; cases h), rd_step h.rd (fun h => (by rw [h6] at h; cases h)), fun _ => ?_⟩
 rw [updV_other _ _ (Ne.symm h3)]
 exact ⟨X, hb, ho, rfl⟩
end
theorem Own.apart {α β : Type} {At : World → Addr → α → Prop} {sz : Nat} [Enc α At sz] {At2 : World → Addr → β → Prop} {sz2 : Nat} [Enc β At2 sz2] {base : Nat} {T S : TypeId} {W X : World} {v u : Value} {xs : List α} {ys : List β} (hv : Own base T W v xs) (hu : Own base S W u ys) (hne : T ≠ S) (hg : W.grownBy X v.ownBlock) : Own base S X u ys := by
 rcases hu with ⟨hl, h0 | ⟨g, cap, cur, rfl, hbb, hh, r⟩⟩
 ·exact ⟨hl, .inl h0⟩
 ·refine ⟨hl, .inr ⟨g, cap, cur, rfl, hbb, (hg.block g (lt_of_block hh) fun e => ?_).trans hh, r⟩⟩
  rcases hv with ⟨_, ⟨rfl, _⟩ | ⟨g', cap', cur', rfl, _, hh', _⟩⟩
  ·cases e
  ·simp only [Value.ownBlock, Option.some.injEq] at e
   subst e
   rw [hh] at hh'
   simp only [Option.some.injEq, Obj.cells.injEq] at hh'
   exact hne hh'.2.1.symm
end Go.Proofs.YthnimhnlnddnoaaGreatDoor
namespace Go.Proofs.YthnimhnlnddnoaaGreatDoor
open Go.RowKit
structure TryC (a : Nat) (iv : Int) (vp vn : Value) (left found : Bool) (A4 A2 : Option Addr) (n4 n2 c4 c2 : Nat) (w : World) : Prop where
 s0 : w.cell? ⟨a, 0, none⟩ = some (.int .i64 iv)
 s1 : w.cell? ⟨a, 1, none⟩ = some vp
 s2 : w.cell? ⟨a, 2, none⟩ = some vn
 f1 : w.cell? ⟨a + 1, 0, none⟩ = some (.bool left)
 f2 : w.cell? ⟨a + 2, 0, none⟩ = some (.slice A2 n2 c2)
 f3 : w.cell? ⟨a + 3, 0, none⟩ = some (.bool found)
 f4 : w.cell? ⟨a + 4, 0, none⟩ = some (.slice A4 n4 c4)
 f5 : w.cell? ⟨a + 5, 0, none⟩ = some (.func (.func 97) #[] (tryP a))
 z2 : w.frozen? ⟨a + 2, 0, none⟩ = false
 z3 : w.frozen? ⟨a + 3, 0, none⟩ = false
 z4 : w.frozen? ⟨a + 4, 0, none⟩ = false
theorem TryI.reads {a : Nat} {iv : Int} {vp vn : Value} {left : Bool} {cur : List Int} {st : Bool × List Int} {w : World} (h : TryI a iv vp vn left cur st w) :
  ∃ A4 A2 c4 c2, TryC a iv vp vn left st.1 A4 A2 cur.length st.2.length c4 c2 w ∧ Own (a + 6) 3 w (.slice A4 cur.length c4) cur ∧ Own (a + 6) 3 w (.slice A2 st.2.length c2) st.2 ∧
   (∀ g, (Value.slice A4 cur.length c4).ownBlock = some g → (Value.slice A2 st.2.length c2).ownBlock ≠ some g) ∧ cur.length ≤ c4 := by
 obtain ⟨lv, bv, h4, h2, ho1, ho2, hs⟩ := h.lists
 obtain ⟨A4, c4, rfl, hc4, _⟩ := ho1.form
 obtain ⟨A2, c2, rfl, _, _⟩ := ho2.form
 exact ⟨A4, A2, c4, c2, ⟨cellOf h.c0 0 rfl, cellOf h.c0 1 rfl, cellOf h.c0 2 rfl, cellOf h.c1 0 rfl, cellOf h2 0 rfl, cellOf h.c3 0 rfl, cellOf h4 0 rfl, cellOf h.c5 0 rfl, by simp [World.frozen?, h2], by simp [World.frozen?, h.c3], by simp [World.frozen?, h4]⟩, ho1, ho2, hs, hc4⟩
theorem try_stop {a : Nat} {iv : Int} {vp vn : Value} {left bad : Bool} {cur : List Int} {st : Bool × List Int} {w : World} (i : Int) (b : Mat) (h : TryI a iv vp vn left cur st w)
  (hc : ((st.1 && decide (st.2.length ≤ cur.length)) || (left && bad)) = true) :
  Calls Tryz.prog 97 #[.int .i64 i, .agg (matC b), .bool bad, .pointer (some ⟨a + 3, 0, none⟩), .pointer (some ⟨a + 4, 0, none⟩), .pointer (some ⟨a + 2, 0, none⟩), .pointer (some ⟨a + 1, 0, none⟩), .pointer (some ⟨a, 0, none⟩), .pointer (some ⟨a + 5, 0, none⟩)] w (TryRes a iv vp vn left cur st w) := by
 obtain ⟨W1, hW1, r1, z1, d1⟩ := box_any w (matC b) 82
 have hI := h.below d1
 have HR := Lib.hid (show TryRes a iv vp vn left cur st w (.returned (.tuple #[])) W1 from ⟨rfl, hI, TF.of_below d1 h.size⟩)
 obtain ⟨A4, A2, c4, c2, hC, _⟩ := hI.reads
 have f1 := hC.f1
 have f2 := hC.f2
 have f3 := hC.f3
 have f4 := hC.f4
 clear hC hI h d1 r1 z1
 obtain ⟨found, best⟩ := st
 simp only at *
 cases found with
 | true =>
  by_cases hl : best.length ≤ cur.length
  ·go_enter Tryz.func97, Tryz.ntmps97
   go_upto_region 1 with (fail)
   rw [← hW1]
   clear hW1
   go_wp2
   refine bodyPost_ret (results_none rfl _ _ _) rfl HR.out
  ·have hc2 : left = true ∧ bad = true := by simpa [hl] using hc
   obtain ⟨rfl, rfl⟩ := hc2
   clear hc
   go_enter Tryz.func97, Tryz.ntmps97
   go_upto_region 1 with (fail)
   rw [← hW1]
   clear hW1
   go_wp2
   refine bodyPost_ret (results_none rfl _ _ _) rfl HR.out
 | false =>
  have hc2 : left = true ∧ bad = true := by simpa using hc
  obtain ⟨rfl, rfl⟩ := hc2
  clear hc
  go_enter Tryz.func97, Tryz.ntmps97
  go_upto_region 1 with (fail)
  rw [← hW1]
  clear hW1
  go_wp2
  refine bodyPost_ret (results_none rfl _ _ _) rfl HR.out
theorem try_end {a : Nat} {iv : Int} {vp : Value} {An : Option Addr} {n cn : Nat} {cur : List Int} {st : Bool × List Int} {w : World} (b : Mat) (h : TryI a iv vp (.slice An n cn) false cur st w)
  (hc : (st.1 && decide (st.2.length ≤ cur.length)) = false) :
  Calls Tryz.prog 97 #[.int .i64 n, .agg (matC b), .bool false, .pointer (some ⟨a + 3, 0, none⟩), .pointer (some ⟨a + 4, 0, none⟩), .pointer (some ⟨a + 2, 0, none⟩), .pointer (some ⟨a + 1, 0, none⟩), .pointer (some ⟨a, 0, none⟩), .pointer (some ⟨a + 5, 0, none⟩)] w (TryRes a iv vp (.slice An n cn) false cur st w) := by
 obtain ⟨W1, hW1, r1, z1, d1⟩ := box_any w (matC b) 82
 have hI := h.below d1
 have HR := Lib.hid (show TryRes a iv vp (.slice An n cn) false cur st w (.returned (.tuple #[])) W1 from ⟨rfl, hI, TF.of_below d1 h.size⟩)
 obtain ⟨A4, A2, c4, c2, hC, _⟩ := hI.reads
 have s2 := hC.s2
 have f1 := hC.f1
 have f2 := hC.f2
 have f3 := hC.f3
 have f4 := hC.f4
 clear hC hI h d1 r1 z1
 obtain ⟨found, best⟩ := st
 simp only at *
 cases found with
 | true =>
  have hl : ¬ best.length ≤ cur.length := by simpa using hc
  clear hc
  go_enter Tryz.func97, Tryz.ntmps97
  go_upto_region 1 with (fail)
  rw [← hW1]
  clear hW1
  go_wp2
  refine bodyPost_ret (results_none rfl _ _ _) rfl HR.out
 | false =>
  clear hc
  go_enter Tryz.func97, Tryz.ntmps97
  go_upto_region 1 with (fail)
  rw [← hW1]
  clear hW1
  go_wp2
  refine bodyPost_ret (results_none rfl _ _ _) rfl HR.out
theorem try_found {a : Nat} {iv : Int} {vp vn : Value} {left : Bool} {cur : List Int} {st : Bool × List Int} {w w2 : World} {A' : Option Addr} {c' : Nat} (h : TryI a iv vp vn left cur st w)
  (ho : Own w.heap.size 3 w2 (.slice A' cur.length c') cur) (hb : Below w.heap.size w w2) :
  TryI a iv vp vn left cur (true, cur) ((w2.setCell ⟨a + 2, 0, none⟩ (.slice A' cur.length c')).setCell ⟨a + 3, 0, none⟩ (.bool true)) ∧ TF a w ((w2.setCell ⟨a + 2, 0, none⟩ (.slice A' cur.length c')).setCell ⟨a + 3, 0, none⟩ (.bool true)) := by
 have hsz := h.size
 have h2 := h.below hb
 obtain ⟨lv, bv, h4, hb2, ho1, ho2, hs⟩ := h2.lists
 have old : ∀ k, k ≠ a + 2 → k ≠ a + 3 → ((w2.setCell ⟨a + 2, 0, none⟩ (.slice A' cur.length c')).setCell ⟨a + 3, 0, none⟩ (.bool true)).heap[k]? = w2.heap[k]? := fun k k1 k2 => by
  rw [Below.heap_setCell _ _ _ _ (by show k ≠ a + 3; exact k2), Below.heap_setCell _ _ _ _ (by show k ≠ a + 2; exact k1)]
 refine ⟨⟨(old _ (by omega) (by omega)).trans h2.c0, (old _ (by omega) (by omega)).trans h2.c1, heap_setCell_row ((Below.heap_setCell _ _ _ _ (by show a + 3 ≠ a + 2; omega)).trans h2.c3) _, (old _ (by omega) (by omega)).trans h2.c5,
  lv, .slice A' cur.length c', (old _ (by omega) (by omega)).trans h4, (Below.heap_setCell _ _ _ _ (by show a + 2 ≠ a + 3; omega)).trans (heap_setCell_row hb2 _), (ho1.other (by show a + 2 < a + 6; omega) _).other (by show a + 3 < a + 6; omega) _,
  ((ho.mono hsz).other (by show a + 2 < a + 6; omega) _).other (by show a + 3 < a + 6; omega) _, fun g hg hg2 => ?_⟩, ?_⟩
 ·obtain ⟨lv', bv', h4', _, ho1', _⟩ := h.lists
  have e : lv = lv' := by
   have := ((hb.block _ (lt_of_block h4')).trans h4').symm.trans h4
   simpa using this.symm
  subst e
  have hg1 : g < w.heap.size := by
   rcases ho1' with ⟨_, ⟨rfl, _⟩ | ⟨g', cap, cu, rfl, _, hh, _⟩⟩
   ·cases hg
   ·simp only [Value.ownBlock, Option.some.injEq] at hg
    subst hg
    exact lt_of_block hh
  rcases ho with ⟨_, ⟨e1, _⟩ | ⟨g', cap, cu, e1, hle, hh, _⟩⟩
  ·rw [e1] at hg2; cases hg2
  ·rw [e1] at hg2
   simp only [Value.ownBlock, Option.some.injEq] at hg2
   omega
 ·exact ⟨hb.os, hb.tape, hb.output, by simpa [World.setCell] using hb.size, fun k hk k1 k2 _ => (old k k1 k2).trans (hb.block k (by omega)), fun k o hk ho _ => (old k (by omega) (by omega)).trans ((hb.block k (lt_of_block ho)).trans ho)⟩
theorem try_best {a : Nat} {iv : Int} {vp : Value} {An : Option Addr} {n cn : Nat} {left bad : Bool} {cur : List Int} {st : Bool × List Int} {w : World} (i : Nat) (b : Mat) (h : TryI a iv vp (.slice An n cn) left cur st w)
  (hc : ((st.1 && decide (st.2.length ≤ cur.length)) || (left && bad)) = false) (hg : bad = true ∨ (left = true ∧ i = n)) (hlen : cur.length ≤ 1000) :
  Calls Tryz.prog 97 #[.int .i64 i, .agg (matC b), .bool bad, .pointer (some ⟨a + 3, 0, none⟩), .pointer (some ⟨a + 4, 0, none⟩), .pointer (some ⟨a + 2, 0, none⟩), .pointer (some ⟨a + 1, 0, none⟩), .pointer (some ⟨a, 0, none⟩), .pointer (some ⟨a + 5, 0, none⟩)] w (TryRes a iv vp (.slice An n cn) left cur (true, cur) w) := by
 obtain ⟨W1, hW1, r1, z1, d1⟩ := box_any w (matC b) 82
 have hI := h.below d1
 have HT := Lib.hid (TF.of_below d1 h.size)
 obtain ⟨A4, A2, c4, c2, hC, hown, _⟩ := hI.reads
 have HI := Lib.hid hI
 have HCl := Lib.hid (clone_any hown hlen)
 have s2 := hC.s2
 have f1 := hC.f1
 have f2 := hC.f2
 have f3 := hC.f3
 have f4 := hC.f4
 have z2 := hC.z2
 have z3 := hC.z3
 have l2 := cell_lt f2
 have l3 := cell_lt f3
 clear hC hI h d1 r1 z1 hown
 obtain ⟨found, best⟩ := st
 simp only [Bool.or_eq_false_iff] at *
 have hl : found = true → ¬ best.length ≤ cur.length := fun e => by have := hc.1; rw [e] at this; simpa using this
 have hlb := hc.2
 clear hc
 have arm : True := trivial
 rcases hg with rfl | ⟨rfl, rfl⟩
 ·have hleft : left = false := by simpa using hlb
  subst hleft
  cases found with
  | true =>
   have hl := hl rfl
   go_enter Tryz.func97, Tryz.ntmps97
   go_upto_region 1 with (fail)
   rw [← hW1]
   clear hW1
   go_wp2_with (go_at_call 74; refine HCl.out.mono ?_; rintro e w2 ⟨A', c', rfl, ho2, hb2⟩; have f2 := (hb2.cell l2).trans f2; have f3 := (hb2.cell l3).trans f3; have z2 := (hb2.frozen l2).trans z2; have z3 := (hb2.frozen l3).trans z3)
   refine bodyPost_ret (results_none rfl _ _ _) rfl ?_
   have := try_found HI.out ho2 hb2
   exact ⟨rfl, this.1, HT.out.trans this.2⟩
  | false =>
   clear hl
   go_enter Tryz.func97, Tryz.ntmps97
   go_upto_region 1 with (fail)
   rw [← hW1]
   clear hW1
   go_wp2_with (go_at_call 74; refine HCl.out.mono ?_; rintro e w2 ⟨A', c', rfl, ho2, hb2⟩; have f2 := (hb2.cell l2).trans f2; have f3 := (hb2.cell l3).trans f3; have z2 := (hb2.frozen l2).trans z2; have z3 := (hb2.frozen l3).trans z3)
   refine bodyPost_ret (results_none rfl _ _ _) rfl ?_
   have := try_found HI.out ho2 hb2
   exact ⟨rfl, this.1, HT.out.trans this.2⟩
 ·have hbad : bad = false := by simpa using hlb
  subst hbad
  cases found with
  | true =>
   have hl := hl rfl
   go_enter Tryz.func97, Tryz.ntmps97
   go_upto_region 1 with (fail)
   rw [← hW1]
   clear hW1
   go_wp2_with (go_at_call 74; refine HCl.out.mono ?_; rintro e w2 ⟨A', c', rfl, ho2, hb2⟩; have f2 := (hb2.cell l2).trans f2; have f3 := (hb2.cell l3).trans f3; have z2 := (hb2.frozen l2).trans z2; have z3 := (hb2.frozen l3).trans z3)
   refine bodyPost_ret (results_none rfl _ _ _) rfl ?_
   have := try_found HI.out ho2 hb2
   exact ⟨rfl, this.1, HT.out.trans this.2⟩
  | false =>
   clear hl
   go_enter Tryz.func97, Tryz.ntmps97
   go_upto_region 1 with (fail)
   rw [← hW1]
   clear hW1
   go_wp2_with (go_at_call 74; refine HCl.out.mono ?_; rintro e w2 ⟨A', c', rfl, ho2, hb2⟩; have f2 := (hb2.cell l2).trans f2; have f3 := (hb2.cell l3).trans f3; have z2 := (hb2.frozen l2).trans z2; have z3 := (hb2.frozen l3).trans z3)
   refine bodyPost_ret (results_none rfl _ _ _) rfl ?_
   have := try_found HI.out ho2 hb2
   exact ⟨rfl, this.1, HT.out.trans this.2⟩
end Go.Proofs.YthnimhnlnddnoaaGreatDoor
