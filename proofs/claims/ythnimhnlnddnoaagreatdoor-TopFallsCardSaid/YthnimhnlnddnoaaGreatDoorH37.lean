/- Parts of the proof of TpP: RvPC, RvPD, RvPE. -/
import Derived.Test.YthnimhnlnddnoaaGreatDoorH36
import Derived.WalkKit
import Derived.Deep.Quiet
import Derived.Test.YthnimhnlnddnoaaGreatDoorH24
set_option linter.unusedSimpArgs false
set_option linter.unusedVariables false
set_option maxRecDepth 100000
set_option maxHeartbeats 8000000
namespace Go.Proofs.YthnimhnlnddnoaaGreatDoor
open Go.RowKit Go.Shelf
structure LkB (r : List RvR) (a b : Nat) (v : Value) (w : World) : Prop where
 pts : Rd RvAt 4 a w v r
 riv : RivAt w b v (dropP r r.length)
 lt : b < a
theorem LkB.below {r : List RvR} {a b : Nat} {v : Value} {w w' : World} (h : LkB r a b v w) (hb : Below a w w') : LkB r a b v w' := ⟨h.pts.below hb, (hb.block _ h.lt).trans h.riv, h.lt⟩
theorem LkB.lk {r : List RvR} {a b : Nat} {v : Value} {w : World} (h : LkB r a b v w) (ha : a ≤ w.heap.size) : LkN r b v w := ⟨⟨a, h.pts, ha⟩, h.riv⟩
def proP (a ar : Nat) : Array Value := #[.pointer (some ⟨a + 3, 0, none⟩), .pointer (some ⟨a + 2, 0, none⟩), .pointer (some ⟨ar, 0, none⟩), .pointer (some ⟨a + 4, 0, none⟩), .pointer (some ⟨a + 1, 0, none⟩), .pointer (some ⟨a, 0, none⟩), .pointer (some ⟨a + 5, 0, none⟩)]
structure ProI (a ar b : Nat) (v : Value) (ch l : List Int) (st : List Int × Int) (w : World) : Prop where
 cx : w.heap[a]? = some (.cells #[.pointer (some ⟨b, 0, none⟩)] 87)
 cf : w.heap[a + 2]? = some (.cells #[.int .i64 st.2] 3)
 cr : w.heap[ar]? = some (.cells #[v] 22)
 cp : w.heap[a + 5]? = some (.cells #[.func (.func 73) #[] (proP a ar)] 123)
 lt : ar < a
 t3 : T3 a 3 4 1 ch l st.1 w
theorem ProI.size {a ar b : Nat} {v : Value} {ch l : List Int} {st : List Int × Int} {w : World} (h : ProI a ar b v ch l st w) : a + 6 ≤ w.heap.size := lt_of_block h.cp
theorem ProI.below {a ar b : Nat} {v : Value} {ch l : List Int} {st : List Int × Int} {w w' : World} (h : ProI a ar b v ch l st w) (hb : Below w.heap.size w w') : ProI a ar b v ch l st w' ∧ PF a w w' :=
 ⟨⟨(hb.block _ (lt_of_block h.cx)).trans h.cx, (hb.block _ (lt_of_block h.cf)).trans h.cf, (hb.block _ (lt_of_block h.cr)).trans h.cr, (hb.block _ (lt_of_block h.cp)).trans h.cp, h.lt, h.t3.below hb⟩, PF.of_below hb h.size⟩
structure ProC (a ar b : Nat) (v : Value) (f : Int) (A3 A4 : Option Addr) (n3 n4 c3 c4 : Nat) (w : World) : Prop where
 f0 : w.cell? ⟨a, 0, none⟩ = some (.pointer (some ⟨b, 0, none⟩))
 f2 : w.cell? ⟨a + 2, 0, none⟩ = some (.int .i64 f)
 f3 : w.cell? ⟨a + 3, 0, none⟩ = some (.slice A3 n3 c3)
 f4 : w.cell? ⟨a + 4, 0, none⟩ = some (.slice A4 n4 c4)
 f5 : w.cell? ⟨a + 5, 0, none⟩ = some (.func (.func 73) #[] (proP a ar))
 fr : w.cell? ⟨ar, 0, none⟩ = some v
 z1 : w.frozen? ⟨a + 1, 0, none⟩ = false
 z2 : w.frozen? ⟨a + 2, 0, none⟩ = false
 z3 : w.frozen? ⟨a + 3, 0, none⟩ = false
 z4 : w.frozen? ⟨a + 4, 0, none⟩ = false
 g1 : ∃ u, w.cell? ⟨a + 1, 0, none⟩ = some u
theorem ProI.reads {a ar b : Nat} {v : Value} {ch l : List Int} {st : List Int × Int} {w : World} (h : ProI a ar b v ch l st w) :
  ∃ A3 A4 c3 c4, ProC a ar b v st.2 A3 A4 ch.length l.length c3 c4 w ∧ Own (a + 6) 3 w (.slice A3 ch.length c3) ch ∧ Own (a + 6) 3 w (.slice A4 l.length c4) l ∧ ch.length ≤ c3 ∧ l.length ≤ c4 := by
 obtain ⟨vx, vy, vz, h1, h2, h3, o1, o2, o3, s1, s2, s3⟩ := h.t3
 obtain ⟨A3, c3, rfl, hc3, _⟩ := o1.form
 obtain ⟨A4, c4, rfl, hc4, _⟩ := o2.form
 exact ⟨A3, A4, c3, c4, ⟨cellOf h.cx 0 rfl, cellOf h.cf 0 rfl, cellOf h1 0 rfl, cellOf h2 0 rfl, cellOf h.cp 0 rfl, cellOf h.cr 0 rfl, by simp [World.frozen?, h3], by simp [World.frozen?, h.cf], by simp [World.frozen?, h1], by simp [World.frozen?, h2], ⟨_, cellOf h3 0 rfl⟩⟩, o1, o2, hc3, hc4⟩
theorem ProI.same {a ar b : Nat} {v : Value} {ch l ch2 l2 : List Int} {st st2 : List Int × Int} {w w6 : World} (h : ProI a ar b v ch l st w) (hf : w6.heap[a + 2]? = some (.cells #[.int .i64 st2.2] 3)) (hp : PF a w w6) (ht : T3 a 3 4 1 ch2 l2 st2.1 w6) : ProI a ar b v ch2 l2 st2 w6 :=
 ⟨(hp.low a (by omega) (by omega) (by omega) (by omega) (by omega)).trans h.cx, hf, (hp.low ar (by have := h.lt; omega) (by have := h.lt; omega) (by have := h.lt; omega) (by have := h.lt; omega) (by have := h.lt; omega)).trans h.cr, (hp.low (a + 5) (by omega) (by omega) (by omega) (by omega) (by omega)).trans h.cp, h.lt, ht⟩
theorem T3.push {a i j k : Nat} {x y z : List Int} {w : World} (h : T3 a i j k x y z w) (hi : i = 1 ∨ i = 3 ∨ i = 4) (hj : j = 1 ∨ j = 3 ∨ j = 4) (hk : k = 1 ∨ k = 3 ∨ k = 4) (hij : i ≠ j ∧ i ≠ k ∧ j ≠ k) (hz : a + 6 ≤ w.heap.size) (q : Int) (hlen : x.length ≤ 1000) :
  ∃ A4 c4 A c w5, w.cell? ⟨a + i, 0, none⟩ = some (.slice A4 x.length c4) ∧ (Builtin.append_ #[30, 30] 30 #[.slice A4 x.length c4, .slice (some ⟨w.heap.size, 0, none⟩) 1 1]).run Tryz.prog (w.alloc (.cells #[.int .i64 q] 3)) = .ok (.slice A (x.length + 1) c) w5 ∧
   (∃ o, w5.cell? ⟨a + i, 0, none⟩ = some o) ∧ w5.frozen? ⟨a + i, 0, none⟩ = false ∧ T3 a i j k (x ++ [q]) y z (w5.setCell ⟨a + i, 0, none⟩ (.slice A (x.length + 1) c)) ∧ PF a w (w5.setCell ⟨a + i, 0, none⟩ (.slice A (x.length + 1) c)) ∧
   (∀ g, g < a + 6 → g ≠ a + i → (w5.setCell ⟨a + i, 0, none⟩ (.slice A (x.length + 1) c)).heap[g]? = w.heap[g]?) := by
 obtain ⟨vx, vy, vz, h1, h2, h3, o1, o2, o3, s1, s2, s3⟩ := id h
 obtain ⟨A4, c4, rfl, _, _⟩ := o1.form
 obtain ⟨A, c, w5, hrun, hown, hg, hob⟩ := append_int_g o1 q (by omega) hz
 have hga : (w.alloc (.cells #[.int .i64 q] 3)).heap.size = w.heap.size + 1 := by simp
 have keep : ∀ g, g < w.heap.size → (Value.slice A4 x.length c4).ownBlock ≠ some g → w5.heap[g]? = w.heap[g]? := fun g hg1 hg2 => (hg.block g (by omega) (fun e => hg2 e.symm)).trans (Below.heap_alloc w _ g hg1)
 have hki := (keep (a + i) (lt_of_block h1) (fun e => by have := (o1.owner e).1; omega)).trans h1
 have hi6 : a + i < a + 6 := by omega
 have key := h.upd (w6 := w5.setCell ⟨a + i, 0, none⟩ (.slice A (x.length + 1) c)) hi hj hk hij hz h1 ⟨hg.os, hg.tape, hg.output, by have := hg.size; simp [World.setCell]; omega⟩ (heap_setCell_row hki _)
  (fun g hg1 hg2 hg3 => (Below.heap_setCell _ _ _ _ (by show g ≠ a + i; exact hg2)).trans (keep g hg1 hg3)) (hown.other (by show a + i < a + 6; exact hi6) _) (by
   rcases hob with e | e
   ·exact .inl e
   ·exact .inr fun g hg1 => by rw [e] at hg1; injection hg1 with hg1; omega)
 exact ⟨A4, c4, A, c, w5, cellOf h1 0 rfl, hrun, ⟨_, cellOf hki 0 rfl⟩, by simp [World.frozen?, hki], key.1, key.2, fun g hg1 hg2 => (Below.heap_setCell _ _ _ _ (by show g ≠ a + i; exact hg2)).trans (keep g (by omega) (fun e => by have := (o1.owner e).1; omega))⟩
theorem T3.pop {a i j k : Nat} {x y z : List Int} {w : World} (h : T3 a i j k x y z w) (hi : i = 1 ∨ i = 3 ∨ i = 4) (hj : j = 1 ∨ j = 3 ∨ j = 4) (hk : k = 1 ∨ k = 3 ∨ k = 4) (hij : i ≠ j ∧ i ≠ k ∧ j ≠ k) (hz : a + 6 ≤ w.heap.size) {n : Nat} (hn : n ≤ x.length) :
  ∃ A4 c4, w.cell? ⟨a + i, 0, none⟩ = some (.slice A4 x.length c4) ∧ x.length ≤ c4 ∧ w.frozen? ⟨a + i, 0, none⟩ = false ∧ T3 a i j k (x.take n) y z (w.setCell ⟨a + i, 0, none⟩ (.slice A4 n c4)) ∧ PF a w (w.setCell ⟨a + i, 0, none⟩ (.slice A4 n c4)) ∧
   (∀ g, g ≠ a + i → (w.setCell ⟨a + i, 0, none⟩ (.slice A4 n c4)).heap[g]? = w.heap[g]?) := by
 obtain ⟨vx, vy, vz, h1, h2, h3, o1, o2, o3, s1, s2, s3⟩ := id h
 obtain ⟨A4, c4, rfl, hc4, _⟩ := o1.form
 have key := h.upd (w6 := w.setCell ⟨a + i, 0, none⟩ (.slice A4 n c4)) hi hj hk hij hz h1 ⟨rfl, rfl, rfl, by simp [World.setCell]⟩ (heap_setCell_row h1 _)
  (fun g hg1 hg2 hg3 => Below.heap_setCell _ _ _ _ (by show g ≠ a + i; exact hg2)) ((o1.take hn).other (by show a + i < a + 6; omega) _) (by
   refine .inl ?_
   cases A4 with
   | none => rfl
   | some ad => rfl)
 exact ⟨A4, c4, cellOf h1 0 rfl, hc4, by simp [World.frozen?, h1], key.1, key.2, fun g hg => Below.heap_setCell _ _ _ _ (by show g ≠ a + i; exact hg)⟩
theorem T3.put {a i j k : Nat} {x y z : List Int} {w : World} (h : T3 a i j k x y z w) (hi : i = 1 ∨ i = 3 ∨ i = 4) (hj : j = 1 ∨ j = 3 ∨ j = 4) (hk : k = 1 ∨ k = 3 ∨ k = 4) (hij : i ≠ j ∧ i ≠ k ∧ j ≠ k) (hz : a + 6 ≤ w.heap.size) {n : Nat} (hn : n < x.length) :
  ∃ g c4, w.cell? ⟨a + i, 0, none⟩ = some (.slice (some ⟨g, 0, none⟩) x.length c4) ∧ a + 6 ≤ g ∧ w.cell? ⟨g, n, none⟩ = some (.int .i64 (x.getD n 0)) ∧ w.frozen? ⟨g, n, none⟩ = false ∧
   ∀ q : Int, T3 a i j k (x.set n q) y z (w.setCell ⟨g, n, none⟩ (.int .i64 q)) ∧ PF a w (w.setCell ⟨g, n, none⟩ (.int .i64 q)) ∧ (∀ g2, g2 < a + 6 → (w.setCell ⟨g, n, none⟩ (.int .i64 q)).heap[g2]? = w.heap[g2]?) := by
 obtain ⟨vx, vy, vz, h1, h2, h3, o1, o2, o3, s1, s2, s3⟩ := id h
 obtain ⟨A4, c4, rfl, hc4, _⟩ := o1.form
 obtain ⟨g, rfl, hg1, hg2, hcell, hfz, hset⟩ := o1.putInt hn
 refine ⟨g, c4, cellOf h1 0 rfl, hg1, hcell, hfz, fun q => ?_⟩
 have key := h.upd (w6 := w.setCell ⟨g, n, none⟩ (.int .i64 q)) hi hj hk hij hz h1 ⟨rfl, rfl, rfl, by simp [World.setCell]⟩ ((Below.heap_setCell _ _ _ _ (by show a + i ≠ g; omega)).trans h1)
  (fun g2 h1 h2 h3 => Below.heap_setCell _ _ _ _ (by show g2 ≠ g; intro e; subst e; exact h3 rfl)) (hset q) (.inl rfl)
 exact ⟨key.1, key.2, fun g2 hg => Below.heap_setCell _ _ _ _ (by show g2 ≠ g; omega)⟩
end Go.Proofs.YthnimhnlnddnoaaGreatDoor
namespace Go.Proofs.YthnimhnlnddnoaaGreatDoor
open Go.RowKit Go.Shelf
structure ChOK (i : Nat) (ch : List Nat) : Prop where
 len : ch.length ≤ i
 el : ∀ c ∈ ch, 0 < c ∧ c < 2 ^ i
def chT (ch : List Nat) (n : Nat) : List Nat := if n = ch.length then ch ++ [0] else ch
theorem chT_new (ch : List Nat) : chT ch ch.length = ch ++ [0] := if_pos rfl
theorem chT_old {ch : List Nat} {n : Nat} (h : n < ch.length) : chT ch n = ch := if_neg (by omega)
theorem chT_len {ch : List Nat} {n : Nat} (hn : n ≤ ch.length) : n < (chT ch n).length ∧ (chT ch n).length ≤ ch.length + 1 := by
 unfold chT
 split <;> simp <;> omega
theorem chT_getD {ch : List Nat} {n : Nat} (hn : n ≤ ch.length) : (chT ch n).getD n 0 = ch.getD n 0 := by
 unfold chT
 split
 ·rename_i h
  subst h
  simp
 ·rfl
theorem putC_eq {ch : List Nat} {n : Nat} (hn : n ≤ ch.length) (i : Nat) : (chT ch n).set n (ch.getD n 0 ||| 2 ^ i) = putC ch n i := by
 unfold chT putC
 split
 ·rename_i h
  subst h
  rw [List.set_append_right _ _ (Nat.le_refl _), Nat.sub_self]
  simp
 ·rfl
theorem putC_back {ch : List Nat} {n : Nat} (hn : n ≤ ch.length) (i : Nat) : (putC ch n i).set n (ch.getD n 0) = chT ch n := by
 unfold chT putC
 split
 ·rename_i h
  subst h
  rw [List.set_append_right _ _ (Nat.le_refl _), Nat.sub_self]
  simp
 ·rename_i h
  rw [List.set_set]
  refine List.ext_getElem? fun j => ?_
  rw [List.getElem?_set]
  split
  ·rename_i e
   subst e
   rw [if_pos (by omega), List.getD_eq_getElem?_getD, List.getElem?_eq_getElem (by omega)]
   rfl
  ·rfl
theorem putC_getD {ch : List Nat} {n : Nat} (hn : n ≤ ch.length) (i : Nat) : (putC ch n i).getD n 0 = ch.getD n 0 ||| 2 ^ i ∧ n < (putC ch n i).length ∧ (putC ch n i).length ≤ ch.length + 1 := by
 have h := chT_len hn
 rw [← putC_eq hn, List.length_set]
 refine ⟨?_, h.1, h.2⟩
 rw [List.getD_eq_getElem?_getD, List.getElem?_set, if_pos rfl, if_pos h.1]
 rfl
theorem chEl {ch : List Nat} {i : Nat} (h : ChOK i ch) {n : Nat} (hn : n < ch.length) : 0 < ch.getD n 0 ∧ ch.getD n 0 < 2 ^ i := h.el _ (getD_mem hn 0)
theorem chLt {ch : List Nat} {i : Nat} (h : ChOK i ch) (n : Nat) : ch.getD n 0 < 2 ^ i := by
 by_cases hn : n < ch.length
 ·exact (chEl h hn).2
 ·rw [List.getD_eq_getElem?_getD, List.getElem?_eq_none (by omega)]
  exact Nat.two_pow_pos i
theorem or_pow_lt {c i : Nat} (h : c < 2 ^ i) : c ||| 2 ^ i < 2 ^ (i + 1) := Nat.or_lt_two_pow (Nat.lt_of_lt_of_le h (Nat.pow_le_pow_right (by omega) (by omega))) (Nat.pow_lt_pow_right (by omega) (by omega))
theorem or_pow_pos (c i : Nat) : 0 < c ||| 2 ^ i := by
 have h : (c ||| 2 ^ i).testBit i = true := by rw [Nat.testBit_or, Nat.testBit_two_pow_self, Bool.or_true]
 by_cases e : c ||| 2 ^ i = 0
 ·rw [e] at h; simp at h
 ·omega
theorem ChOK.put {ch : List Nat} {i : Nat} (h : ChOK i ch) {n : Nat} (hn : n ≤ ch.length) : ChOK (i + 1) (putC ch n i) := by
 refine ⟨by have := (putC_getD hn i).2.2; have := h.len; omega, fun c hc => ?_⟩
 have up : ∀ c ∈ ch, 0 < c ∧ c < 2 ^ (i + 1) := fun c hc => ⟨(h.el c hc).1, Nat.lt_of_lt_of_le (h.el c hc).2 (Nat.pow_le_pow_right (by omega) (by omega))⟩
 unfold putC at hc
 split at hc
 ·rcases List.mem_append.1 hc with hc | hc
  ·exact up c hc
  ·simp only [List.mem_singleton] at hc
   subst hc
   exact ⟨Nat.two_pow_pos i, Nat.pow_lt_pow_right (by omega) (by omega)⟩
 ·rcases List.mem_or_eq_of_mem_set hc with hc | hc
  ·exact up c hc
  ·subst hc
   exact ⟨or_pow_pos _ _, or_pow_lt (chLt h n)⟩
theorem ChOK.up {ch : List Nat} {i : Nat} (h : ChOK i ch) : ChOK (i + 1) ch := ⟨by have := h.len; omega, fun c hc => ⟨(h.el c hc).1, Nat.lt_of_lt_of_le (h.el c hc).2 (Nat.pow_le_pow_right (by omega) (by omega))⟩⟩
theorem andnot_tab : ((List.range 9).all fun i => (List.range (2 ^ i)).all fun c => decide (bits .andNot .i64 ((c ||| 2 ^ i : Nat) : Int) ((2 ^ i : Nat) : Int) = (c : Int))) = true := by kernel_rfl
theorem andnot_is {i c : Nat} (hi : i < 9) (hc : c < 2 ^ i) : bits .andNot .i64 ((c ||| 2 ^ i : Nat) : Int) (wrap64 (2 ^ i)) = (c : Int) := by
 rw [wrap_pow i (by omega)]
 exact of_decide_eq_true (all_lt (all_lt andnot_tab hi) hc)
theorem or_is {i c : Nat} (hi : i < 9) (hc : c < 2 ^ i) : bits .or .i64 (c : Int) (wrap64 (2 ^ i)) = ((c ||| 2 ^ i : Nat) : Int) := by
 have h : 2 ^ i < 2 ^ 9 := Nat.pow_lt_pow_right (by omega) hi
 rw [show (2 : Nat) ^ 9 = 512 from rfl] at h
 rw [wrap_pow i (by omega)]
 exact bits_or_nat _ _ (by omega) h
theorem ofN_set (l : List Nat) (n c : Nat) : ofN (l.set n c) = (ofN l).set n (c : Int) := by unfold ofN; rw [List.map_set]
theorem ofN_getD (l : List Nat) (n : Nat) : (ofN l).getD n 0 = ((l.getD n 0 : Nat) : Int) := by
 unfold ofN
 rw [List.getD_eq_getElem?_getD, List.getElem?_map, List.getD_eq_getElem?_getD]
 cases l[n]? <;> rfl
theorem listF_el {c i : Nat} (hc : c < 2 ^ i) (k : Nat) (hk : k < (listF c).length) : ∃ n : Nat, (listF c).getD k 0 = n ∧ n < i := by
 have h : (listF c).getD k 0 ∈ listF c := by
  rw [List.getD_eq_getElem?_getD, List.getElem?_eq_getElem hk]
  exact List.getElem_mem hk
 unfold listF idxL at h
 rw [List.mem_map] at h
 obtain ⟨n, hn, e⟩ := h
 rw [List.mem_filter] at hn
 refine ⟨n, e.symm, ?_⟩
 by_cases hni : n < i
 ·exact hni
 ·have := Nat.testBit_lt_two_pow (i := n) (Nat.lt_of_lt_of_le hc (Nat.pow_le_pow_right (n := 2) (by omega) (by omega)))
  rw [this] at hn
  simp at hn
theorem okC_any (r : List RvR) (i c : Nat) : ((listF c).any fun x => !conflR r i x.toNat) = !okC r i c := by
 unfold okC
 rw [List.not_all_eq_any_not]
def provK (r : List RvR) (f i : Nat) (ch : List Nat) (l : List Int) (st : List Int × Int) (n : Nat) : List Int × Int :=
 (List.range n).foldl (fun st n => if okC r i (ch.getD n 0) then provR r f (i + 1) (putC ch n i) (l ++ [(n : Int)]) st else st) st
theorem provK_succ (r : List RvR) (f i : Nat) (ch : List Nat) (l : List Int) (st : List Int × Int) (n : Nat) :
  provK r f i ch l st (n + 1) = if okC r i (ch.getD n 0) then provR r f (i + 1) (putC ch n i) (l ++ [(n : Int)]) (provK r f i ch l st n) else provK r f i ch l st n := by
 unfold provK
 rw [List.range_succ, List.foldl_append]
 rfl
end Go.Proofs.YthnimhnlnddnoaaGreatDoor
namespace Go.Proofs.YthnimhnlnddnoaaGreatDoor
open Go.RowKit Go.Shelf
def ProRes (a ar b : Nat) (v : Value) (ch l : List Int) (st : List Int × Int) (w : World) (e : Ending) (w' : World) : Prop :=
 e = .returned (.tuple #[]) ∧ ProI a ar b v ch l st w' ∧ PF a w w'
theorem pro_stop {a ar b : Nat} {v : Value} {ch l : List Int} {st : List Int × Int} {w : World} (i : Int) (h : ProI a ar b v ch l st w) (hc : st.2 ≤ ch.length) :
  Calls Tryz.prog 73 #[.int .i64 i, .pointer (some ⟨a + 3, 0, none⟩), .pointer (some ⟨a + 2, 0, none⟩), .pointer (some ⟨ar, 0, none⟩), .pointer (some ⟨a + 4, 0, none⟩), .pointer (some ⟨a + 1, 0, none⟩), .pointer (some ⟨a, 0, none⟩), .pointer (some ⟨a + 5, 0, none⟩)] w (ProRes a ar b v ch l st w) := by
 obtain ⟨W1, hW1, r1, z1, d1⟩ := box_any w #[.int .i64 i] 3
 obtain ⟨hI, hP⟩ := h.below d1
 have HR := Lib.hid (show ProRes a ar b v ch l st w (.returned (.tuple #[])) W1 from ⟨rfl, hI, hP⟩)
 obtain ⟨A3, A4, c3, c4, hC, _⟩ := hI.reads
 have f2 := hC.f2
 have f3 := hC.f3
 clear hC hI h d1 r1 z1 hP
 obtain ⟨best, fw⟩ := st
 simp only at *
 go_enter Tryz.func73, Tryz.ntmps73
 go_upto_region 1 with (fail)
 rw [← hW1]
 clear hW1
 go_wp2
 refine bodyPost_ret (results_none rfl _ _ _) rfl HR.out
theorem pro_found {a ar b : Nat} {v : Value} {ch l : List Int} {st : List Int × Int} {w w2 : World} {A' : Option Addr} {c' : Nat} (h : ProI a ar b v ch l st w)
  (ho : Own w.heap.size 3 w2 (.slice A' l.length c') l) (hb : Below w.heap.size w w2) (m : Nat) :
  ProI a ar b v ch l (l, m) ((w2.setCell ⟨a + 1, 0, none⟩ (.slice A' l.length c')).setCell ⟨a + 2, 0, none⟩ (.int .i64 m)) ∧ PF a w ((w2.setCell ⟨a + 1, 0, none⟩ (.slice A' l.length c')).setCell ⟨a + 2, 0, none⟩ (.int .i64 m)) := by
 have hsz := h.size
 obtain ⟨vc, vl, vb, h3, h4, h1, _⟩ := h.t3
 have h1' := (hb.block _ (lt_of_block h1)).trans h1
 have old : ∀ k, k ≠ a + 1 → k ≠ a + 2 → ((w2.setCell ⟨a + 1, 0, none⟩ (.slice A' l.length c')).setCell ⟨a + 2, 0, none⟩ (.int .i64 m)).heap[k]? = w2.heap[k]? := fun k k1 k2 => by
  rw [Below.heap_setCell _ _ _ _ (by show k ≠ a + 2; exact k2), Below.heap_setCell _ _ _ _ (by show k ≠ a + 1; exact k1)]
 have hcf := (hb.block _ (lt_of_block h.cf)).trans h.cf
 have key := T3.upd (w6 := w2.setCell ⟨a + 1, 0, none⟩ (.slice A' l.length c')) h.t3.rot.rot (.inl rfl) (.inr (.inl rfl)) (.inr (.inr rfl)) (by omega) hsz h1
  ⟨hb.os, hb.tape, hb.output, by simpa [World.setCell] using hb.size⟩ (heap_setCell_row h1' _) (fun g hg1 hg2 _ => (Below.heap_setCell _ _ _ _ (by show g ≠ a + 1; exact hg2)).trans (hb.block g hg1)) ((ho.mono hsz).other (by show a + 1 < a + 6; omega) _)
  (.inr fun g hg => (ho.owner hg).1)
 have hcf6 : (w2.setCell ⟨a + 1, 0, none⟩ (.slice A' l.length c')).heap[a + 2]? = some (.cells #[.int .i64 st.2] 3) := (Below.heap_setCell _ _ _ _ (by show a + 2 ≠ a + 1; omega)).trans hcf
 have ht := key.1.rot
 obtain ⟨vx, vy, vz, q1, q2, q3, o1, o2, o3, s1, s2, s3⟩ := ht
 have keep : ∀ g, g ≠ a + 2 → ((w2.setCell ⟨a + 1, 0, none⟩ (.slice A' l.length c')).setCell ⟨a + 2, 0, none⟩ (.int .i64 m)).heap[g]? = (w2.setCell ⟨a + 1, 0, none⟩ (.slice A' l.length c')).heap[g]? := fun g hg => Below.heap_setCell _ _ _ _ (by show g ≠ a + 2; exact hg)
 have t7 : T3 a 3 4 1 ch l l ((w2.setCell ⟨a + 1, 0, none⟩ (.slice A' l.length c')).setCell ⟨a + 2, 0, none⟩ (.int .i64 m)) :=
  ⟨vx, vy, vz, (keep _ (by omega)).trans q1, (keep _ (by omega)).trans q2, (keep _ (by omega)).trans q3, o1.other (by show a + 2 < a + 6; omega) _, o2.other (by show a + 2 < a + 6; omega) _, o3.other (by show a + 2 < a + 6; omega) _, s1, s2, s3⟩
 have p7 : PF a w ((w2.setCell ⟨a + 1, 0, none⟩ (.slice A' l.length c')).setCell ⟨a + 2, 0, none⟩ (.int .i64 m)) := by
  have hk := key.2
  refine ⟨hk.os, hk.tape, hk.output, by simpa [World.setCell] using hb.size, fun g g1 g2 g3 g4 g5 => (keep g g3).trans (hk.low g g1 g2 g3 g4 g5), fun g g1 g2 g3 => (keep g (by omega)).trans (hk.hi g g1 g2 g3), fun g ⟨q, u, hq, hu, hou⟩ => hk.ow g ⟨q, u, hq, (keep _ (by omega)).symm.trans hu, hou⟩⟩
 exact ⟨h.same (heap_setCell_row hcf6 _) p7 t7, p7⟩
structure PeI (W : World) (a : Nat) (l : List Int) (v0 v2 : Value) (m : Nat) (L : Nat → Bool) (vs : Nat → Value) (X : World) : Prop where
 r0 : L 0 = true → vs 0 = v0
 r2 : L 2 = true → vs 2 = v2
 r3 : L 3 = true → vs 3 = .int .i64 m
 bel : L 4 = false → Below W.heap.size W X
 clo : L 1 = true → ∃ A c, vs 1 = .slice A l.length c ∧ (L 4 = false → Own W.heap.size 3 X (.slice A l.length c) l)
 st4 : L 4 = true → L 5 = false → ∃ X' A c, Below W.heap.size W X' ∧ Own W.heap.size 3 X' (.slice A l.length c) l ∧ X = X'.setCell ⟨a + 1, 0, none⟩ (.slice A l.length c)
 st5 : L 5 = true → ∃ X' A c, Below W.heap.size W X' ∧ Own W.heap.size 3 X' (.slice A l.length c) l ∧ X = (X'.setCell ⟨a + 1, 0, none⟩ (.slice A l.length c)).setCell ⟨a + 2, 0, none⟩ (.int .i64 m)
theorem cellO (w : World) {p q : Addr} (u : Value) (h : q.block ≠ p.block) : (w.setCell p u).cell? q = w.cell? q := World.cell?_setCell_other w p q u (fun e => by subst e; exact h rfl)
theorem frozenO (w : World) {p q : Addr} (u : Value) (h : q.block ≠ p.block) : (w.setCell p u).frozen? q = w.frozen? q := by
 unfold World.frozen?
 rw [Below.heap_setCell w p u q.block h]
theorem enter74 : ∀ args w, (callFunc 74 args).run Tryz.prog w = .ok (.enter 74 args) w := enters_of Tryz.func74 (by kernel_rfl) rfl
theorem pro_best {a ar b : Nat} {An : Option Addr} {n cn : Nat} {ch l : List Int} {st : List Int × Int} {w : World} (h : ProI a ar b (.slice An n cn) ch l st w) (hc : ¬ st.2 ≤ ch.length) (hlen : l.length ≤ 1000) :
  Calls Tryz.prog 73 #[.int .i64 n, .pointer (some ⟨a + 3, 0, none⟩), .pointer (some ⟨a + 2, 0, none⟩), .pointer (some ⟨ar, 0, none⟩), .pointer (some ⟨a + 4, 0, none⟩), .pointer (some ⟨a + 1, 0, none⟩), .pointer (some ⟨a, 0, none⟩), .pointer (some ⟨a + 5, 0, none⟩)] w (ProRes a ar b (.slice An n cn) ch l (l, ch.length) w) := by
 obtain ⟨W1, hW1, r1, z1, d1⟩ := box_any w #[.int .i64 n] 3
 obtain ⟨hI, hP⟩ := h.below d1
 have HP := Lib.hid hP
 obtain ⟨A3, A4, c3, c4, hC, ho3, ho4, _⟩ := hI.reads
 have HCl := Lib.hid (fun (X : World) (hb : Below W1.heap.size W1 X) => clone_any (ho4.below hb) hlen)
 have HI := Lib.hid hI
 have fi := cellOf r1 0 rfl
 obtain ⟨f0, f2, f3, f4, f5, fr, k1, k2, k3, k4, ⟨u1, f1⟩⟩ := hC
 clear f0 f5 k3 k4 hI h d1 r1 z1 hP ho3 ho4
 have l1 := cell_lt f1
 have l2 := cell_lt f2
 obtain ⟨best, fw⟩ := st
 simp only at *
 go_enter Tryz.func73, Tryz.ntmps73
 go_upto_region 1 with (fail)
 rw [← hW1]
 clear hW1
 go_upto_region 3 with (fail)
 clear fi fr
 have K1 := Lib.hid k1
 have K2 := Lib.hid k2
 have F1 := Lib.hid f1
 have F2 := Lib.hid f2
 have F3 := Lib.hid f3
 have F4 := Lib.hid f4
 have L1 := Lib.hid l1
 have L2 := Lib.hid l2
 clear k1 k2 f1 f2 f3 f4 l1 l2
 refine wp_region_ghost (PeI W1 a l (.slice A4 l.length c4) (.slice A3 ch.length c3) ch.length) (by kernel_rfl) (by kernel_rfl) ?_ ?_ ?_
 ·exact ⟨fun h => (by cases h), fun h => (by cases h), fun h => (by cases h), fun _ => (Below.refl _ _).drew, fun h => (by cases h), fun h => (by cases h), fun h => (by cases h)⟩
 ·refine ⟨?_, ?_, ?_, ?_, ?_, ?_, trivial⟩
  all_goals
   intro L vs X b hL hw hcl hI hf
  ·have n4 : L 4 = false := not_yet hcl 4 hL rfl (by kernel_rfl)
   have n5 : L 5 = false := not_yet hcl 5 hL rfl (by kernel_rfl)
   have hb := hI.bel n4
   have e4 := hf.old 4 (by kernel_rfl)
   have a0 := (hb.cell (cell_lt F4.out)).trans F4.out
   exact wp_of_run (v := .slice A4 l.length c4) (w' := X) (by unfold execOp; go_simp) (⟨fun _ => rfl, hI.r2, hI.r3, fun _ => hb, hI.clo, hI.st4, hI.st5⟩)
  ·have n4 : L 4 = false := not_yet hcl 4 hL rfl (by kernel_rfl)
   have n5 : L 5 = false := not_yet hcl 5 hL rfl (by kernel_rfl)
   have hb := hI.bel n4
   have e20 := hf.got hw 0 20 (.slice A4 l.length c4) rfl (by kernel_rfl) (by simp) hI.r0
   refine wp_of_call2 (f := 74) (args := #[.slice A4 l.length c4]) (run_call_clo (.func 74) _ _ rfl (c := #[]) rfl enter74 (by simp [eval_tmp e20])) ?_
   refine (HCl.out X hb).mono ?_
   rintro e wz ⟨A', c', rfl, ho2, hb2⟩
   refine .inl ⟨_, rfl, hI.r0, hI.r2, hI.r3, fun _ => hb.trans (hb2.mono hb.size), fun _ => ⟨A', c', rfl, fun _ => ho2.mono hb.size⟩, fun h => absurd (n4.symm.trans h) (by simp), fun h => absurd (n5.symm.trans h) (by simp)⟩
  ·have n5 : L 5 = false := not_yet hcl 5 hL rfl (by kernel_rfl)
   have e1 := hf.old 1 (by kernel_rfl)
   have a0 : X.cell? ⟨a + 3, 0, none⟩ = some (.slice A3 ch.length c3) := by
    cases h4 : L 4 with
    | false =>
     have hb := hI.bel h4
     exact (hb.cell (cell_lt F3.out)).trans F3.out
    | true =>
     obtain ⟨X', A', c', hb, _, rfl⟩ := hI.st4 h4 n5
     exact (cellO _ _ (by show a + 3 ≠ a + 1; omega)).trans ((hb.cell (cell_lt F3.out)).trans F3.out)
   exact wp_of_run (v := .slice A3 ch.length c3) (w' := X) (by unfold execOp; go_simp) (⟨hI.r0, fun _ => rfl, hI.r3, hI.bel, hI.clo, hI.st4, hI.st5⟩)
  ·have e22 := hf.got hw 2 22 (.slice A3 ch.length c3) rfl (by kernel_rfl) (by simp) hI.r2
   exact wp_of_run (v := .int .i64 ch.length) (w' := X) (by unfold execOp; go_simp) (⟨hI.r0, hI.r2, fun _ => rfl, hI.bel, hI.clo, hI.st4, hI.st5⟩)
  ·have n5 : L 5 = false := not_yet hcl 5 hL rfl (by kernel_rfl)
   have h1 : L 1 = true := done_of hw 1 (by kernel_rfl)
   obtain ⟨A', c', hv1, ho⟩ := hI.clo h1
   have e21 : b.tmps[21]?.getD undef = .slice A' l.length c' := (hf.new 1 21 rfl h1 (by simp)).trans hv1
   have e5 := hf.old 5 (by kernel_rfl)
   have hb := hI.bel hL
   have q0 := (hb.cell L1.out).trans F1.out
   have fx := (hb.frozen L1.out).trans K1.out
   have hO := ho hL
   refine wp_of_skip (w' := X.setCell ⟨a + 1, 0, none⟩ (.slice A' l.length c')) (by unfold execOp; go_simp) ?_
   exact ⟨hI.r0, hI.r2, hI.r3, fun h => (by cases h), fun _ => ⟨A', c', hv1, fun h => (by cases h)⟩, fun _ _ => ⟨X, A', c', hb, hO, rfl⟩, fun h => absurd (n5.symm.trans h) (by simp)⟩
  ·have h4 : L 4 = true := done_of hw 4 (by kernel_rfl)
   have h3 : L 3 = true := done_of hw 3 (by kernel_rfl)
   obtain ⟨X', A', c', hb, hO, rfl⟩ := hI.st4 h4 hL
   have e23 : b.tmps[23]?.getD undef = .int .i64 ch.length := (hf.new 3 23 rfl h3 (by simp)).trans (hI.r3 h3)
   have e2 := hf.old 2 (by kernel_rfl)
   have q0 := (hb.cell L2.out).trans F2.out
   have fx := (hb.frozen L2.out).trans K2.out
   have q1 : (X'.setCell ⟨a + 1, 0, none⟩ (.slice A' l.length c')).cell? ⟨a + 2, 0, none⟩ = some (.int .i64 fw) := (cellO _ _ (by show a + 2 ≠ a + 1; omega)).trans q0
   have fx1 : (X'.setCell ⟨a + 1, 0, none⟩ (.slice A' l.length c')).frozen? ⟨a + 2, 0, none⟩ = false := (frozenO _ _ (by show a + 2 ≠ a + 1; omega)).trans fx
   refine wp_of_skip (w' := (X'.setCell ⟨a + 1, 0, none⟩ (.slice A' l.length c')).setCell ⟨a + 2, 0, none⟩ (.int .i64 ch.length)) (by unfold execOp; go_simp) ?_
   exact ⟨hI.r0, hI.r2, hI.r3, fun h => absurd (h.symm.trans h4) (by simp), fun h => by
    obtain ⟨A2, c2, hv, _⟩ := hI.clo h
    exact ⟨A2, c2, hv, fun h => absurd (h.symm.trans h4) (by simp)⟩, fun _ h => (by cases h), fun _ => ⟨X', A', c', hb, hO, rfl⟩⟩
 ·intro vs X hI
  obtain ⟨X', A', c', hb, hO, rfl⟩ := hI.st5 rfl
  have HE := Lib.hid (pro_found HI.out hO hb ch.length)
  clear hI hO hb
  simp [fill, slotOf, Act.put]
  simp only [Exit.then]
  generalize vs 0 = u0
  generalize vs 1 = u1
  generalize vs 2 = u2
  generalize vs 3 = u3
  go_wp2
  refine bodyPost_ret (results_none rfl _ _ _) rfl ⟨rfl, HE.out.1, HP.out.trans HE.out.2⟩
end Go.Proofs.YthnimhnlnddnoaaGreatDoor
