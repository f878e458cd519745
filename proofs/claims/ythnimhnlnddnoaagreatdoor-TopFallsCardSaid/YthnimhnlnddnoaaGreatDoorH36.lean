/- Parts of the proof of TpP: RwP, RwQ, RvS, CoP, RvPA, RvPB. -/
import Derived.Test.YthnimhnlnddnoaaGreatDoorH30
import Derived.Test.YthnimhnlnddnoaaGreatDoorH34
import Derived.Test.YthnimhnlnddnoaaGreatDoorH6
import Derived.KernelRfl
import Derived.Test.YthnimhnlnddnoaaGreatDoorH19
import Derived.Test.YthnimhnlnddnoaaGreatDoorH31
import Derived.WalkKit
import Derived.Deep.Quiet
import Derived.WalkMore
set_option linter.unusedSimpArgs false
set_option linter.unusedVariables false
set_option maxRecDepth 100000
set_option maxHeartbeats 8000000
namespace Go.Proofs.YthnimhnlnddnoaaGreatDoor
theorem highR_len (r : List RvR) (h : List Int) : (highR r h).length = r.length := highK_len r h _
theorem highR_at {r : List RvR} (h : List Int) {i : Nat} (hi : i < r.length) : (highR r h).getD i default = { r.getD i default with hgt := h.getD i 0 } := by
 unfold highR
 rw [highK_at r h _ i hi, if_pos hi]
theorem highR_out {r : List RvR} (h : List Int) {i : Nat} (hi : ¬ i < r.length) : (highR r h).getD i default = r.getD i default := by
 have := highR_len r h
 rw [List.getD_eq_getElem?_getD, List.getD_eq_getElem?_getD, List.getElem?_eq_none (by omega), List.getElem?_eq_none (by omega)]
theorem highR_D (r : List RvR) (h : List Int) (i : Nat) : rvD (highR r h) i = rvD r i := by
 unfold rvD
 by_cases hi : i < r.length
 ·rw [highR_at h hi]
 ·rw [highR_out h hi]
theorem highR_L (r : List RvR) (h : List Int) (i : Nat) : rvL (highR r h) i = rvL r i := by
 unfold rvL
 by_cases hi : i < r.length
 ·rw [highR_at h hi]
 ·rw [highR_out h hi]
theorem highR_N (r : List RvR) (h : List Int) (i : Nat) : rvN (highR r h) i = rvN r i := by
 unfold rvN
 by_cases hi : i < r.length
 ·rw [highR_at h hi]
 ·rw [highR_out h hi]
theorem highR_H {r : List RvR} (h : List Int) {i : Nat} (hi : i < r.length) : rvH (highR r h) i = h.getD i 0 := by
 unfold rvH
 rw [highR_at h hi]
theorem highR_step (r : List RvR) (h : List Int) (i : Nat) : stepR (highR r h) i = stepR r i := by unfold stepR; rw [highR_D]
theorem highR_walk (r : List RvR) (h : List Int) : ∀ (k i : Nat), walkR (highR r h) k i = walkR r k i
 | 0, _ => rfl
 | k + 1, i => by
  show walkR (highR r h) k (stepR (highR r h) i) = walkR r k (stepR r i)
  rw [highR_step, highR_walk r h k]
theorem highR_good {r : List RvR} (hg : RGood r) {h : List Int} (hl : ∀ i, i < r.length → 0 ≤ h.getD i 0 ∧ h.getD i 0 ≤ 9000) : RGood (highR r h) := by
 have hn := highR_len r h
 refine ⟨by rw [hn]; exact hg.len, fun i hi => ?_, fun i hi => ?_, fun i hi => ?_, fun i hi => ?_, fun i hi => ?_, fun i hi j hj => ?_, fun i k hi hk => ?_, fun i hi => ?_⟩
 ·rw [hn] at hi ⊢; rw [highR_D]; exact hg.down i hi
 ·rw [hn] at hi; rw [highR_L]; exact hg.least i hi
 ·rw [hn] at hi; rw [highR_D, highR_L]; exact hg.lmouth i hi
 ·rw [hn] at hi; rw [highR_H h hi]; exact hl i hi
 ·rw [hn] at hi; rw [highR_N]; exact hg.names i hi
 ·rw [hn] at hi; rw [highR_N, highR_N]; exact hg.fresh i hi j hj
 ·rw [hn] at hi hk; rw [highR_D, highR_D]; exact hg.mouth i k hi hk
 ·rw [hn] at hi ⊢; rw [highR_walk, highR_D]; exact hg.ends i hi
theorem highR_runs {r : List RvR} (hg : RGood r) {h : List Int} (hr : RunsD r fun i => h.getD i 0) : RunsD (highR r h) (rvH (highR r h)) := by
 intro i hi hd
 rw [highR_len] at hi
 rw [highR_D] at hd ⊢
 rw [highR_L, highR_H h hi, highR_H h (down_lt hg hi hd)]
 exact hr i hi hd
theorem highR_map {r : List RvR} {h : List Int} (hl : h.length = r.length) : (highR r h).map (·.hgt) = h := by
 refine List.ext_getElem (by rw [List.length_map, highR_len, hl]) fun i h1 h2 => ?_
 have hi : i < r.length := by omega
 have := highR_H h hi
 unfold rvH at this
 rw [List.getD_eq_getElem?_getD, List.getD_eq_getElem?_getD, List.getElem?_eq_getElem (by rw [highR_len]; exact hi), List.getElem?_eq_getElem h2] at this
 rw [List.getElem_map]
 exact this
end Go.Proofs.YthnimhnlnddnoaaGreatDoor
namespace Go.Proofs.YthnimhnlnddnoaaGreatDoor
theorem runs_carveOK {r : List RvR} (hg : RGood r) (hy : RunsD r (rvH r)) : CarveOK r := fun i hi p hp => by
 have h := runs_below hg hy (r.length + 1) i 0 hi p hp
 have := (hg.hgt p.1 h.1).1
 omega
theorem runs_fill {r : List RvR} (hg : RGood r) (hy : RunsD r (rvH r)) : ∀ i, i < r.length → fillR r i ≤ 9000 := fun i hi => by
 rw [fill_runs hg hy hi]
 exact (hg.hgt i hi).2
def manyK (bits k : Nat) : Nat := (idxL k fun i => bits.testBit i).length
theorem manyK_succ (bits k : Nat) : manyK bits (k + 1) = if bits.testBit k = true then manyK bits k + 1 else manyK bits k := by
 unfold manyK
 rw [idxL_succ]
 split
 ·rw [List.length_append]; rfl
 ·rfl
theorem manyK_le (bits k : Nat) : manyK bits k ≤ k := idxL_len _ _
theorem idxL_congr {n : Nat} {p q : Nat → Bool} (h : ∀ i, i < n → p i = q i) : idxL n p = idxL n q := by
 unfold idxL
 congr 1
 exact List.filter_congr fun i hi => h i (by simpa using hi)
theorem few_many {r : List RvR} (hg : RGood r) {y : Nat → Int} (hy : RunsD r y) (h0 : ∀ i, i < r.length → 0 ≤ y i ∧ y i ≤ 9000) (bits : Nat) (hs : ∀ i, i < r.length → bits.testBit i = false → rvH r i = y i) : popF (fewR r) ≤ manyK bits r.length := by
 have h9 := hg.len.2
 have hb : ∀ i, (bits % 2 ^ r.length).testBit i = (decide (i < r.length) && bits.testBit i) := fun i => Nat.testBit_mod_two_pow bits r.length i
 have hlt : bits % 2 ^ r.length < 2 ^ r.length := Nat.mod_lt _ (Nat.two_pow_pos _)
 have hc := corr_true hg hy h0 (set := bits % 2 ^ r.length) fun i hi hbit => hs i hi (by
  unfold bitR at hbit
  rw [hb i] at hbit
  simpa [hi] using hbit)
 have := (few_spec h9).2 _ hlt hc
 refine Nat.le_trans this ?_
 have e : popF (bits % 2 ^ r.length) = manyK bits r.length := by
  unfold popF listF manyK
  have h1 := idxL_more (fun i => (bits % 2 ^ r.length).testBit i) (n := r.length) (fun i hi => by rw [hb i]; simp; omega) (9 - r.length)
  rw [show r.length + (9 - r.length) = 9 by omega] at h1
  rw [h1, idxL_congr (q := fun i => bits.testBit i) fun i hi => by rw [hb i]; simp [hi]]
 rw [e]
 exact Nat.le_refl _
end Go.Proofs.YthnimhnlnddnoaaGreatDoor
namespace Go.Proofs.YthnimhnlnddnoaaGreatDoor
def okC (r : List RvR) (i c : Nat) : Bool := (listF c).all fun k => conflR r i k.toNat
def putC (ch : List Nat) (n i : Nat) : List Nat := if n = ch.length then ch ++ [2 ^ i] else ch.set n (ch.getD n 0 ||| 2 ^ i)
def provR (r : List RvR) : Nat → Nat → List Nat → List Int → List Int × Int → List Int × Int
 | 0, _, ch, l, st => if st.2 ≤ ch.length then st else (l, ch.length)
 | f + 1, i, ch, l, st =>
  if st.2 ≤ ch.length then st
  else if outR r i then provR r f (i + 1) ch (l ++ [-1]) st
  else (List.range (ch.length + 1)).foldl (fun st n => if okC r i (ch.getD n 0) then provR r f (i + 1) (putC ch n i) (l ++ [(n : Int)]) st else st) st
def proofR (r : List RvR) : List Int := (provR r r.length 0 [] [] ([], (r.length : Int) + 1)).1
def neverC : Int := 1099511627776
def costR (r : List RvR) (lv fx : List Int) (tz : Nat) : Nat → Nat → Int → Int
 | 0, _, _ => 0
 | f + 1, at_, x => lv.foldl (fun m y =>
   if y < x ∨ y + dropR r at_ tz < 0 ∨ 9000 < y + dropR r at_ tz ∨ (at_ < fx.length ∧ fx.getD at_ 0 ≠ y + dropR r at_ tz) then m
   else min m ((List.range r.length).foldl (fun n k => if rvD r k = at_ then n + costR r lv fx tz f k y else n) (max (y + dropR r at_ tz - rvH r at_) (rvH r at_ - (y + dropR r at_ tz))))) neverC
def askR (r : List RvR) (lv fx : List Int) (tz : Nat) : Int := costR r lv fx tz r.length tz (-9000)
def fixR (r : List RvR) (lv : List Int) (tz : Nat) (c : Int) (hs : List Int) : List Int → List Int
 | [] => hs
 | [y] => hs ++ [y + dropR r hs.length tz]
 | y :: l => if askR r lv (hs ++ [y + dropR r hs.length tz]) tz = c then hs ++ [y + dropR r hs.length tz] else fixR r lv tz c hs l
def leastK (r : List RvR) (lv : List Int) (tz : Nat) (c : Int) : Nat → List Int
 | 0 => []
 | k + 1 => fixR r lv tz c (leastK r lv tz c k) lv
def nm (l : List UInt8) : ByteArray := ⟨l.toArray⟩
def exR (well : Int) : List RvR := [⟨nm [115, 101, 97], -1, 0, 0⟩, ⟨nm [102, 111, 114, 100], 0, 5, 40⟩, ⟨nm [109, 105, 108, 108], 1, 10, 45⟩, ⟨nm [115, 112, 114, 105, 110, 103], 2, 10, 70⟩, ⟨nm [119, 101, 108, 108], 1, 0, well⟩]
def exLv : List Int := [0, 0, 0, 0, 0, 0, 30, 33, 35, 45, 8975, 8985, 8995, 8995, 9000]
theorem ex_bad : badR (exR 38) = [2, 4] := by kernel_rfl
theorem ex_poured : pouredR (exR 38) 3 = [3, 2] := by kernel_rfl
theorem ex_fill : fillL (exR 38) = [0, 40, 50, 70, 40] := by kernel_rfl
theorem ex_carve : carveL (exR 38) = [0, 35, 45, 70, 38] := by kernel_rfl
theorem ex_few : listF (fewR (exR 38)) = [1] := by kernel_rfl
theorem ex_must : mustF (exR 38) (corrsR (exR 38)).length = (2, 2) := by kernel_rfl
theorem ex_proof : proofR (exR 38) = [0, 1, 1, 2, 3] := by kernel_rfl
theorem ex_least : leastK (exR 38) exLv 0 5 5 = [0, 35, 45, 70, 38] := by kernel_rfl
theorem ex_cost : askR (exR 38) exLv [] 0 = 5 := by kernel_rfl
end Go.Proofs.YthnimhnlnddnoaaGreatDoor
namespace Go.Proofs.YthnimhnlnddnoaaGreatDoor
theorem foldl_same {α β : Type} {f g : β → α → β} : ∀ (l : List α) (b : β), (∀ x ∈ l, ∀ b, f b x = g b x) → l.foldl f b = l.foldl g b
 | [], _, _ => rfl
 | x :: l, b, h => by
  rw [List.foldl_cons, List.foldl_cons, h x (by simp) b]
  exact foldl_same l _ fun y hy => h y (by simp [hy])
def skipS (r : List RvR) (fx : List Int) (tz at_ : Nat) (x y : Int) : Prop := y < x ∨ y + dropR r at_ tz < 0 ∨ 9000 < y + dropR r at_ tz ∨ (at_ < fx.length ∧ fx.getD at_ 0 ≠ y + dropR r at_ tz)
instance (r : List RvR) (fx : List Int) (tz at_ : Nat) (x y : Int) : Decidable (skipS r fx tz at_ x y) := inferInstanceAs (Decidable (_ ∨ _))
def costC (r : List RvR) (lv fx : List Int) (tz : Nat) (a x : Int) : Int := costR r lv fx tz (r.length - depth r a.toNat) a.toNat x
def costN (r : List RvR) (lv fx : List Int) (tz at_ : Nat) (y : Int) (q : Nat) : Int :=
 (List.range q).foldl (fun n (k : Nat) => if rvD r k = at_ then n + costC r lv fx tz k y else n) (max (y + dropR r at_ tz - rvH r at_) (rvH r at_ - (y + dropR r at_ tz)))
theorem costN_succ (r : List RvR) (lv fx : List Int) (tz at_ : Nat) (y : Int) (q : Nat) : costN r lv fx tz at_ y (q + 1) = if rvD r q = at_ then costN r lv fx tz at_ y q + costC r lv fx tz q y else costN r lv fx tz at_ y q := by
 unfold costN
 rw [List.range_succ, List.foldl_append]
 rfl
def costS (r : List RvR) (lv fx : List Int) (tz at_ : Nat) (x m y : Int) : Int := if skipS r fx tz at_ x y then m else min m (costN r lv fx tz at_ y r.length)
def costM (r : List RvR) (lv fx : List Int) (tz at_ : Nat) (x : Int) (j : Nat) : Int := (lv.take j).foldl (costS r lv fx tz at_ x) neverC
theorem costM_succ (r : List RvR) (lv fx : List Int) (tz at_ : Nat) (x : Int) {j : Nat} (hj : j < lv.length) : costM r lv fx tz at_ x (j + 1) = costS r lv fx tz at_ x (costM r lv fx tz at_ x j) (lv.getD j 0) := by
 unfold costM
 rw [List.take_succ_eq_append_getElem hj, List.foldl_append, List.getD_eq_getElem?_getD, List.getElem?_eq_getElem hj]
 rfl
theorem costR_succ (r : List RvR) (lv fx : List Int) (tz f at_ : Nat) (x : Int) : costR r lv fx tz (f + 1) at_ x = lv.foldl (fun m y =>
   if skipS r fx tz at_ x y then m
   else min m ((List.range r.length).foldl (fun n k => if rvD r k = at_ then n + costR r lv fx tz f k y else n) (max (y + dropR r at_ tz - rvH r at_) (rvH r at_ - (y + dropR r at_ tz))))) neverC := rfl
theorem costC_eq {r : List RvR} (hg : RGood r) (lv fx : List Int) (tz : Nat) {at_ : Nat} (ha : at_ < r.length) (x : Int) : costC r lv fx tz at_ x = costM r lv fx tz at_ x lv.length := by
 have hd := depth_lt hg ha
 unfold costC costM
 rw [show ((at_ : Int)).toNat = at_ from rfl, List.take_length]
 obtain ⟨f, hf⟩ : ∃ f, r.length - depth r at_ = f + 1 := ⟨r.length - depth r at_ - 1, by omega⟩
 rw [hf, costR_succ]
 refine foldl_same _ _ fun y _ m => ?_
 unfold costS
 split
 ·rfl
 ·congr 1
  unfold costN
  refine foldl_same _ _ fun k hk n => ?_
  have hk : k < r.length := by simpa using hk
  by_cases e : rvD r k = at_
  ·rw [if_pos e, if_pos e]
   have := depth_down hg hk (by omega)
   rw [e, show ((at_ : Int)).toNat = at_ from rfl] at this
   unfold costC
   rw [show ((k : Int)).toNat = k from rfl, show r.length - depth r k = f by omega]
  ·rw [if_neg e, if_neg e]
theorem fold_nn {α : Type} {f : Int → α → Int} {p : Int → Prop} (h : ∀ n x, p n → p (f n x)) : ∀ (l : List α) (n : Int), p n → p (l.foldl f n)
 | [], _, hn => hn
 | _ :: l, _, hn => fold_nn h l _ (h _ _ hn)
theorem costR_bound (r : List RvR) (lv fx : List Int) (tz : Nat) : ∀ (f at_ : Nat) (x : Int), 0 ≤ costR r lv fx tz f at_ x ∧ costR r lv fx tz f at_ x ≤ neverC
 | 0, _, _ => by unfold costR neverC; omega
 | f + 1, at_, x => by
  rw [costR_succ]
  refine fold_nn (p := fun n => 0 ≤ n ∧ n ≤ neverC) (fun m y hm => ?_) _ _ (by unfold neverC; omega)
  split
  ·exact hm
  ·have := fold_nn (p := fun n : Int => 0 ≤ n) (f := fun n (k : Nat) => if rvD r k = at_ then n + costR r lv fx tz f k y else n) (fun n k hn => by
    split
    ·have := (costR_bound r lv fx tz f k y).1
     omega
    ·exact hn) (List.range r.length) (max (y + dropR r at_ tz - rvH r at_) (rvH r at_ - (y + dropR r at_ tz))) (by omega)
   omega
theorem costC_bound (r : List RvR) (lv fx : List Int) (tz : Nat) (a x : Int) : 0 ≤ costC r lv fx tz a x ∧ costC r lv fx tz a x ≤ 1099511627776 := costR_bound _ _ _ _ _ _ _
theorem costM_bound (r : List RvR) (lv fx : List Int) (tz at_ : Nat) (x : Int) (j : Nat) : 0 ≤ costM r lv fx tz at_ x j ∧ costM r lv fx tz at_ x j ≤ 1099511627776 := by
 have hn : ∀ y q, 0 ≤ costN r lv fx tz at_ y q := fun y q => by
  unfold costN
  exact fold_nn (p := fun n : Int => 0 ≤ n) (fun n k hn => by
   split
   ·have := (costC_bound r lv fx tz k y).1
    omega
   ·exact hn) _ _ (by omega)
 unfold costM
 refine fold_nn (p := fun n => 0 ≤ n ∧ n ≤ 1099511627776) (fun m y hm => ?_) _ _ (by unfold neverC; omega)
 unfold costS
 have := hn y r.length
 split
 ·exact hm
 ·omega
theorem costN_bound {r : List RvR} (hg : RGood r) (lv fx : List Int) (tz : Nat) {at_ : Nat} (ha : at_ < r.length) {y : Int} (h0 : 0 ≤ y + dropR r at_ tz) (h1 : y + dropR r at_ tz ≤ 9000) : ∀ q : Nat, 0 ≤ costN r lv fx tz at_ y q ∧ costN r lv fx tz at_ y q ≤ 9000 + q * 1099511627776
 | 0 => by
  have := hg.hgt at_ ha
  unfold costN
  simp only [List.range_zero, List.foldl_nil]
  omega
 | q + 1 => by
  have := costN_bound hg lv fx tz ha h0 h1 q
  have := costC_bound r lv fx tz q y
  rw [costN_succ]
  split <;> omega
theorem ask_is {r : List RvR} (hg : RGood r) (lv fx : List Int) {tz : Nat} (hm : rvD r tz = -1) : askR r lv fx tz = costC r lv fx tz tz (-9000) := by
 unfold askR costC
 rw [show ((tz : Int)).toNat = tz from rfl, depth_mouth hg hm]
 rfl
end Go.Proofs.YthnimhnlnddnoaaGreatDoor
namespace Go.Proofs.YthnimhnlnddnoaaGreatDoor
open Go.RowKit Go.Shelf
theorem Own.putInt {base : Nat} {w : World} {A : Option Addr} {n c : Nat} {xs : List Int} (h : Own base 3 w (.slice A n c) xs) {i : Nat} (hi : i < xs.length) :
  ∃ g, A = some ⟨g, 0, none⟩ ∧ base ≤ g ∧ g < w.heap.size ∧ w.cell? ⟨g, i, none⟩ = some (.int .i64 (xs.getD i 0)) ∧ w.frozen? ⟨g, i, none⟩ = false ∧ (∀ y : Int, Own base 3 (w.setCell ⟨g, i, none⟩ (.int .i64 y)) (.slice A n c) (xs.set i y)) := by
 rcases h with ⟨hl, ⟨h1, h0⟩ | ⟨g, cap, cur, h1, hb, hh, hn, hc, hsz, hx⟩⟩
 ·exfalso
  have := List.eq_nil_of_length_eq_zero h0
  subst this
  simp at hi
 ·injection h1 with h1 h2 h3
  subst h1 h3
  have hf := flat_ints xs
  have hcell : cur[i]? = some (.int .i64 (xs.getD i 0)) := by
   have e : (cur.toList.take (xs.length * 1))[i]? = (xs.flatMap (Enc.enc (α := Int)))[i]? := by rw [hx]
   rw [hf, List.getElem?_take, if_pos (by omega), Array.getElem?_toList] at e
   rw [e]
   simp [List.getElem?_eq_getElem hi]
  refine ⟨g, rfl, hb, lt_of_block hh, cellOf hh i hcell, by simp [World.frozen?, hh], fun y => ?_⟩
  refine ⟨by rw [flat_ints, List.length_map, List.length_set]; rw [hf, List.length_map] at hl; exact hl, .inr ⟨g, c, cur.setIfInBounds i (.int .i64 y), by rw [h2, List.length_set], hb, heap_setCell_row hh _, by rw [List.length_set]; exact hn, hc, by rw [Array.size_setIfInBounds]; exact hsz, ?_⟩⟩
  rw [List.length_set, Array.toList_setIfInBounds, flat_ints, List.map_set, ← hf, ← hx, List.take_set]
def T3 (a i j k : Nat) (x y z : List Int) (w : World) : Prop :=
 ∃ vx vy vz, w.heap[a + i]? = some (.cells #[vx] 30) ∧ w.heap[a + j]? = some (.cells #[vy] 30) ∧ w.heap[a + k]? = some (.cells #[vz] 30) ∧
  Own (a + 6) 3 w vx x ∧ Own (a + 6) 3 w vy y ∧ Own (a + 6) 3 w vz z ∧ (∀ g, vx.ownBlock = some g → vy.ownBlock ≠ some g) ∧ (∀ g, vx.ownBlock = some g → vz.ownBlock ≠ some g) ∧ (∀ g, vy.ownBlock = some g → vz.ownBlock ≠ some g)
theorem T3.rot {a i j k : Nat} {x y z : List Int} {w : World} (h : T3 a i j k x y z w) : T3 a j k i y z x w := by
 obtain ⟨vx, vy, vz, h1, h2, h3, o1, o2, o3, s1, s2, s3⟩ := h
 exact ⟨vy, vz, vx, h2, h3, h1, o2, o3, o1, s3, fun g hy hx => s1 g hx hy, fun g hz hx => s2 g hx hz⟩
theorem T3.below {a i j k : Nat} {x y z : List Int} {w w' : World} (h : T3 a i j k x y z w) (hb : Below w.heap.size w w') : T3 a i j k x y z w' := by
 obtain ⟨vx, vy, vz, h1, h2, h3, o1, o2, o3, s1, s2, s3⟩ := h
 exact ⟨vx, vy, vz, (hb.block _ (lt_of_block h1)).trans h1, (hb.block _ (lt_of_block h2)).trans h2, (hb.block _ (lt_of_block h3)).trans h3, o1.below hb, o2.below hb, o3.below hb, s1, s2, s3⟩
def PO (a : Nat) (w : World) (g : Nat) : Prop := ∃ i v, (i = 1 ∨ i = 3 ∨ i = 4) ∧ w.heap[a + i]? = some (.cells #[v] 30) ∧ v.ownBlock = some g
structure PF (a : Nat) (w w' : World) : Prop where
 os : w'.os = w.os
 tape : w'.tape = w.tape
 output : w'.output = w.output
 size : w.heap.size ≤ w'.heap.size
 low : ∀ k, k < a + 6 → k ≠ a + 1 → k ≠ a + 2 → k ≠ a + 3 → k ≠ a + 4 → w'.heap[k]? = w.heap[k]?
 hi : ∀ k, a + 6 ≤ k → k < w.heap.size → ¬ PO a w k → w'.heap[k]? = w.heap[k]?
 ow : ∀ k, PO a w' k → PO a w k ∨ w.heap.size ≤ k
theorem PF.trans {a : Nat} {x y z : World} (h : PF a x y) (k : PF a y z) : PF a x z :=
 ⟨k.os.trans h.os, k.tape.trans h.tape, k.output.trans h.output, Nat.le_trans h.size k.size, fun i h1 h2 h3 h4 h5 => (k.low i h1 h2 h3 h4 h5).trans (h.low i h1 h2 h3 h4 h5),
  fun i h1 h2 h3 => (k.hi i h1 (by have := h.size; omega) (fun hp => by rcases h.ow i hp with h4 | h4; exact h3 h4; omega)).trans (h.hi i h1 h2 h3),
  fun i hp => by
   rcases k.ow i hp with h4 | h4
   ·exact h.ow i h4
   ·exact .inr (Nat.le_trans h.size h4)⟩
theorem PF.of_below {a : Nat} {w w' : World} (h : Below w.heap.size w w') (ha : a + 6 ≤ w.heap.size) : PF a w w' :=
 ⟨h.os, h.tape, h.output, h.size, fun k hk _ _ _ _ => h.block k (by omega), fun k _ hk _ => h.block k hk, fun k ⟨i, v, hi, hv, ho⟩ => .inl ⟨i, v, hi, (h.block _ (by omega)).symm.trans hv, ho⟩⟩
theorem PF.below {a : Nat} {w w' : World} (h : PF a w w') : Below a w w' := ⟨h.os, h.tape, h.output, h.size, fun k hk => h.low k (by omega) (by omega) (by omega) (by omega) (by omega)⟩
theorem T3.upd {a i j k : Nat} {x y z : List Int} {w w6 : World} {vx v : Value} {x2 : List Int} (h : T3 a i j k x y z w) (hi : i = 1 ∨ i = 3 ∨ i = 4) (hj : j = 1 ∨ j = 3 ∨ j = 4) (hk : k = 1 ∨ k = 3 ∨ k = 4) (hij : i ≠ j ∧ i ≠ k ∧ j ≠ k) (hz : a + 6 ≤ w.heap.size) (hv : w.heap[a + i]? = some (.cells #[vx] 30))
  (hs : w6.os = w.os ∧ w6.tape = w.tape ∧ w6.output = w.output ∧ w.heap.size ≤ w6.heap.size) (h6 : w6.heap[a + i]? = some (.cells #[v] 30)) (hkeep : ∀ g, g < w.heap.size → g ≠ a + i → vx.ownBlock ≠ some g → w6.heap[g]? = w.heap[g]?)
  (ho : Own (a + 6) 3 w6 v x2) (hob : v.ownBlock = vx.ownBlock ∨ ∀ g, v.ownBlock = some g → w.heap.size ≤ g) : T3 a i j k x2 y z w6 ∧ PF a w w6 := by
 obtain ⟨vx', vy, vz, h1, h2, h3, o1, o2, o3, s1, s2, s3⟩ := h
 have e : vx' = vx := by rw [h1] at hv; simpa using hv
 subst e
 have low : ∀ g, g < a + 6 → vx'.ownBlock ≠ some g := fun g hg h => by have := (o1.owner h).1; omega
 have k2 := (hkeep (a + j) (lt_of_block h2) (by omega) (low _ (by omega))).trans h2
 have k3 := (hkeep (a + k) (lt_of_block h3) (by omega) (low _ (by omega))).trans h3
 have sy : ∀ g, vy.ownBlock = some g → w6.heap[g]? = w.heap[g]? := fun g hg => by
  obtain ⟨hge, cu, hcu⟩ := o2.owner hg
  exact hkeep g (lt_of_block hcu) (by omega) (fun h => s1 g h hg)
 have sz : ∀ g, vz.ownBlock = some g → w6.heap[g]? = w.heap[g]? := fun g hg => by
  obtain ⟨hge, cu, hcu⟩ := o3.owner hg
  exact hkeep g (lt_of_block hcu) (by omega) (fun h => s2 g h hg)
 refine ⟨⟨v, vy, vz, h6, k2, k3, ho, o2.keep sy, o3.keep sz, fun g hg hg2 => ?_, fun g hg hg2 => ?_, s3⟩, hs.1, hs.2.1, hs.2.2.1, hs.2.2.2, fun g hg n1 n2 n3 n4 => ?_, fun g hg hg2 hn => ?_, fun g hp => ?_⟩
 ·rcases hob with e | e
  ·exact s1 g (e ▸ hg) hg2
  ·obtain ⟨_, cu, hcu⟩ := o2.owner hg2
   have := lt_of_block hcu
   have := e g hg
   omega
 ·rcases hob with e | e
  ·exact s2 g (e ▸ hg) hg2
  ·obtain ⟨_, cu, hcu⟩ := o3.owner hg2
   have := lt_of_block hcu
   have := e g hg
   omega
 ·exact hkeep g (by omega) (by rcases hi with rfl | rfl | rfl <;> omega) (low g hg)
 ·exact hkeep g hg2 (by omega) (fun h => hn ⟨i, vx', hi, h1, h⟩)
 ·obtain ⟨q, u, hq, hu, hou⟩ := hp
  have hu0 : q = i ∨ q = j ∨ q = k := by omega
  rcases hu0 with rfl | rfl | rfl
  ·have : u = v := by rw [h6] at hu; simpa using hu.symm
   subst this
   rcases hob with e | e
   ·exact .inl ⟨q, vx', hi, h1, e ▸ hou⟩
   ·exact .inr (e g hou)
  ·have : u = vy := by rw [k2] at hu; simpa using hu.symm
   subst this
   exact .inl ⟨q, u, hj, h2, hou⟩
  ·have : u = vz := by rw [k3] at hu; simpa using hu.symm
   subst this
   exact .inl ⟨q, u, hk, h3, hou⟩
end Go.Proofs.YthnimhnlnddnoaaGreatDoor
namespace Go.Proofs.YthnimhnlnddnoaaGreatDoor
open Go.RowKit Go.Shelf
theorem pconf_any {w : World} {a b ib : Nat} {v : Value} {r : List RvR} {i k : Nat} (cx : w.cell? ⟨a, 0, none⟩ = some (.pointer (some ⟨b, 0, none⟩))) (ci : w.cell? ⟨ib, 0, none⟩ = some (.int .i64 i)) (hL : LkN r b v w) (hg : RGood r) (hi : i < r.length) (hk : k < r.length) :
  Calls Tryz.prog 77 #[.int .i64 k, .pointer (some ⟨a, 0, none⟩), .pointer (some ⟨ib, 0, none⟩)] w fun e w' => e = .returned (.bool (!conflR r i k)) ∧ Qt w w' := by
 have HC := Lib.hid (rconfl_any hL hg hi hk)
 clear hL hg
 generalize conflR r i k = cb at *
 go_enter Tryz.func77, Tryz.ntmps77
 go_wp2_with (go_at_call 78; refine HC.out.mono ?_; rintro e w1 ⟨rfl, hq⟩)
 go_ret
 exact ⟨rfl, hq⟩
theorem any_find {l : List Int} {p : Nat → Bool} {k : Nat} (hk : k < l.length) (h : p (l.getD k 0).toNat = true) : (l.any fun x => p x.toNat) = true := by
 rw [List.any_eq_true]
 refine ⟨l.getD k 0, ?_, h⟩
 rw [List.getD_eq_getElem?_getD, List.getElem?_eq_getElem hk]
 exact List.getElem_mem hk
theorem any_none {l : List Int} {p : Nat → Bool} (h : ∀ k, k < l.length → p (l.getD k 0).toNat = false) : (l.any fun x => p x.toNat) = false := by
 rw [List.any_eq_false]
 intro x hx
 obtain ⟨k, hk, rfl⟩ := List.getElem_of_mem hx
 have := h k hk
 rw [List.getD_eq_getElem?_getD, List.getElem?_eq_getElem hk] at this
 simpa using this
theorem pidx_any {w : World} {B a b ib : Nat} {v u : Value} {r : List RvR} {l : List Int} {i : Nat} (hv : Rd IntAt 1 B w u l) (hl : ∀ k, k < l.length → ∃ n : Nat, l.getD k 0 = n ∧ n < r.length)
  (cx : w.cell? ⟨a, 0, none⟩ = some (.pointer (some ⟨b, 0, none⟩))) (ci : w.cell? ⟨ib, 0, none⟩ = some (.int .i64 i)) (hL : LkN r b v w) (hg : RGood r) (hi : i < r.length) :
  Calls Tryz.prog 113 #[u, .func (.func 77) #[] #[.pointer (some ⟨a, 0, none⟩), .pointer (some ⟨ib, 0, none⟩)]] w fun e w' => ∃ q : Int, e = .returned (.int .i64 q) ∧ decide (0 ≤ q) = (l.any fun x => !conflR r i x.toNat) ∧ Qt w w' := by
 obtain ⟨A, cap, rfl, h1, h2, _⟩ := id hv
 have HV := Lib.hid hv
 have HC := Lib.hid (fun (X : World) (hq : Qt w X) (k : Nat) (hk : k < r.length) => pconf_any (w := X) (hq.cell cx) (hq.cell ci) (hL.qt hq) hg hi hk)
 have HN := Lib.hid hl
 have HF := Lib.hid (fun k (hk : k < l.length) h => any_find (l := l) (p := fun n => !conflR r i n) hk h)
 have HO := Lib.hid (fun h => any_none (l := l) (p := fun n => !conflR r i n) h)
 clear hL hg cx ci hl hv
 go_enter Tryz.func113, Tryz.ntmps113
 go_wp2
 go_loopw [8] (fun j wr => ∃ k : Nat, k ≤ l.length ∧ j = .int .i64 k ∧ (∀ q, q < k → (!conflR r i (l.getD q 0).toNat) = false) ∧ Qt w wr) (fun j _ => l.length - (intOf j).toNat)
 case atStart => exact ⟨0, Nat.zero_le _, rfl, fun _ h => absurd h (by omega), Qt.refl _⟩
 case round =>
  obtain ⟨k, hk, rfl, hno, hq⟩ := hrel
  have Hno := Lib.hid hno
  have Hq := Lib.hid hq
  clear hno
  by_cases hlt : k < l.length
  ·obtain ⟨n, hn1, hn2⟩ := HN.out k hlt
   obtain ⟨ad, rfl, _, e1⟩ := (HV.out.qt hq).int hlt
   replace e1 : wr.cell? (ad.add k) = some (.int .i64 n) := by
    rw [← hn1, List.getD_eq_getElem?_getD]
    exact e1
   have HCn := Lib.hid (HC.out wr hq n hn2)
   have HFk := Lib.hid (HF.out k hlt)
   have Hk := Lib.hid (show (!conflR r i (l.getD k 0).toNat) = !conflR r i n by rw [hn1]; rfl)
   clear hq hn1
   cases hc : conflR r i n with
   | false =>
    rw [hc] at HCn
    have HR := Lib.hid (HFk.out (by have := Hk.out; rw [hc] at this; exact this))
    clear hc
    go_wp2_with (go_at_call 77; refine HCn.out.mono ?_; rintro e w1 ⟨rfl, hq1⟩)
    go_ret
    exact ⟨k, rfl, by rw [HR.out]; simp, Hq.out.trans hq1⟩
   | true =>
    rw [hc] at HCn
    have HR := Lib.hid (show (!conflR r i (l.getD k 0).toNat) = false by rw [Hk.out, hc]; rfl)
    clear hc
    go_wp2_with (go_at_call 77; refine HCn.out.mono ?_; rintro e w1 ⟨rfl, hq1⟩)
    go_roundw
    case rel => exact ⟨k + 1, by omega, by go_num, fun q hq => by
     by_cases e : q < k
     ·exact Hno.out q e
     ·obtain rfl : q = k := by omega
      exact HR.out, Hq.out.trans hq1⟩
    case measure => simp [intOf]; omega
  ·have HR := Lib.hid (HO.out fun k hk => Hno.out k (by omega))
   clear hq
   go_wp2
   go_ret
   exact ⟨-1, rfl, by rw [HR.out]; rfl, Hq.out⟩
theorem phas_any {w : World} {B a b ib : Nat} {v u : Value} {r : List RvR} {l : List Int} {i : Nat} (hv : Rd IntAt 1 B w u l) (hl : ∀ k, k < l.length → ∃ n : Nat, l.getD k 0 = n ∧ n < r.length)
  (cx : w.cell? ⟨a, 0, none⟩ = some (.pointer (some ⟨b, 0, none⟩))) (ci : w.cell? ⟨ib, 0, none⟩ = some (.int .i64 i)) (hL : LkN r b v w) (hg : RGood r) (hi : i < r.length) :
  Calls Tryz.prog 76 #[u, .func (.func 77) #[] #[.pointer (some ⟨a, 0, none⟩), .pointer (some ⟨ib, 0, none⟩)]] w fun e w' => e = .returned (.bool (l.any fun x => !conflR r i x.toNat)) ∧ Qt w w' := by
 have HI := Lib.hid (pidx_any hv hl cx ci hL hg hi)
 obtain ⟨A, cap, rfl, h1, h2, _⟩ := id hv
 clear hL hg cx ci hl hv
 go_enter Tryz.func76, Tryz.ntmps76
 go_wp2_with (go_at_call 113; refine HI.out.mono ?_; rintro e w1 ⟨q, rfl, hd, hq⟩; have HD := Lib.hid hd; clear hd)
 go_ret
 exact ⟨ret_bool (by rw [← HD.out]), hq⟩
end Go.Proofs.YthnimhnlnddnoaaGreatDoor
