/- Parts of the proof of TpP: TpL, TpG, TpC. -/
import Derived.Test.YthnimhnlnddnoaaGreatDoorH36
import Derived.Test.YthnimhnlnddnoaaGreatDoorH29
import Derived.Test.YthnimhnlnddnoaaGreatDoorH16
import Derived.Test.YthnimhnlnddnoaaGreatDoorH17
import Derived.Test.YthnimhnlnddnoaaGreatDoorH18
import Derived.Test.YthnimhnlnddnoaaGreatDoorH19
import Derived.Test.YthnimhnlnddnoaaGreatDoorH28
set_option linter.unusedSimpArgs false
set_option linter.unusedVariables false
set_option maxRecDepth 100000
set_option maxHeartbeats 8000000
namespace Go.Proofs.YthnimhnlnddnoaaGreatDoor
open Go.RowKit
structure L3 (base : Nat) (x y z : Value) (a b c : List Int) (w : World) : Prop where
 ox : Own base 3 w x a
 oy : Own base 3 w y b
 oz : Own base 3 w z c
 xy : ∀ g, x.ownBlock = some g → y.ownBlock ≠ some g
 xz : ∀ g, x.ownBlock = some g → z.ownBlock ≠ some g
 yz : ∀ g, y.ownBlock = some g → z.ownBlock ≠ some g
theorem L3.rot {base : Nat} {x y z : Value} {a b c : List Int} {w : World} (h : L3 base x y z a b c w) : L3 base y z x b c a w :=
 ⟨h.oy, h.oz, h.ox, h.yz, fun g hy hx => h.xy g hx hy, fun g hz hx => h.xz g hx hz⟩
theorem L3.below {base : Nat} {x y z : Value} {a b c : List Int} {w w' : World} (h : L3 base x y z a b c w) (hb : Below w.heap.size w w') : L3 base x y z a b c w' :=
 ⟨h.ox.below hb, h.oy.below hb, h.oz.below hb, h.xy, h.xz, h.yz⟩
theorem L3.put {base : Nat} {A : Option Addr} {n c0 : Nat} {y z : Value} {a b c : List Int} {w : World} (h : L3 base (.slice A n c0) y z a b c w) {i : Nat} (hi : i < a.length) :
  ∃ g, A = some ⟨g, 0, none⟩ ∧ base ≤ g ∧ w.cell? ⟨g, i, none⟩ = some (.int .i64 (a.getD i 0)) ∧ w.frozen? ⟨g, i, none⟩ = false ∧ ∀ q : Int, L3 base (.slice A n c0) y z (a.set i q) b c (w.setCell ⟨g, i, none⟩ (.int .i64 q)) := by
 obtain ⟨g, rfl, hg, _, h1, h2, h3⟩ := h.ox.putInt hi
 refine ⟨g, rfl, hg, h1, h2, fun q => ⟨h3 q, h.oy.keep fun g2 hg2 => Below.heap_setCell _ _ _ _ (by show g2 ≠ g; intro e; subst e; exact h.xy g2 rfl hg2), h.oz.keep fun g2 hg2 => Below.heap_setCell _ _ _ _ (by show g2 ≠ g; intro e; subst e; exact h.xz g2 rfl hg2), h.xy, h.xz, h.yz⟩⟩
end Go.Proofs.YthnimhnlnddnoaaGreatDoor
namespace Go.Proofs.YthnimhnlnddnoaaGreatDoor
open Go.RowKit
def apI (j : Nat) : Nat := if j = 0 then 7 else if j = 1 then 15 else 22
def curI (x : Nat → Value) (L : Nat → Bool) (vs : Nat → Value) (j : Nat) : Value := if L (apI j) = true then vs (apI j) else x j
def lstI (a : Nat → List Int) (p : Nat → Int) (L : Nat → Bool) (j : Nat) : List Int := if L (apI j) = true then a j ++ [p j] else a j
structure F3I (base : Nat) (W : World) (x : Nat → Value) (a : Nat → List Int) (p : Nat → Int) (val : Nat → Value) (L : Nat → Bool) (vs : Nat → Value) (X : World) : Prop where
 bel : Below base W X
 le : base ≤ X.heap.size
 own : ∀ j, j < 3 → Own base 3 X (curI x L vs j) (lstI a p L j)
 sep : ∀ i j, i < 3 → j < 3 → i ≠ j → ∀ g, (curI x L vs i).ownBlock = some g → (curI x L vs j).ownBlock ≠ some g
 lit : ∀ j, j < 3 → L (apI j - 1) = true → L (apI j) = false → ∃ g, vs (apI j - 1) = .slice (some ⟨g, 0, none⟩) 1 1 ∧ X.heap[g]? = some (.cells #[.int .i64 (p j)] 3) ∧ ∀ i, i < 3 → (curI x L vs i).ownBlock ≠ some g
 rd : ∀ k, (k < 23 ∧ ∀ j, j < 3 → k ≠ apI j ∧ k ≠ apI j - 1) → L k = true → vs k = val k
 asg : ∀ j, j < 3 → L (23 + j) = true → L (apI j) = true ∧ vs (23 + j) = vs (apI j)
theorem ap_lt {j : Nat} : apI j < 23 ∧ 7 ≤ apI j := by unfold apI; split <;> (try split) <;> omega
theorem ap_inj {i j : Nat} (hi : i < 3) (hj : j < 3) (h : apI i = apI j) : i = j := by
 match i, hi, j, hj with
 | 0, _, 0, _ | 1, _, 1, _ | 2, _, 2, _ => rfl
 | 0, _, 1, _ | 0, _, 2, _ | 1, _, 0, _ | 1, _, 2, _ | 2, _, 0, _ | 2, _, 1, _ => exact absurd h (by decide)
theorem ap_ne {i j : Nat} (hi : i < 3) (hj : j < 3) : apI i ≠ apI j - 1 := by
 match i, hi, j, hj with
 | 0, _, 0, _ | 1, _, 1, _ | 2, _, 2, _ => decide
 | 0, _, 1, _ | 0, _, 2, _ | 1, _, 0, _ | 1, _, 2, _ | 2, _, 0, _ | 2, _, 1, _ => decide
section
variable {base : Nat} {W X : World} {x : Nat → Value} {a : Nat → List Int} {p : Nat → Int} {val : Nat → Value} {L : Nat → Bool} {vs : Nat → Value}
theorem cur_other {i : Nat} {v : Value} {j : Nat} (h : apI j ≠ i) : curI x (updB L i) (updV vs i v) j = curI x L vs j := by
 unfold curI
 rw [updB_other _ h, updV_other _ _ h]
theorem lst_other {i : Nat} {j : Nat} (h : apI j ≠ i) : lstI a p (updB L i) j = lstI a p L j := by
 unfold lstI
 rw [updB_other _ h]
theorem F3I.start (hb : base ≤ W.heap.size) (h : ∀ j, j < 3 → Own base 3 W (x j) (a j)) (hs : ∀ i j, i < 3 → j < 3 → i ≠ j → ∀ g, (x i).ownBlock = some g → (x j).ownBlock ≠ some g) : F3I base W x a p val (fun _ => false) (fun _ => undef) W.drew :=
 ⟨(Below.refl _ _).drew, hb, fun j hj => (h j hj).below (Below.refl _ _).drew, hs, fun _ _ h => (by cases h), fun _ _ h => (by cases h), fun _ _ h => (by cases h)⟩
theorem F3I.read (h : F3I base W x a p val L vs X) {i : Nat} (hi : i < 23) (h1 : ∀ j, j < 3 → i ≠ apI j ∧ i ≠ apI j - 1) : F3I base W x a p val (updB L i) (updV vs i (val i)) X := by
 have hc : ∀ j, j < 3 → curI x (updB L i) (updV vs i (val i)) j = curI x L vs j := fun j hj => cur_other (Ne.symm (h1 j hj).1)
 refine ⟨h.bel, h.le, fun j hj => ?_, fun j k hj hk => ?_, fun j hj hl hn => ?_, rd_step h.rd (fun _ => rfl), fun j hj hl => ?_⟩
 ·rw [hc j hj, lst_other (Ne.symm (h1 j hj).1)]; exact h.own j hj
 ·rw [hc j hj, hc k hk]; exact h.sep j k hj hk
 ·rw [updB_other _ (Ne.symm (h1 j hj).2)] at hl
  rw [updB_other _ (Ne.symm (h1 j hj).1)] at hn
  rw [updV_other _ _ (Ne.symm (h1 j hj).2)]
  obtain ⟨g, e1, e2, e3⟩ := h.lit j hj hl hn
  exact ⟨g, e1, e2, fun k hk => by rw [hc k hk]; exact e3 k hk⟩
 ·rw [updB_other _ (by omega)] at hl
  rw [updB_other _ (Ne.symm (h1 j hj).1), updV_other _ _ (by omega), updV_other _ _ (Ne.symm (h1 j hj).1)]
  exact h.asg j hj hl
theorem cur_block (h : F3I base W x a p val L vs X) {j : Nat} (hj : j < 3) {g : Nat} (hg : (curI x L vs j).ownBlock = some g) : g < X.heap.size := own_block_lt (h.own j hj) hg
theorem F3I.build (h : F3I base W x a p val L vs X) {j : Nat} (hj : j < 3) (hn : L (apI j) = false) :
  F3I base W x a p val (updB L (apI j - 1)) (updV vs (apI j - 1) (.slice (some ⟨X.heap.size, 0, none⟩) 1 1)) (X.alloc (.cells #[.int .i64 (p j)] 3)) := by
 have hb : Below X.heap.size X (X.alloc (.cells #[.int .i64 (p j)] 3)) := (Below.refl _ _).alloc (Nat.le_refl _) _
 have hc : ∀ k, k < 3 → ∀ v, curI x (updB L (apI j - 1)) (updV vs (apI j - 1) v) k = curI x L vs k := fun k hk v => cur_other (ap_ne hk hj)
 have hap := @ap_lt j
 refine ⟨h.bel.trans (hb.mono h.le), Nat.le_trans h.le hb.size, fun k hk => ?_, fun i k hi hk => ?_, fun k hk hl hno => ?_, rd_step h.rd (fun hk => ?_), fun k hk hl => ?_⟩
 ·rw [hc k hk, lst_other (ap_ne hk hj)]; exact (h.own k hk).below hb
 ·rw [hc i hi, hc k hk]; exact h.sep i k hi hk
 ·by_cases e : k = j
  ·subst e
   rw [updV_self]
   refine ⟨_, rfl, heap_alloc_new X _, fun i hi hg => ?_⟩
   rw [hc i hi] at hg
   have := cur_block h hi hg
   omega
  ·have hne : apI k - 1 ≠ apI j - 1 := fun e2 => e (ap_inj hk hj (by have := @ap_lt k; omega))
   rw [updB_other _ hne] at hl
   rw [updB_other _ (ap_ne hk hj)] at hno
   rw [updV_other _ _ hne]
   obtain ⟨g, e1, e2, e3⟩ := h.lit k hk hl hno
   exact ⟨g, e1, (hb.block g (lt_of_block e2)).trans e2, fun i hi => by rw [hc i hi]; exact e3 i hi⟩
 ·exact absurd rfl (hk.2 j hj).2
 ·rw [updB_other _ (by omega)] at hl
  rw [updB_other _ (ap_ne hk hj), updV_other _ _ (by omega), updV_other _ _ (ap_ne hk hj)]
  exact h.asg k hk hl
theorem cur_yet {j : Nat} (hn : L (apI j) = false) : curI x L vs j = x j := by unfold curI; rw [hn]; rfl
theorem lst_yet {j : Nat} (hn : L (apI j) = false) : lstI a p L j = a j := by unfold lstI; rw [hn]; rfl
theorem cur_self (j : Nat) (v : Value) : curI x (updB L (apI j)) (updV vs (apI j) v) j = v := by unfold curI; rw [updB_self, updV_self]; rfl
theorem F3I.app (h : F3I base W x a p val L vs X) {j : Nat} (hj : j < 3) (hn : L (apI j) = false) (hb1 : L (apI j - 1) = true) (hlen : (a j).length ≤ 100000) :
  ∃ g v' X', vs (apI j - 1) = .slice (some ⟨g, 0, none⟩) 1 1 ∧ (Builtin.append_ #[30, 30] 30 #[x j, .slice (some ⟨g, 0, none⟩) 1 1]).run Tryz.prog X = .ok v' X' ∧ F3I base W x a p val (updB L (apI j)) (updV vs (apI j) v') X' := by
 obtain ⟨g, e1, e2, e3⟩ := h.lit j hj hb1 hn
 have ho := h.own j hj
 rw [cur_yet hn, lst_yet hn] at ho
 have hr : Rd IntAt 1 X.heap.size X (.slice (some ⟨g, 0, none⟩) [p j].length 1) [p j] := (own_lit (b := g) (e := 3) [p j] (by simp) (by simpa [Enc.enc] using e2)).rd
 obtain ⟨v', X', hrun, hown, hgr, hv⟩ := append_ints2 (m := 1) rfl ho hr (by simp; omega) h.le
 refine ⟨g, v', X', e1, hrun, ?_⟩
 have hap := @ap_lt j
 have hbx : Below base X X' := (ho.grown hgr).resolve_right (by have := h.le; omega)
 have hc : ∀ k, k < 3 → k ≠ j → curI x (updB L (apI j)) (updV vs (apI j) v') k = curI x L vs k := fun k hk hkj => cur_other fun e => hkj (ap_inj hk hj e)
 have hx : ∀ k, k < 3 → k ≠ j → ∀ g, (curI x L vs k).ownBlock = some g → (x j).ownBlock ≠ some g := fun k hk hkj g hg e => by
  have := h.sep k j hk hj hkj g hg
  rw [cur_yet hn] at this
  exact this e
 have hvk : ∀ k, k < 3 → k ≠ j → ∀ g, (curI x L vs k).ownBlock = some g → v'.ownBlock ≠ some g := fun k hk hkj g hg => by
  rcases hv with e | e
  ·rw [e]; exact hx k hk hkj g hg
  ·rw [e]
   intro e2
   have := cur_block h hk hg
   injection e2 with e2
   omega
 refine ⟨h.bel.trans hbx, Nat.le_trans h.le hgr.size, fun k hk => ?_, fun i k hi hk hik g hg => ?_, fun k hk hl hno => ?_, rd_step h.rd (fun hk => ?_), fun k hk hl => ?_⟩
 ·by_cases e : k = j
  ·subst e
   rw [cur_self]
   unfold lstI
   rw [updB_self]
   exact hown
  ·rw [hc k hk e, lst_other fun e2 => e (ap_inj hk hj e2)]
   exact (h.own k hk).keep fun g hg => by
    obtain ⟨_, cu, hcu⟩ := (h.own k hk).owner hg
    exact hgr.block g (lt_of_block hcu) fun e2 => hx k hk e g hg e2.symm
 ·by_cases ei : i = j
  ·subst ei
   rw [cur_self] at hg
   rw [hc k hk (Ne.symm hik)]
   exact fun e => hvk k hk (Ne.symm hik) g e hg
  ·rw [hc i hi ei] at hg
   by_cases ek : k = j
   ·subst ek
    rw [cur_self]
    exact hvk i hi ei g hg
   ·rw [hc k hk ek]
    exact h.sep i k hi hk hik g hg
 ·by_cases e : k = j
  ·subst e
   rw [updB_self] at hno
   cases hno
  ·have hne : apI k ≠ apI j := fun e2 => e (ap_inj hk hj e2)
   rw [updB_other _ (Ne.symm (ap_ne hj hk))] at hl
   rw [updB_other _ hne] at hno
   rw [updV_other _ _ (Ne.symm (ap_ne hj hk))]
   obtain ⟨q, q1, q2, q3⟩ := h.lit k hk hl hno
   refine ⟨q, q1, (hgr.block q (lt_of_block q2) fun e => ?_).trans q2, fun i hi => ?_⟩
   ·have := q3 j hj
    rw [cur_yet hn] at this
    exact this e.symm
   ·by_cases ei : i = j
    ·subst ei
     rw [cur_self]
     rcases hv with e | e
     ·rw [e]
      have := q3 i hi
      rwa [cur_yet hn] at this
     ·rw [e]
      intro e2
      have := lt_of_block q2
      injection e2 with e2
      omega
    ·rw [hc i hi ei]
     exact q3 i hi
 ·exact absurd rfl (hk.2 j hj).1
 ·have hl0 : L (23 + k) = true := by rwa [updB_other _ (by omega)] at hl
  obtain ⟨h1, h2⟩ := h.asg k hk hl0
  by_cases e : apI k = apI j
  ·rw [e, hn] at h1
   cases h1
  ·rw [updB_other _ e, updV_other _ _ (by omega), updV_other _ _ e]
   exact ⟨h1, h2⟩
theorem F3I.assign (h : F3I base W x a p val L vs X) {j : Nat} (hj : j < 3) (hn : L (apI j) = true) : F3I base W x a p val (updB L (23 + j)) (updV vs (23 + j) (vs (apI j))) X := by
 have ne : ∀ k, apI k ≠ 23 + j ∧ apI k - 1 ≠ 23 + j := fun k => by have := @ap_lt k; omega
 have hc : ∀ k, k < 3 → curI x (updB L (23 + j)) (updV vs (23 + j) (vs (apI j))) k = curI x L vs k := fun k _ => cur_other (ne k).1
 refine ⟨h.bel, h.le, fun k hk => ?_, fun i k hi hk => ?_, fun k hk hl hno => ?_, rd_step h.rd (fun hk => ?_), fun k hk hl => ?_⟩
 ·rw [hc k hk, lst_other (ne k).1]; exact h.own k hk
 ·rw [hc i hi, hc k hk]; exact h.sep i k hi hk
 ·rw [updB_other _ (ne k).2] at hl
  rw [updB_other _ (ne k).1] at hno
  rw [updV_other _ _ (ne k).2]
  obtain ⟨g, e1, e2, e3⟩ := h.lit k hk hl hno
  exact ⟨g, e1, e2, fun i hi => by rw [hc i hi]; exact e3 i hi⟩
 ·have := hk.1; omega
 ·by_cases e : k = j
  ·subst e
   rw [updV_self, updV_other _ _ (ne k).1, updB_other _ (ne k).1]
   exact ⟨hn, rfl⟩
  ·rw [updB_other _ (by omega)] at hl
   rw [updV_other _ _ (by omega), updV_other _ _ (ne k).1, updB_other _ (ne k).1]
   exact h.asg k hk hl
end
end Go.Proofs.YthnimhnlnddnoaaGreatDoor
namespace Go.Proofs.YthnimhnlnddnoaaGreatDoor
open Go.RowKit
theorem bad_runs_any {X : World} {v : Value} {r : List RvR} {l : List Int} (hg : RGood r) (hR : Runs r l) (hr : Rd RvAt 4 X.heap.size X v (highR r l)) :
  Calls Tryz.prog 11 #[v] X fun e w' => ∃ A c, e = .returned (.tuple #[.slice A 0 c, .int .i64 0]) ∧ Below X.heap.size X w' := by
 refine (rbad_any hr (highR_good hg hR.lim) (Nat.le_refl _)).mono ?_
 rw [bad_runs (highR_runs hg hR.run)]
 rintro e w' ⟨A, c, rfl, _, hb⟩
 exact ⟨A, c, rfl, hb⟩
theorem fill_runs_any {X : World} {v : Value} {r : List RvR} {l : List Int} {base : Nat} (hbase : base ≤ X.heap.size) (hg : RGood r) (hR : Runs r l) (hr : Rd RvAt 4 X.heap.size X v (highR r l)) :
  Calls Tryz.prog 13 #[v] X fun e w' => ∃ A c, e = .returned (.tuple #[.slice A r.length c, .int .i64 0]) ∧ Own base 3 w' (.slice A r.length c) l ∧ Below X.heap.size X w' := by
 have hg2 := highR_good hg hR.lim
 have hr2 := highR_runs hg hR.run
 refine (rfill_any hr hg2 (runs_fill hg2 hr2) (Nat.le_refl _)).mono ?_
 rw [fillL_runs hg2 hr2, highR_map hR.len]
 rintro e w' ⟨A, c, rfl, ho, hb⟩
 rw [hR.len] at ho ⊢
 exact ⟨A, c, rfl, ho.mono hbase, hb⟩
theorem carveL_list {r : List RvR} (hg : RGood r) (hy : RunsD r (rvH r)) : carveL r = r.map (·.hgt) := by
 have hl : (carveL r).length = r.length := carveK_len r r.length
 refine List.ext_getElem (by rw [hl, List.length_map]) fun i h1 h2 => ?_
 have hi : i < r.length := by omega
 have := carveL_runs hg hy hi
 unfold rvH at this
 rw [List.getD_eq_getElem?_getD, List.getD_eq_getElem?_getD, List.getElem?_eq_getElem h1, List.getElem?_eq_getElem hi] at this
 rw [List.getElem_map]
 exact this
theorem carve_runs_any {X : World} {v : Value} {r : List RvR} {l : List Int} {base : Nat} (hbase : base ≤ X.heap.size) (hg : RGood r) (hR : Runs r l) (hr : Rd RvAt 4 X.heap.size X v (highR r l)) :
  Calls Tryz.prog 14 #[v] X fun e w' => ∃ A c, e = .returned (.tuple #[.slice A r.length c, .int .i64 0]) ∧ Own base 3 w' (.slice A r.length c) l ∧ Below X.heap.size X w' := by
 have hg2 := highR_good hg hR.lim
 have hr2 := highR_runs hg hR.run
 refine (rcarve_any hr hg2 (runs_carveOK hg2 hr2) (Nat.le_refl _)).mono ?_
 rw [carveL_list hg2 hr2, highR_map hR.len]
 rintro e w' ⟨A, c, rfl, ho, hb⟩
 rw [hR.len] at ho ⊢
 exact ⟨A, c, rfl, ho.mono hbase, hb⟩
theorem few_cut_any {X : World} {v : Value} {r : List RvR} {l h : List Int} {bits : Nat} (hg : RGood r) (hR : Runs r h) (hl : ∀ i, i < r.length → 0 ≤ l.getD i 0 ∧ l.getD i 0 ≤ 9000) (hs : ∀ i, i < r.length → bits.testBit i = false → l.getD i 0 = h.getD i 0)
  (hr : Rd RvAt 4 X.heap.size X v (highR r l)) (hd : DbT X) :
  Calls Tryz.prog 15 #[v] X fun e w' => ∃ A c m, m ≤ manyK bits r.length ∧ e = .returned (.tuple #[.slice A m c, .int .i64 0]) ∧ Below X.heap.size X w' := by
 have hg2 := highR_good hg hl
 refine (rfewest_any hr hg2 (Nat.le_refl _) hd).mono ?_
 rintro e w' ⟨A, c, rfl, _, hb⟩
 have hm := few_many hg2 (y := fun i => h.getD i 0) (fun i hi hdn => by
  rw [highR_len] at hi
  rw [highR_D] at hdn ⊢
  rw [highR_L]
  exact hR.run i hi hdn) (fun i hi => by rw [highR_len] at hi; exact hR.lim i hi) bits (fun i hi hb => by
  rw [highR_len] at hi
  rw [highR_H l hi]
  exact hs i hi hb)
 rw [highR_len] at hm
 exact ⟨A, c, _, hm, rfl, hb⟩
theorem ints_same {B B' : Nat} {w : World} {v v' : Value} {xs : List Int} (hx : Rd IntAt 1 B w v xs) (hy : Rd IntAt 1 B' w v' xs) (hn : xs.length ≤ 1000000) :
  Calls Tryz.prog 16 #[v, v'] w fun e w' => e = .returned (.bool true) ∧ Qt w w' := by
 have h := ints_any hx hy hn
 rw [decide_eq_true rfl] at h
 exact h
end Go.Proofs.YthnimhnlnddnoaaGreatDoor
