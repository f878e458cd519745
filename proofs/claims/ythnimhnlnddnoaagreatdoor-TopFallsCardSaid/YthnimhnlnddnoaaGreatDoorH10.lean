/- Parts of the proof of TpP: RvI, RvM, RvX, RTl. -/
import Derived.Test.YthnimhnlnddnoaaGreatDoorH6
import Derived.Test.YthnimhnlnddnoaaGreatDoorH9
import Derived.Laws.EntriesVeiled
import Derived.WalkKit
import Derived.Deep.Quiet
import Derived.Shelf.Abstract
import Derived.Test.YthnimhnlnddnoaaGreatDoorH7
set_option linter.unusedSimpArgs false
set_option linter.unusedVariables false
set_option maxRecDepth 100000
set_option maxHeartbeats 8000000
namespace Go.Proofs.YthnimhnlnddnoaaGreatDoor
open Go.RowKit Go.Shelf
attribute [local go_sem] Oper.semAt_some
structure BwS (bi : Nat) (A B : World) : Prop where
 os : B.os = A.os
 tape : B.tape = A.tape
 output : B.output = A.output
 size : A.heap.size = B.heap.size
 c0 : ∃ v, A.heap[bi]? = some (.cells #[v] 3)
 c1 : ∃ v, B.heap[bi]? = some (.cells #[v] 3)
 rest : ∀ k, k ≠ bi → B.heap[k]? = A.heap[k]?
def BwK (bi : Nat) (A B : World) : Prop := ∀ v, A.heap[bi]? = some (.cells #[v] 3) → B.heap[bi]? = some (.cells #[v] 3)
structure BwN (r : List RvR) (B bp : Nat) (sl : Value) (W : World) : Prop where
 cp : W.cell? ⟨bp, 0, none⟩ = some sl
 pts : Rd RvAt 4 B W sl r
def belEl (r : List RvR) (i k : Nat) : Array Value := match (belL r i)[k]? with | some p => #[.int .i64 p.1, .int .i64 p.2] | none => #[.int .i64 0, .int .i64 0]
theorem belEl_size (r : List RvR) (i k : Nat) : (belEl r i k).size = 2 := by unfold belEl; split <;> rfl
def BelI (r : List RvR) (i k : Nat) (x y : Int) : Prop := (∃ p : Nat × Int, (belL r i)[k]? = some p ∧ x = p.1 ∧ y = p.2) ∨ (k = (belL r i).length ∧ x = -1)
def muB (r : List RvR) (bi : Nat) (w : World) : Nat := match w.cell? ⟨bi, 0, none⟩ with | some (.int _ x) => if x = -1 then 0 else depth r x.toNat + 1 | _ => 0
theorem BwS.set_ {bi : Nat} {A : World} {v : Value} (h : A.heap[bi]? = some (.cells #[v] 3)) (u : Value) : BwS bi A (A.setCell ⟨bi, 0, none⟩ u) :=
 ⟨rfl, rfl, rfl, by simp [World.setCell], ⟨_, h⟩, ⟨_, heap_setCell_row h u⟩, fun k hk => Below.heap_setCell _ _ _ _ hk⟩
theorem mu_lt {r : List RvR} (hg : RGood r) {pa bi : Nat} (hp : pa < r.length) {w w' : World} {d : Int} (h : w.heap[bi]? = some (.cells #[.int .i64 pa] 3)) (h' : w'.heap[bi]? = some (.cells #[.int .i64 d] 3)) (hd : rvD r pa = d) : muB r bi w' < muB r bi w := by
 unfold muB
 rw [cellOf h 0 (v := .int .i64 pa) rfl, cellOf h' 0 (v := .int .i64 d) rfl]
 simp only
 rw [if_neg (by omega : ¬ (pa : Int) = -1), Int.toNat_natCast]
 split
 ·omega
 ·rename_i hn
  rw [← hd] at hn ⊢
  have := depth_down hg hp hn
  omega
theorem below_iter {r : List RvR} (hg : RGood r) {i : Nat} (hi : i < r.length) {B bi bp c : Nat} {A : Option Addr} :
  IterG Tryz.prog 86 #[.pointer (some ⟨bi, 0, none⟩), .pointer (some ⟨bp, 0, none⟩)] (belL r i).length (belEl r i) (fun _ => BwK bi) (fun _ => BwS bi) (BwN r B bp (.slice A r.length c)) (fun W => W.heap[bi]? = some (.cells #[.int .i64 i] 3)) := by
 intro L Y Z W hS hN hR h00 h0
 refine callsIn_wide.2 ?_
 show Calls Tryz.prog 86 #[.func (.yield L) #[] #[], .pointer (some ⟨bi, 0, none⟩), .pointer (some ⟨bp, 0, none⟩)] W _
 have hl9 := hg.len
 have HI : Hid (BelI r i 0 i 0) := Lib.hid (.inl ⟨_, bel_first r i, rfl, rfl⟩)
 have HS := Lib.hid hS
 have HN := Lib.hid hN
 have HR := Lib.hid hR
 have H00 := Lib.hid h00
 have H0 := Lib.hid h0
 have HD := Lib.hid (fun k p (h : (belL r i)[k]? = some p) => belL_at hg hi h)
 have HG := Lib.hid hg
 obtain ⟨D, hD⟩ : ∃ D, D = (belL r i).length := ⟨_, rfl⟩
 rw [← hD] at HR ⊢
 have hDE := Lib.hid hD
 clear hS hN hR h00 h0 hg hD
 go_enter Tryz.func86, Tryz.ntmps86
 go_wp2
 go_loopw [4] (fun d wr => ∃ (k : Nat) (x y : Int), k ≤ D ∧ d = .int .i64 y ∧ wr.heap[bi]? = some (.cells #[.int .i64 x] 3) ∧ Y k wr ∧ BelI r i k x y) (fun _ wr => muB r bi wr)
 case atStart => exact ⟨0, i, 0, Nat.zero_le _, rfl, H00.out, H0.out, HI.out⟩
 case round =>
  clear HI H00 H0
  obtain ⟨k, x, y, hk, rfl, hc, hY, hB⟩ := hrel
  rcases hB with ⟨⟨pa, pd⟩, hp, hx, hy⟩ | ⟨hkD, rfl⟩
  ·have hx : x = (pa : Int) := hx
   have hy : y = pd := hy
   subst hx hy
   obtain ⟨q1, q2, q3, q4, q5⟩ := HD.out k _ hp
   simp only at q1 q2 q3 q4 q5
   have hkd : k < D := by rw [hDE.out]; exact (List.getElem?_eq_some_iff.1 hp).1
   have cI := cellOf hc 0 (v := .int .i64 pa) rfl
   have hne : ((pa : Int) != -1) = true := by simp
   obtain ⟨fn, tmps, assign, body, hy, hRR⟩ := HR.out k wr hkd hY
   rw [show belEl r i k = #[.int .i64 pa, .int .i64 y] by unfold belEl; rw [hp]] at hy
   have HRR := Lib.hid hRR
   have HC := Lib.hid hc
   have Q4 := Lib.hid q4
   have Q5 := Lib.hid q5
   clear hRR hc hp q4 q5 hY
   go_upto_region 1 with (fail)
   refine (wpIn_wide (n := 0)).1 ?_
   clear hne
   gi_wp2
   refine ⟨rfl, HRR.out.mono ?_⟩
   rintro e W' (⟨rfl, hY', hK⟩ | ⟨rfl, hZ⟩)
   ·have hc' := hK _ HC.out
    have hn' := HN.out _ _ hY'
    obtain ⟨ad, e, _, f0, f1, f2, f3⟩ := hn'.pts.rv q1
    subst e
    have cI' := cellOf hc' 0 (v := .int .i64 pa) rfl
    have cP := hn'.cp
    have fz : W'.frozen? ⟨bi, 0, none⟩ = false := by simp [World.frozen?, hc']
    have hls := HG.out.least _ q1
    have hdn := HG.out.down _ q1
    have HY := Lib.hid hY'
    have HC' := Lib.hid hc'
    have ed : rvD r pa = (r.getD pa default).down := rfl
    have el : rvL r pa = (r.getD pa default).least := rfl
    rw [ed] at hdn Q4 Q5
    rw [el] at hls Q5
    have HE := Lib.hid ed
    generalize r.getD pa default = x at *
    clear hY' hK hn' hc' ed el cI hy
    gi_wp2
    go_wp2
    refine ⟨⟨k + 1, x.down, y + x.least, by omega, rfl, heap_setCell_row HC'.out _, HS.out _ _ _ HY.out (BwS.set_ HC'.out _), ?_⟩, mu_lt HG.out q1 HC.out (heap_setCell_row HC'.out _) HE.out⟩
    by_cases hd : x.down = -1
    ·exact .inr ⟨(Q4.out hd).symm, hd⟩
    ·exact .inl ⟨_, Q5.out hd, by simp only; omega, rfl⟩
   ·gi_wp2
    go_wp2
    go_end0
    exact ⟨⟨_, rfl⟩, .inr hZ⟩
  ·have hx := Lib.hid hkD
   have cI := cellOf hc 0 (v := .int .i64 (-1)) rfl
   rw [← hDE.out] at hkD
   subst hkD
   clear hc
   go_wp2
   go_end0
   exact ⟨⟨_, rfl⟩, .inl hY⟩
end Go.Proofs.YthnimhnlnddnoaaGreatDoor
namespace Go.Proofs.YthnimhnlnddnoaaGreatDoor
open Go.RowKit Go.Shelf
def Marks (B : Nat) : Nat → World → List Deferred → Prop
 | _, _, [] => True
 | U, w, d :: ds => ∃ n, d = { target := .collected n, args := #[] } ∧ B ≤ n ∧ n < U ∧ w.heap[n]? = some (.deferred (some [])) ∧ Marks B n w ds
theorem Marks.keep {B : Nat} {w w' : World} : ∀ {ds : List Deferred} {U : Nat}, Marks B U w ds → (∀ b o, b < U → w.heap[b]? = some o → isData o = false → w'.heap[b]? = some o) → Marks B U w' ds
 | [], _, _, _ => trivial
 | _ :: _, _, ⟨n, h1, h2, h3, h4, h5⟩, hk => ⟨n, h1, h2, h3, hk _ _ h3 h4 rfl, h5.keep fun b o hb ho hd => hk b o (by omega) ho hd⟩
theorem Marks.up {B : Nat} {w : World} : ∀ {ds : List Deferred} {U U' : Nat}, Marks B U w ds → U ≤ U' → Marks B U' w ds
 | [], _, _, _, _ => trivial
 | _ :: _, _, _, ⟨n, h1, h2, h3, h4, h5⟩, hU => ⟨n, h1, h2, by omega, h4, h5⟩
theorem Marks.nc {B U : Nat} {w w' : World} {ds : List Deferred} (h : Marks B U w ds) (hn : NC w w') : Marks B U w' ds := h.keep fun b o _ ho hd => hn b o ho hd
theorem Marks.cons {B U n : Nat} {w : World} {ds : List Deferred} (h1 : B ≤ n) (h2 : n < U) (h3 : w.heap[n]? = some (.deferred (some []))) (h : Marks B n w ds) : Marks B U w ({ target := .collected n, args := #[] } :: ds) := ⟨n, rfl, h1, h2, h3, h⟩
theorem leaves_marks {P : Program} {fn : Func} {R : Ending → World → Prop} {tmps : Array Value} {B : Nat} : ∀ (ds : List Deferred) (U : Nat) (w : World), Marks B U w ds →
  (∀ w', Book B w w' → ∃ v, (results fn tmps).run P w' = .ok v w' ∧ R (.returned v) w') → LeavesInM Fence.wide 0 P fn tmps R ds .returning w
 | [], _, w, _, h => by
  obtain ⟨v, h1, h2⟩ := h w (Book.refl _ _)
  exact ⟨v, h1, h2⟩
 | d :: ds, U, w, ⟨n, h1, h2, h3, h4, h5⟩, h => by
  subst h1
  refine ⟨by simp, .inl ⟨_, _, rfl, run_takeDeferred h4, ?_⟩⟩
  refine leaves_marks ds n _ (h5.keep fun b o hb ho hd => (World.putObj_heap_other (by omega)).trans ho) fun w' hb => ?_
  exact h w' (((Book.refl _ _).put h2 h4 rfl _).trans hb)
structure StayB (H : Nat) (A B : World) : Prop where
 below : Below H A B
 data : ∀ b o, b ≠ H + 1 → A.heap[b]? = some o → isData o = true → B.heap[b]? = some o
theorem StayB.low {H : Nat} {A B : World} (h : StayB H A B) : ∀ b, b < H → B.heap[b]? = A.heap[b]? := fun b hb => h.below.block b hb
theorem below_law {r : List RvR} (hg : RGood r) {i : Nat} (hi : i < r.length) {B c : Nat} {A : Option Addr} {w W0 : World} (hs : Rd RvAt 4 B w (.slice A r.length c) r) (hB : B ≤ w.heap.size)
  {g : Operand} {ps : Array Tmp} {assign body : Code} {Q : Exit → Act → World → Prop} {a : Act}
  (he : a.eval g = .func (.func 86) #[] #[.pointer (some ⟨w.heap.size + 1, 0, none⟩), .pointer (some ⟨w.heap.size, 0, none⟩)]) (hps : 2 = ps.size)
  (E : Nat → World → Prop) (X : Code → World → Prop) (hE : ∀ k A B, E k A → StayB w.heap.size A B → E k B) (hX : ∀ c A B, X c A → StayB w.heap.size A B → X c B)
  (hW0 : W0 = (w.alloc (.cells #[.slice A r.length c] 95)).alloc (.cells #[.int .i64 i] 3)) (h0 : E 0 W0)
  (hround : ∀ (l k : Nat) (p : Nat × Int) (W : World), (belL r i)[k]? = some p → Below B w W → E k W → w.heap.size + 2 < l → l < W.heap.size →
   assign.wpIn (Fence.wide.inRound l) 0 Tryz.prog (Exit.then (fun a₁ W₁ => NC W W₁ ∧ ∀ W₂, Book (w.heap.size + 2) W₁ W₂ → W₂.heap.size = W₁.heap.size →
    body.wpIn (Fence.wide.inRound l) 0 Tryz.prog (rEnd (fun W' => (Below B w W' ∧ W'.heap[w.heap.size]? = W.heap[w.heap.size]? ∧ W'.heap[w.heap.size + 1]? = W.heap[w.heap.size + 1]?) ∧ E (k + 1) W')
     (fun c W' => Below B w W' ∧ X c W') W₂) a₁ W₂) (fun _ _ _ => False))
    { tmps := (ps.zip #[.int .i64 p.1, .int .i64 p.2]).foldl (fun t (p, v) => t.setIfInBounds p v) a.tmps, defers := [] } W)
  (hdone : ∀ (d : Nat) (W : World), w.heap.size + 2 ≤ d → Below B w W → E (belL r i).length W → W.heap[d]? = some (.deferred (some [])) → Q .normal { a with defers := { target := .collected d, args := #[] } :: a.defers } W)
  (hstop : ∀ (d : Nat) (c : Code) (W : World), w.heap.size + 2 ≤ d → Below B w W → X c W → W.heap[d]? = some (.deferred (some [])) → c.wp Tryz.prog Q { a with defers := { target := .collected d, args := #[] } :: a.defers } W) :
  (Code.rangeFunc g ps assign body).wp Tryz.prog Q a W0 := by
 have hz0 : W0.heap.size = w.heap.size + 2 := by rw [hW0]; simp
 have hb0 : Below w.heap.size w W0 := by rw [hW0]; exact ((Below.refl _ _).alloc (Nat.le_refl _) _).alloc (by simp) _
 have r0 : W0.heap[w.heap.size]? = some (.cells #[.slice A r.length c] 95) := by rw [hW0]; exact (Below.heap_alloc _ _ _ (by simp)).trans (heap_alloc_new w _)
 have r1 : W0.heap[w.heap.size + 1]? = some (.cells #[.int .i64 i] 3) := by
  rw [hW0]
  have := heap_alloc_new (w.alloc (.cells #[.slice A r.length c] 95)) (.cells #[.int .i64 i] 3)
  rwa [World.size_alloc] at this
 have elp : ∀ k p, (belL r i)[k]? = some p → belEl r i k = #[.int .i64 p.1, .int .i64 p.2] := fun k p h => by unfold belEl; rw [h]
 refine range_lawG (gf := 86) (lb := #[.pointer (some ⟨w.heap.size + 1, 0, none⟩), .pointer (some ⟨w.heap.size, 0, none⟩)]) he (enters_of Tryz.func86 (by kernel_rfl) rfl)
  (fun k => by rw [← hps]; exact belEl_size r i k) (below_iter hg hi (B := B) (bi := w.heap.size + 1) (bp := w.heap.size) (c := c) (A := A)) ?hKp ?hSN
  (fun k W => Below B w W ∧ W.heap[w.heap.size]? = some (.cells #[.slice A r.length c] 95) ∧ (∃ v, W.heap[w.heap.size + 1]? = some (.cells #[v] 3)) ∧ E k W)
  (fun c W => Below B w W ∧ X c W) ?hJb ?hXb ?hJS ?hJN ?hN0 ⟨hb0.mono hB, r0, ⟨_, r1⟩, h0⟩ ?hround ?hdone ?hstop
 case hKp => exact fun H A B C h hd v hv => hd _ _ (h v hv) rfl
 case hSN =>
  intro H A B h b o ho hd
  by_cases e : b = w.heap.size + 1
  ·obtain ⟨v, hv⟩ := h.c0
   rw [e, hv] at ho
   cases ho
   cases hd
  ·exact (h.rest b e).trans ho
 case hJb =>
  rintro k A B ⟨h1, h2, ⟨v, h3⟩, h4⟩ hb
  rw [hz0] at hb
  exact ⟨h1.trans (hb.below.mono (by omega)), hb.data _ _ h2 rfl, ⟨v, hb.data _ _ h3 rfl⟩, hE _ _ _ h4 ⟨hb.below.mono (by omega), fun b o _ ho hd => hb.data b o ho hd⟩⟩
 case hXb =>
  rintro c A B ⟨h1, h2⟩ hb
  rw [hz0] at hb
  exact ⟨h1.trans (hb.below.mono (by omega)), hX _ _ _ h2 ⟨hb.below.mono (by omega), fun b o _ ho hd => hb.data b o ho hd⟩⟩
 case hJS =>
  rintro k A B ⟨h1, h2, h3, h4⟩ hb
  refine ⟨h1.trans ⟨hb.os, hb.tape, hb.output, by rw [hb.size]; exact Nat.le_refl _, fun k hk => hb.rest k (by omega)⟩, (hb.rest _ (by omega)).trans h2, hb.c1, hE _ _ _ h4 ⟨⟨hb.os, hb.tape, hb.output, by rw [hb.size]; exact Nat.le_refl _, fun b hb2 => hb.rest b (by omega)⟩, fun b o hn ho _ => (hb.rest b hn).trans ho⟩⟩
 case hJN =>
  rintro k A ⟨h1, h2, h3, h4⟩
  exact ⟨cellOf h2 0 rfl, hs.below h1⟩
 case hN0 =>
  intro A hA
  exact hA.data _ _ r1 rfl
 case hround =>
  rintro l k W hk ⟨h1, h2, h3, h4⟩ hl1 hl2
  rw [hz0] at hl1
  have hp : (belL r i)[k]? = some (belL r i)[k] := List.getElem?_eq_getElem hk
  rw [elp k _ hp]
  refine wpIn_mono (hround l k _ W hp h1 h4 hl1 hl2) ?_
  rintro e a₁ W₁ hq
  cases e with
  | normal =>
   obtain ⟨hnc, hb⟩ := hq
   refine ⟨hnc, fun W₂ hbk hsz => ?_⟩
   rw [hz0] at hbk
   refine wpIn_mono (hb W₂ hbk hsz) ?_
   rintro e a₂ W' hq
   cases e with
   | normal =>
    obtain ⟨k1, ⟨k2, k3, k4⟩, k5⟩ := hq
    obtain ⟨v, hv⟩ := h3
    exact ⟨k1, ⟨k2, k3.trans h2, ⟨v, k4.trans hv⟩, k5⟩, fun u hu => k4.trans hu⟩
   | ret => exact hq
   | exit id => exact hq
   | goto t => exact hq
   | panic ch => exact hq
   | outgrown => exact hq
  | ret => exact hq
  | exit id => exact hq
  | goto t => exact hq
  | panic ch => exact hq
  | outgrown => exact hq
 case hdone =>
  rintro d W hd ⟨h1, h2, h3, h4⟩ hk
  rw [hz0] at hd
  exact hdone d W hd h1 h4 hk
 case hstop =>
  rintro d c W hd ⟨h1, h2⟩ hk
  rw [hz0] at hd
  exact hstop d c W hd h1 h2 hk
end Go.Proofs.YthnimhnlnddnoaaGreatDoor
namespace Go.Proofs.YthnimhnlnddnoaaGreatDoor
open Go.RowKit Go.Shelf
def rivC (sl : Value) (f : Nat → Nat → Int) : Array Value := ((List.range 82).map fun j => if j = 0 then sl else .int .i64 (f ((j - 1) / 9) ((j - 1) % 9))).toArray
theorem rivC_size (sl : Value) (f : Nat → Nat → Int) : (rivC sl f).size = 82 := by simp [rivC]
theorem rivC_zero (sl : Value) (f : Nat → Nat → Int) : (rivC sl f)[0]? = some sl := rfl
theorem rivC_at {sl : Value} {f : Nat → Nat → Int} {i k : Nat} (hi : i < 9) (hk : k < 9) : (rivC sl f)[1 + i * 9 + k]? = some (.int .i64 (f i k)) := by
 unfold rivC
 rw [List.getElem?_toArray, List.getElem?_map, List.getElem?_range (by omega)]
 simp only [Option.map_some]
 rw [if_neg (by omega), show (1 + i * 9 + k - 1) / 9 = i by omega, show (1 + i * 9 + k - 1) % 9 = k by omega]
theorem rivC_congr {sl : Value} {f g : Nat → Nat → Int} (h : ∀ a b, a < 9 → b < 9 → f a b = g a b) : rivC sl f = rivC sl g := by
 unfold rivC
 congr 1
 refine List.map_congr_left fun j hj => ?_
 have hj : j < 82 := by simpa using hj
 split
 ·rfl
 ·rw [h _ _ (by omega) (by omega)]
def setF (f : Nat → Nat → Int) (i k : Nat) (x : Int) : Nat → Nat → Int := fun a b => if a = i ∧ b = k then x else f a b
theorem rivC_set {sl : Value} {f : Nat → Nat → Int} {i k : Nat} (hi : i < 9) (hk : k < 9) (x : Int) : (rivC sl f).setIfInBounds (1 + i * 9 + k) (.int .i64 x) = rivC sl (setF f i k x) := by
 refine Array.ext_getElem? fun j => ?_
 rw [Array.getElem?_setIfInBounds]
 by_cases hj : j < 82
 ·by_cases e : 1 + i * 9 + k = j
  ·subst e
   rw [if_pos rfl, rivC_size, if_pos (by omega), rivC_at hi hk]
   unfold setF
   rw [if_pos ⟨rfl, rfl⟩]
  ·rw [if_neg e]
   unfold rivC
   rw [List.getElem?_toArray, List.getElem?_toArray, List.getElem?_map, List.getElem?_map, List.getElem?_range hj]
   simp only [Option.map_some]
   split
   ·rfl
   ·unfold setF
    rw [if_neg (by omega)]
 ·rw [if_neg (by omega), Array.getElem?_eq_none (by rw [rivC_size]; omega), Array.getElem?_eq_none (by rw [rivC_size]; omega)]
def RivAt (w : World) (b : Nat) (sl : Value) (f : Nat → Nat → Int) : Prop := w.heap[b]? = some (.cells (rivC sl f) 97)
theorem RivAt.lt {w : World} {b : Nat} {sl : Value} {f : Nat → Nat → Int} (h : RivAt w b sl f) : b < w.heap.size := lt_of_block h
theorem RivAt.pts {w : World} {b : Nat} {sl : Value} {f : Nat → Nat → Int} (h : RivAt w b sl f) : w.cell? ⟨b, 0, none⟩ = some sl := cellOf h 0 (rivC_zero sl f)
theorem RivAt.cell {w : World} {b : Nat} {sl : Value} {f : Nat → Nat → Int} (h : RivAt w b sl f) {i k : Nat} (hi : i < 9) (hk : k < 9) : w.cell? ⟨b, 1 + i * 9 + k, none⟩ = some (.int .i64 (f i k)) := cellOf h _ (rivC_at hi hk)
theorem RivAt.frozen {w : World} {b : Nat} {sl : Value} {f : Nat → Nat → Int} (h : RivAt w b sl f) (n : Nat) : w.frozen? ⟨b, n, none⟩ = false := by
 have : w.heap[b]? = _ := h
 simp [World.frozen?, this]
theorem RivAt.congr {w : World} {b : Nat} {sl : Value} {f g : Nat → Nat → Int} (h : RivAt w b sl f) (e : ∀ a b, a < 9 → b < 9 → f a b = g a b) : RivAt w b sl g := by
 unfold RivAt
 rw [← rivC_congr e]
 exact h
theorem RivAt.set_ {w : World} {b : Nat} {sl : Value} {f : Nat → Nat → Int} (h : RivAt w b sl f) {i k : Nat} (hi : i < 9) (hk : k < 9) (x : Int) : RivAt (w.setCell ⟨b, 1 + i * 9 + k, none⟩ (.int .i64 x)) b sl (setF f i k x) := by
 unfold RivAt
 rw [← rivC_set hi hk]
 exact heap_setCell_row h _
theorem RivAt.below {w w' : World} {b : Nat} {sl : Value} {f : Nat → Nat → Int} (h : RivAt w b sl f) (hb : Below w.heap.size w w') : RivAt w' b sl f := (hb.block _ h.lt).trans h
theorem RivAt.data {w w' : World} {b : Nat} {sl : Value} {f : Nat → Nat → Int} (h : RivAt w b sl f) (hd : ∀ (o : Obj), w.heap[b]? = some o → isData o = true → w'.heap[b]? = some o) : RivAt w' b sl f := hd _ h rfl
theorem wpList_exec {P : Program} {ops : Array Oper} {rest : List Oper} {o : Oper} {a : Act} {w w' : World} {Q : Exit → Act → World → Prop} (hw : Region.wanted o (yielded ops a.tmps) = true) {v : Value}
  (hr : (execOp a.eval o).run P w = .ok (.value v) w') (h : wpList P ops Q rest (a.put o.dst v) w') : wpList P ops Q (o :: rest) a w := by
 refine wpList_want hw fun K hK => ?_
 unfold Oper.wp
 rw [hr]
 exact hK _ _ h
def dropP (r : List RvR) (i : Nat) (a b : Nat) : Int := if a < i ∧ b < r.length then dropR r a b else 0
def dropQ (r : List RvR) (i q b : Nat) : Int := (((belL r i).take q).filter fun p => p.1 == b).foldl (fun _ p => p.2) (-1)
def dropI (r : List RvR) (i k : Nat) (a b : Nat) : Int := if a = i ∧ b < k then -1 else dropP r i a b
def dropJ (r : List RvR) (i q : Nat) (a b : Nat) : Int := if a = i ∧ b < r.length then dropQ r i q b else dropP r i a b
theorem dropQ_succ {r : List RvR} {i q b : Nat} {p : Nat × Int} (h : (belL r i)[q]? = some p) : dropQ r i (q + 1) b = if p.1 = b then p.2 else dropQ r i q b := by
 have hlt := (List.getElem?_eq_some_iff.1 h).1
 unfold dropQ
 rw [List.take_succ_eq_append_getElem hlt, (List.getElem?_eq_some_iff.1 h).2, List.filter_append, List.foldl_append]
 by_cases e : p.1 = b
 ·simp [e]
 ·simp [e]
theorem dropQ_all (r : List RvR) (i b : Nat) : dropQ r i (belL r i).length b = dropR r i b := by
 unfold dropQ dropR
 rw [List.take_length]
 rfl
theorem dropI_zero (r : List RvR) (i : Nat) : dropI r i 0 = dropP r i := by
 funext a b
 unfold dropI
 rw [if_neg (by omega)]
theorem dropI_set (r : List RvR) (i k : Nat) : setF (dropI r i k) i k (-1) = dropI r i (k + 1) := by
 funext a b
 unfold setF dropI
 by_cases h : a = i ∧ b = k
 ·rw [if_pos h, if_pos (by omega)]
 ·rw [if_neg h]
  by_cases h2 : a = i ∧ b < k
  ·rw [if_pos h2, if_pos (by omega)]
  ·rw [if_neg h2, if_neg (by omega)]
theorem dropI_all (r : List RvR) (i : Nat) : dropI r i r.length = dropJ r i 0 := by
 funext a b
 unfold dropI dropJ
 rfl
theorem dropJ_set {r : List RvR} {i q : Nat} {p : Nat × Int} (h : (belL r i)[q]? = some p) (hp : p.1 < r.length) : setF (dropJ r i q) i p.1 p.2 = dropJ r i (q + 1) := by
 funext a b
 unfold setF dropJ
 by_cases h1 : a = i ∧ b < r.length
 ·rw [if_pos h1, if_pos h1, dropQ_succ h]
  by_cases e : p.1 = b
  ·rw [if_pos ⟨h1.1, e.symm⟩, if_pos e]
  ·rw [if_neg (fun h => e h.2.symm), if_neg e]
 ·rw [if_neg h1, if_neg h1, if_neg (by intro h2; exact h1 ⟨h2.1, by omega⟩)]
theorem dropJ_all (r : List RvR) (i : Nat) : dropJ r i (belL r i).length = dropP r (i + 1) := by
 funext a b
 unfold dropJ dropP
 by_cases h1 : a = i ∧ b < r.length
 ·rw [if_pos h1, if_pos (by omega), dropQ_all, h1.1]
 ·rw [if_neg h1]
  by_cases h2 : a < i ∧ b < r.length
  ·rw [if_pos h2, if_pos (by omega)]
  ·rw [if_neg h2, if_neg (by omega)]
def LookAt (w : World) (b : Nat) (sl : Value) (r : List RvR) : Prop := RivAt w b sl (dropP r r.length)
end Go.Proofs.YthnimhnlnddnoaaGreatDoor
namespace Go.Proofs.YthnimhnlnddnoaaGreatDoor
open Go.RowKit
section
variable {r n : Nat} {P : Program} {ops : Array Oper} {md : Region.Mode} {C : World → Prop}
theorem anyIn_of_headQ {m g : Nat} {L : Array Bool → Act → Prop} {Q' : Exit → Act → World → Prop} (hL : ∀ listed a w, C w → L listed a → wpAnyIn (Fence.wide.inRound r) n P md ops Q' g listed a w) :
  ∀ (f : Nat) (listed : Array Bool) (a : Act) (w : World), C w → headQ P md ops C m L f listed a → wpAnyIn (Fence.wide.inRound r) n P md ops Q' (f + g) listed a w := by
 intro f
 induction f with
 | zero => intro listed a w hw h; rw [Nat.zero_add]; exact hL _ _ _ hw h
 | succ f ih =>
  intro listed a w hw h
  rw [show f + 1 + g = (f + g) + 1 by omega]
  exact ⟨fun h0 => absurd h0 h.1, fun i hi => wpOpRound_of_qOp hw (fun a' w' hw' h' => ih _ a' w' hw' h') (h.2 i hi).2⟩
theorem wpAnyIn_of_seq {F : Fence} {Q' : Exit → Act → World → Prop} : ∀ (l : List Oper) (k : Nat) (listed : Array Bool) (a : Act) (w : World), (∀ j, l[j]? = ops[k + j]?) →
  Region.seqB md ops l.length k listed = true → wpListIn F n P ops Q' l a w → wpAnyIn F n P md ops Q' l.length listed a w
 | [], _, _, _, _, _, hB, h => ⟨by simpa [Region.seqB] using hB, h⟩
 | o :: l, k, listed, a, w, hl, hB, h => by
  have h0 : ops[k]? = some o := by simpa using (hl 0).symm
  simp only [List.length_cons, Region.seqB, Bool.and_eq_true, decide_eq_true_eq] at hB
  refine ⟨fun h1 => (by rw [hB.1] at h1; cases h1), fun i hi => ?_⟩
  rw [hB.1] at hi
  have hik : i = k := by simpa using hi
  subst hik
  have hw : wpOpIn F n P ops Q' i (wpListIn F n P ops Q' l) a w := by unfold wpOpIn; simp only [h0]; exact h
  exact wpOpIn_mono (fun a' w' h' => wpAnyIn_of_seq l (i + 1) _ a' w' (fun j => by have := hl (j + 1); simpa [Nat.add_assoc, Nat.add_comm 1 j] using this) hB.2 h') hw
end
theorem round_quiet_tail {r n : Nat} {P : Program} {C : World → Prop} {id : Nat} {Q : Exit → Act → World → Prop} {a : Act} {w : World} {l : List Oper} (m : Nat) (hm : P.follows .mixedOrders = true) (hB : Region.lexTailB .any l.toArray m = true) (hC : C w.drew)
  (h : wpQuiet P l.toArray C (fun a' => ∀ w', C w' → wpListIn (Fence.wide.inRound r) n P l.toArray Q (l.drop m) a' w') (l.take m) a) : (Code.region id l.toArray true).wpIn (Fence.wide.inRound r) n P Q a w := by
 simp only [Region.lexTailB, Bool.and_eq_true, decide_eq_true_eq] at hB
 obtain ⟨⟨⟨⟨hsel, hn⟩, hs⟩, hc⟩, hlex⟩ := hB
 have hn' : m < l.length := by simpa using hn
 have htl : (l.take m).length = m := by simp; omega
 have hdl : (l.drop m).length = l.toArray.size - m := by simp
 have H := headQ_lex (C := C) (md := .any) (k0 := 0) (g := l.toArray.size - m) hsel (sinkFrom_zero hs) hc hn (l.take m) 0 (Array.replicate l.toArray.size false) a (fun j hj => by
   rw [htl] at hj
   simp [hj]) (Nat.zero_le _) (by simpa using htl)
  ⟨by simp, fun j oj _ hl => (by rw [getD_replicate_false] at hl; cases hl), fun t _ ht => getD_in (by simpa using ht) (getD_replicate_false _ _)⟩ (by rw [htl]; exact hlex) h
 refine wpIn_region_any hm ?_
 have := anyIn_of_headQ (r := r) (n := n) (Q' := Q) (g := l.toArray.size - m) (fun listed a' w' hw' hL => by
  have := wpAnyIn_of_seq (F := Fence.wide.inRound r) (n := n) (md := .any) (Q' := Q) (l.drop m) m listed a' w' (fun j => by simp [List.getElem?_drop]) (by rw [hdl]; exact hL.1) (hL.2 w' hw')
  rwa [hdl] at this) _ _ _ _ hC H
 rwa [htl, show m + (l.toArray.size - m) = l.toArray.size by omega] at this
end Go.Proofs.YthnimhnlnddnoaaGreatDoor
