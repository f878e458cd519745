/- Walks of the layer order: words for Costs of the program. -/
import Derived.Test.YtkmaapkbonkjfaaBest2
namespace Go.Proofs.Ytkmaapkbonkjfaa
open Go.RowKit Go.Shelf
attribute [local go_sem] Oper.semAt_some

def mostTo (s : ShopR) (a b : Nat) (start sub : Int) (k : Nat) : Int := ((setsOf s a b).take k).foldl (fun m x => max m (worthOf s x - sub)) start
theorem mostTo_succ (s : ShopR) (a b : Nat) (start sub : Int) (k : Nat) (hk : k < (setNs s a b).length) :
    mostTo s a b start sub (k + 1) = max (mostTo s a b start sub k) (worthOf s (bitsOf s.orders.length ((setNs s a b).getD k 0)) - sub) := by
  unfold mostTo
  rw [setsOf_take s a b k hk, List.foldl_append]
  rfl
theorem mostTo_end (s : ShopR) (a b : Nat) (start sub : Int) : mostTo s a b start sub (setNs s a b).length = mostW s a b start sub := by
  unfold mostTo mostW
  rw [List.take_of_length_le (by rw [setsOf_len]; exact Nat.le_refl _)]
theorem mostTo_bd {s : ShopR} (hg : Good s) (a b : Nat) {start sub : Int} (h0 : -1 ≤ start ∧ start ≤ 0) (h1 : 0 ≤ sub ∧ sub ≤ 10000) (k : Nat) (hk : k ≤ (setNs s a b).length) : -1 ≤ mostTo s a b start sub k ∧ mostTo s a b start sub k ≤ 80000 := by
  induction k with
  | zero => simp [mostTo]; omega
  | succ k ih =>
    have h2 := ih (by omega)
    have h3 := bits_worth hg ((setNs s a b).getD k 0)
    rw [mostTo_succ s a b start sub k (by omega)]
    omega

/-- a function that holds two ranges over functions: its end -/
theorem leaves_two {P : Program} {fn : Func} {R : Ending → World → Prop} {a : Act} {w : World} {d1 d2 B : Nat} (hd : a.defers = [{ target := .collected d2, args := #[] }, { target := .collected d1, args := #[] }])
    (h2 : w.heap[d2]? = some (.deferred (some []))) (h1 : w.heap[d1]? = some (.deferred (some []))) (hne : d1 ≠ d2) (hB1 : B ≤ d1) (hB2 : B ≤ d2)
    (h : ∀ w', Book B w w' → ∃ v, (results fn a.tmps).run P w' = .ok v w' ∧ R (.returned v) w') : LeavesInM Fence.wide 0 P fn a.tmps R a.defers .returning w := by
  rw [hd]
  have b2 := (Book.refl B w).put hB2 h2 rfl (.deferred none)
  have h1' : (w.putObj d2 (.deferred none)).heap[d1]? = some (.deferred (some [])) := (World.putObj_heap_other hne).trans h1
  exact ⟨by simp, .inl ⟨_, _, rfl, run_takeDeferred h2, by simp, .inl ⟨_, _, rfl, run_takeDeferred h1', h _ (b2.put hB1 h1' rfl _)⟩⟩⟩

/-- what holds between two rounds of either range -/
structure CostE (s : ShopR) (w : World) (B0 B p bm mb tb : Nat) (vs : Array Value) (vo : Value) (o : Int) (m t : Int) (W : World) : Prop where
  below : Below w.heap.size w W
  shop : ShopAt B W p bm s
  hB : B ≤ W.heap.size
  b0 : W.heap[w.heap.size]? = some (.cells vs 26)
  b1 : W.heap[w.heap.size + 1]? = some (.cells #[.int .i64 o] 3)
  ro : Rd OrdAt 4 B0 W vo s.orders
  mo : W.heap[mb]? = some (.cells #[.int .i64 m] 3)
  wi : W.heap[tb]? = some (.cells #[.int .i64 t] 3)
theorem CostE.stay {s : ShopR} {w : World} {B0 B p bm mb tb T : Nat} {vs : Array Value} {vo : Value} {o m t : Int} {A W : World} (h : CostE s w B0 B p bm mb tb vs vo o m t A) (hs : Stay s bm w.heap.size T A W) (hz : A.heap.size ≤ W.heap.size) : CostE s w B0 B p bm mb tb vs vo o m t W :=
  ⟨h.below.trans hs.below, h.shop.stay hs, Nat.le_trans h.hB hz, hs.cells _ _ _ _ h.b0, hs.cells _ _ _ _ h.b1, h.ro.stay fun b c e f _ hc => hs.cells _ _ _ _ hc, hs.cells _ _ _ _ h.mo, hs.cells _ _ _ _ h.wi⟩
theorem CostE.of_below {s : ShopR} {w : World} {B0 B p bm mb tb : Nat} {vs : Array Value} {vo : Value} {o m t : Int} {A W : World} (h : CostE s w B0 B p bm mb tb vs vo o m t A) (hb : Below A.heap.size A W) (hw : w.heap.size ≤ A.heap.size) : CostE s w B0 B p bm mb tb vs vo o m t W :=
  h.stay (T := 0) ⟨hb.mono hw, fun b c t f hc => (hb.block _ (lt_of_block hc)).trans hc, fun hm => hm.below hb, fun _ _ h => by omega⟩ hb.size
theorem CostE.drewN {s : ShopR} {w : World} {B0 B p bm mb tb : Nat} {vs : Array Value} {vo : Value} {o m t : Int} {A : World} (h : CostE s w B0 B p bm mb tb vs vo o m t A) (n : Nat) : CostE s w B0 B p bm mb tb vs vo o m t (A.drewN n) :=
  h.of_below (below_drewN (Below.refl _ _) n) h.below.size
theorem ShopAt.setAbove {B : Nat} {w : World} {p bm : Nat} {s : ShopR} (h : ShopAt B w p bm s) {q : Addr} (hq : B ≤ q.block) (hp : p < B) (v : Value) : ShopAt B (w.setCell q v) p bm s := by
  obtain ⟨⟨vh, vp, vo, vu, g, h1, h2, h3, h4⟩, hm⟩ := h
  exact ⟨⟨vh, vp, vo, vu, (Below.heap_setCell _ _ _ _ (by omega)).trans g, h1.setCell hq v, h2.setCell hq v, h3.setCell hq v, h4.setCell hq v⟩, mapAt_setCell hm q v⟩
theorem CostE.setMost {s : ShopR} {w : World} {B0 B p bm mb tb : Nat} {vs : Array Value} {vo : Value} {o m t : Int} {A : World} (h : CostE s w B0 B p bm mb tb vs vo o m t A) (h1 : B ≤ mb) (h2 : p < B) (h3 : B0 ≤ mb) (h4 : w.heap.size + 1 < mb) (h5 : mb ≠ tb) (m' : Int) : CostE s w B0 B p bm mb tb vs vo o m' t (A.setCell ⟨mb, 0, none⟩ (.int .i64 m')) :=
  ⟨h.below.setCell (p := ⟨mb, 0, none⟩) (by simp; omega) _, h.shop.setAbove h1 h2 _, by simpa [World.setCell] using h.hB, (Below.heap_setCell _ _ _ _ (by simp; omega)).trans h.b0, (Below.heap_setCell _ _ _ _ (by simp; omega)).trans h.b1,
    h.ro.setCell h3 _, one_set h.mo, (Below.heap_setCell _ _ _ _ (by simp; omega)).trans h.wi⟩
theorem CostE.setWith {s : ShopR} {w : World} {B0 B p bm mb tb : Nat} {vs : Array Value} {vo : Value} {o m t : Int} {A : World} (h : CostE s w B0 B p bm mb tb vs vo o m t A) (h1 : B ≤ tb) (h2 : p < B) (h3 : B0 ≤ tb) (h4 : w.heap.size + 1 < tb) (h5 : mb ≠ tb) (t' : Int) : CostE s w B0 B p bm mb tb vs vo o m t' (A.setCell ⟨tb, 0, none⟩ (.int .i64 t')) :=
  ⟨h.below.setCell (p := ⟨tb, 0, none⟩) (by simp; omega) _, h.shop.setAbove h1 h2 _, by simpa [World.setCell] using h.hB, (Below.heap_setCell _ _ _ _ (by simp; omega)).trans h.b0, (Below.heap_setCell _ _ _ _ (by simp; omega)).trans h.b1,
    h.ro.setCell h3 _, (Below.heap_setCell _ _ _ _ (by simp; omega)).trans h.mo, one_set h.wi⟩

def costsFV (s : ShopR) (o : Int) : Value := .tuple #[.int .i64 (costsF s o).1, .int .i64 (costsF s o).2]
theorem costsFV_eq {s : ShopR} {o a b : Int} (h : costsF s o = (a, b)) : costsFV s o = .tuple #[.int .i64 a, .int .i64 b] := by unfold costsFV; rw [h]
end Go.Proofs.Ytkmaapkbonkjfaa
