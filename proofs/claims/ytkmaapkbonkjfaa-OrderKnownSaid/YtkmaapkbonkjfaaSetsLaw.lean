/- Walks of the layer order: sets; a range over the sets of a shop. -/
import Derived.Test.YtkmaapkbonkjfaaSets
import Derived.Laws.EntriesVeiled
namespace Go.Proofs.Ytkmaapkbonkjfaa
open Go.RowKit Go.Shelf
attribute [local go_sem] Oper.semAt_some

theorem sets_any (w : World) (p : Nat) (a b : Int) :
    Calls Try.prog 69 #[.pointer (some ⟨p, 0, none⟩), .int .i64 a, .int .i64 b] w fun e w' => e = .returned (.func (.func 88) #[] #[.pointer (some ⟨w.heap.size, 0, none⟩), .pointer (some ⟨w.heap.size + 1, 0, none⟩), .pointer (some ⟨w.heap.size + 2, 0, none⟩)]) ∧
      w' = ((w.alloc (.cells #[.pointer (some ⟨p, 0, none⟩)] 84)).alloc (.cells #[.int .i64 a] 3)).alloc (.cells #[.int .i64 b] 3) := by
  go_enter Try.func69, Try.ntmps69
  go_wp2
  go_ret
  simp

/-- blocks of cells stay, and so do all blocks below H -/
structure Stay (s : ShopR) (bm H T : Nat) (A B : World) : Prop where
  below : Below H A B
  cells : ∀ (b : Nat) (c : Array Value) (t : TypeId) (f : Nat × Nat), A.heap[b]? = some (.cells c t f) → B.heap[b]? = some (.cells c t f)
  map : MapAt (castP s) A bm → MapAt (castP s) B bm
  mark : ∀ (b : Nat) (o : Obj), b < T → A.heap[b]? = some o → isData o = false → B.heap[b]? = some o
theorem Stay.of_book {s : ShopR} {bm H S T : Nat} {A B : World} (h : Book S A B) (hS : H ≤ S) (hT : T ≤ S) : Stay s bm H T A B :=
  ⟨h.below.mono hS, fun _ _ _ _ hc => h.data _ _ hc rfl, fun hm => hm.book h, fun b o hb ho _ => (h.below.block b (by omega)).trans ho⟩
theorem Stay.of_set {s : ShopR} {bm H H' T : Nat} {A B : World} (h : SetS s bm H' A B) (hA : H ≤ A.heap.size) (hb : H ≤ bm) : Stay s bm H T A B :=
  ⟨h.keep.below hA hb, fun _ _ _ _ hc => by obtain ⟨es, clk, hm, _⟩ := h.m0; exact h.keep.stay hm hc, fun _ => h.m1, fun b o _ ho hd => by obtain ⟨es, clk, hm, _⟩ := h.m0; exact h.keep.nc hm b o ho hd⟩
theorem ShopAt.stay {B H T : Nat} {A W : World} {p bm : Nat} {s : ShopR} (h : ShopAt B A p bm s) (k : Stay s bm H T A W) : ShopAt B W p bm s := by
  obtain ⟨⟨vh, vp, vo, vu, hp, h1, h2, h3, h4⟩, hm⟩ := h
  exact ⟨⟨vh, vp, vo, vu, k.cells _ _ _ _ hp, h1.stay fun b c e f _ hc => k.cells _ _ _ _ hc, h2.stay fun b c e f _ hc => k.cells _ _ _ _ hc, h3.stay fun b c e f _ hc => k.cells _ _ _ _ hc, h4.stay fun b c e f _ hc => k.cells _ _ _ _ hc⟩, k.map hm⟩

theorem sets_law {B H p bm : Nat} {s : ShopR} {w : World} (hg : Good s) (x y : Nat) (hx : x < 256) (hy : y < 256) (hHw : H ≤ w.heap.size) (hHb : H ≤ bm)
    {g : Operand} {ps : Array Tmp} {assign body : Code} {Q : Exit → Act → World → Prop} {a : Act}
    (he : a.eval g = .func (.func 88) #[] #[.pointer (some ⟨w.heap.size, 0, none⟩), .pointer (some ⟨w.heap.size + 1, 0, none⟩), .pointer (some ⟨w.heap.size + 2, 0, none⟩)]) (hps : 2 = ps.size)
    (E : Nat → World → Prop) (X : Code → World → Prop) (hE : ∀ k A B, E k A → Stay s bm H (w.heap.size + 3) A B → E k B) (hX : ∀ c A B, X c A → Stay s bm H (w.heap.size + 3) A B → X c B) (hN : ∀ k A, E k A → ShopAt B A p bm s ∧ B ≤ A.heap.size)
    {W0 : World} (hW0 : W0 = ((w.alloc (.cells #[.pointer (some ⟨p, 0, none⟩)] 84)).alloc (.cells #[.int .i64 x] 3)).alloc (.cells #[.int .i64 y] 3)) (h0 : E 0 W0)
    (hround : ∀ (r k : Nat) (W : World), k < (setNs s x y).length → E k W → w.heap.size + 3 ≤ W.heap.size → W0.heap.size < r → r < W.heap.size →
      assign.wpIn (Fence.wide.inRound r) 0 Try.prog (Exit.then (fun a₁ W₁ => NC W W₁ ∧ ∀ W₂, Book (w.heap.size + 3) W₁ W₂ → W₂.heap.size = W₁.heap.size →
        body.wpIn (Fence.wide.inRound r) 0 Try.prog (rEnd (fun W' => ((W'.heap[w.heap.size]? = W.heap[w.heap.size]? ∧ W'.heap[w.heap.size + 1]? = W.heap[w.heap.size + 1]? ∧ W'.heap[w.heap.size + 2]? = W.heap[w.heap.size + 2]?) ∧ E (k + 1) W') ∧ True)
          X W₂) a₁ W₂) (fun _ _ _ => False))
        { tmps := (ps.zip (setEl s x y k)).foldl (fun t (p, v) => t.setIfInBounds p v) a.tmps, defers := [] } W)
    (hdone : ∀ (d : Nat) (W : World), w.heap.size + 3 ≤ d → E (setNs s x y).length W → W.heap[d]? = some (.deferred (some [])) → Q .normal { a with defers := { target := .collected d, args := #[] } :: a.defers } W)
    (hstop : ∀ (d : Nat) (c : Code) (W : World), w.heap.size + 3 ≤ d → X c W → W.heap[d]? = some (.deferred (some [])) → c.wp Try.prog Q { a with defers := { target := .collected d, args := #[] } :: a.defers } W) :
    (Code.rangeFunc g ps assign body).wp Try.prog Q a W0 := by
  have hz0 : W0.heap.size = w.heap.size + 3 := by rw [hW0]; simp
  have r0 : W0.heap[w.heap.size]? = some (.cells #[.pointer (some ⟨p, 0, none⟩)] 84) := by rw [hW0]; exact (Below.heap_alloc _ _ _ (by simp; omega)).trans ((Below.heap_alloc _ _ _ (by simp)).trans (heap_alloc_new w _))
  have r1 : W0.heap[w.heap.size + 1]? = some (.cells #[.int .i64 x] 3) := by
    rw [hW0]
    have := heap_alloc_new (w.alloc (.cells #[.pointer (some ⟨p, 0, none⟩)] 84)) (.cells #[.int .i64 x] 3)
    rw [World.size_alloc] at this
    exact (Below.heap_alloc _ _ _ (by simp)).trans this
  have r2 : W0.heap[w.heap.size + 2]? = some (.cells #[.int .i64 y] 3) := by
    rw [hW0]
    have := heap_alloc_new ((w.alloc (.cells #[.pointer (some ⟨p, 0, none⟩)] 84)).alloc (.cells #[.int .i64 x] 3)) (.cells #[.int .i64 y] 3)
    rwa [World.size_alloc, World.size_alloc] at this
  refine range_law (gf := 88) (lb := #[.pointer (some ⟨w.heap.size, 0, none⟩), .pointer (some ⟨w.heap.size + 1, 0, none⟩), .pointer (some ⟨w.heap.size + 2, 0, none⟩)]) he (enters_of Try.func88 (by kernel_rfl) rfl)
    (fun _ => by rw [← hps]; rfl) (sets_iter hg x y hx hy B w.heap.size (w.heap.size + 1) (w.heap.size + 2) p bm) ?hKp ?hSN
    (fun k W => (W.heap[w.heap.size]? = some (.cells #[.pointer (some ⟨p, 0, none⟩)] 84) ∧ W.heap[w.heap.size + 1]? = some (.cells #[.int .i64 x] 3) ∧ W.heap[w.heap.size + 2]? = some (.cells #[.int .i64 y] 3)) ∧ E k W)
    X ?hJb ?hXb ?hJS ?hJN ⟨⟨r0, r1, r2⟩, h0⟩ ?hround ?hdone ?hstop
  case hKp => exact fun _ _ _ _ _ _ => trivial
  case hSN =>
    intro _ A B h
    obtain ⟨es, clk, hm, _⟩ := h.m0
    exact h.keep.nc hm
  case hJb => exact fun k A B ⟨h3, h4⟩ hb => ⟨⟨hb.data _ _ h3.1 rfl, hb.data _ _ h3.2.1 rfl, hb.data _ _ h3.2.2 rfl⟩, hE _ _ _ h4 (.of_book hb (by omega) (by omega))⟩
  case hXb => exact fun c A B h hb => hX _ _ _ h (.of_book hb (by omega) (by omega))
  case hJS =>
    intro k A B ⟨h3, h4⟩ hb
    have hA : H ≤ A.heap.size := by have := lt_of_block h3.1; omega
    have hst := Stay.of_set (T := w.heap.size + 3) hb hA hHb
    exact ⟨⟨hst.cells _ _ _ _ h3.1, hst.cells _ _ _ _ h3.2.1, hst.cells _ _ _ _ h3.2.2⟩, hE _ _ _ h4 hst⟩
  case hJN =>
    rintro k A ⟨h3, h4⟩
    obtain ⟨h1, h2⟩ := hN _ _ h4
    exact ⟨cellOf h3.1 0 rfl, cellOf h3.2.1 0 rfl, cellOf h3.2.2 0 rfl, h1, h2⟩
  case hround =>
    rintro r k W hk ⟨h3, h4⟩ hr1 hr2
    refine wpIn_mono (hround r k W hk h4 (by have := lt_of_block h3.2.2; omega) hr1 hr2) ?_
    rintro e a₁ W₁ hp
    cases e with
    | normal =>
      obtain ⟨hnc, hb⟩ := hp
      refine ⟨hnc, fun W₂ hbk hsz => ?_⟩
      rw [hz0] at hbk
      refine wpIn_mono (hb W₂ hbk hsz) ?_
      rintro e a₂ W' hp
      cases e with
      | normal =>
        obtain ⟨k1, ⟨k4, k5⟩, k6⟩ := hp
        exact ⟨k1, ⟨⟨k4.1.trans h3.1, k4.2.1.trans h3.2.1, k4.2.2.trans h3.2.2⟩, k5⟩, trivial⟩
      | ret => exact hp
      | exit id => exact hp
      | goto t => exact hp
      | panic ch => exact hp
      | outgrown => exact hp
    | ret => exact hp
    | exit id => exact hp
    | goto t => exact hp
    | panic ch => exact hp
    | outgrown => exact hp
  case hdone => exact fun d W hd ⟨_, h4⟩ hk => hdone d W (by omega) h4 hk
  case hstop => exact fun d c W hd h hk => hstop d c W (by omega) h hk
end Go.Proofs.Ytkmaapkbonkjfaa
