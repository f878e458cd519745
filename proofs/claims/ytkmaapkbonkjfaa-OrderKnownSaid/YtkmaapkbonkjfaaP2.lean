/- Walks of the layer order: Clone, Needed. -/
import Derived.Test.YtkmaapkbonkjfaaP1
namespace Go.Proofs.Ytkmaapkbonkjfaa
open Go.RowKit Go.Shelf
attribute [local go_sem] Oper.semAt_some

theorem own_empty (w : World) (e : TypeId) {α : Type} {At : World → Addr → α → Prop} {sz : Nat} [E : Enc α At sz] : Own w.heap.size e (w.alloc (.cells #[] e)) (.slice (some ⟨w.heap.size, 0, none⟩) 0 0) ([] : List α) :=
  ⟨by simp, .inr ⟨w.heap.size, 0, #[], rfl, Nat.le_refl _, heap_alloc_new w _, Nat.le_refl _, by unfold maxLen; omega, by simp, by simp⟩⟩

set_option maxRecDepth 100000 in
theorem clone_any {B : Nat} {w : World} {ad : Addr} {c : Nat} {xs : List Int} (hv : Rd IntAt 1 B w (.slice (some ad) xs.length c) xs) (hB : B ≤ w.heap.size) (hn : xs.length ≤ 1000) :
    Calls Try.prog 57 #[.slice (some ad) xs.length c] w fun e w' => ∃ A c', e = .returned (.slice A xs.length c') ∧ Rd IntAt 1 w'.heap.size w' (.slice A xs.length c') xs ∧ Below w.heap.size w w' := by
  obtain ⟨A, c', w', hrun, hown, hb, _⟩ := append_ints (own_empty w 3) (hv.alloc hB _) (by simp; omega) (by simp)
  simp only [List.length_nil, Nat.zero_add, List.nil_append] at hrun hown
  have Hown := Lib.hid hown
  have Hb := Lib.hid (((Below.refl w.heap.size w).alloc (Nat.le_refl _) _).trans hb)
  clear hown hb hv
  have hq : (binOp .eql 22 (.slice (some ad) xs.length c) (.slice none 0 0)).run Try.prog w = .ok (.bool false) w := by kernel_rfl
  go_enter Try.func57, Try.ntmps57
  go_wp2_with (at_builtin; refine wpList_append_run rfl _ _ _ rfl rfl rfl hrun ?_)
  go_ret
  exact ⟨A, c', rfl, Hown.out.rd, Hb.out⟩

/-- cells below S that lie in A lie in B -/
def CellsStay (S : Nat) (A B : World) : Prop := ∀ (b : Nat) (c : Array Value) (t : TypeId) (f : Nat × Nat), (b < S ∨ t ≠ 93) → A.heap[b]? = some (.cells c t f) → B.heap[b]? = some (.cells c t f)
theorem Book.stays {S T : Nat} {A B : World} (h : Book T A B) : CellsStay S A B := fun _ _ _ _ _ hc => h.data _ _ hc rfl
theorem CellsStay.arr {S b : Nat} {A B : World} {f : Nat → Int} (h : CellsStay S A B) (hb : b < S) (ha : ArrAt A b f) : ArrAt B b f := h _ _ _ _ (.inl hb) ha

theorem DayS.stays2 {s : ShopR} {bm H S : Nat} {A B : World} (h : DayS s bm H A B) (hS : S ≤ H) : CellsStay S A B := by
  intro b c t f hi hc
  obtain ⟨es, clk, hm, _⟩ := h.m0
  refine (h.block b (lt_of_block hc) (fun e => ?_) ?_).trans hc
  · subst e
    rw [hm] at hc
    cases hc
  · rcases hi with hi | hi
    · exact .inl (by omega)
    · refine .inr fun cs f2 h2 => ?_
      rw [h2] at hc
      cases hc
      exact hi rfl
/-- a range over the days of a shop -/
theorem days_law {B p bm : Nat} {s : ShopR} {l : List OrdR} {vl : Value} {w0 w : World} (hs : ShopAt B w0 p bm s) (hl : Rd OrdAt 4 B w0 vl l) (hB : B ≤ w0.heap.size) (hg : Good s) (hf : Fit s l)
    (hk0 : KeepM bm w0 w) (hm0 : MapAt (castP s) w bm) {g : Operand} {ps : Array Tmp} {assign body : Code} {Q : Exit → Act → World → Prop} {a : Act}
    (he : a.eval g = .func (.func 82) #[] #[.pointer (some ⟨w.heap.size, 0, none⟩), .pointer (some ⟨w.heap.size + 1, 0, none⟩)]) (hps : 2 = ps.size)
    (E : Nat → World → Prop) (X : Code → World → Prop) (hE : ∀ k A B, E k A → CellsStay w.heap.size A B → E k B) (hX : ∀ c A B, X c A → CellsStay w.heap.size A B → X c B)
    {W0 : World} (hW0 : W0 = (w.alloc (.cells #[.pointer (some ⟨p, 0, none⟩)] 84)).alloc (.cells #[vl] 24)) (h0 : E 0 W0)
    (hround : ∀ (r k : Nat) (W : World), k < s.hours.length → KeepM bm w0 W → MapAt (castP s) W bm → E k W → w.heap.size + 2 < W.heap.size → W0.heap.size < r → r < W.heap.size →
      assign.wpIn (Fence.wide.inRound r) 0 Try.prog (Exit.then (fun a₁ W₁ => NC W W₁ ∧ ∀ W₂, Book (w.heap.size + 2) W₁ W₂ → W₂.heap.size = W₁.heap.size →
        body.wpIn (Fence.wide.inRound r) 0 Try.prog (rEnd (fun W' => (KeepM bm w0 W' ∧ MapAt (castP s) W' bm ∧ (W'.heap[w.heap.size]? = W.heap[w.heap.size]? ∧ W'.heap[w.heap.size + 1]? = W.heap[w.heap.size + 1]?) ∧ E (k + 1) W') ∧ DayK (w.heap.size + 4) W W')
          (fun c W' => KeepM bm w0 W' ∧ MapAt (castP s) W' bm ∧ X c W') W₂) a₁ W₂) (fun _ _ _ => False))
        { tmps := (ps.zip (dayEl s l k)).foldl (fun t (p, v) => t.setIfInBounds p v) a.tmps, defers := [] } W)
    (hdone : ∀ (d : Nat) (W : World), w.heap.size + 2 ≤ d → KeepM bm w0 W → MapAt (castP s) W bm → E s.hours.length W → W.heap[d]? = some (.deferred (some [])) → Q .normal { a with defers := { target := .collected d, args := #[] } :: a.defers } W)
    (hstop : ∀ (d : Nat) (c : Code) (W : World), w.heap.size + 2 ≤ d → KeepM bm w0 W → MapAt (castP s) W bm → X c W → W.heap[d]? = some (.deferred (some [])) → c.wp Try.prog Q { a with defers := { target := .collected d, args := #[] } :: a.defers } W) :
    (Code.rangeFunc g ps assign body).wp Try.prog Q a W0 := by
  have hz0 : W0.heap.size = w.heap.size + 2 := by rw [hW0]; simp
  have hb0 : Below w.heap.size w W0 := by rw [hW0]; exact ((Below.refl _ _).alloc (Nat.le_refl _) _).alloc (by simp) _
  have hks := hk0.size
  have r0 : W0.heap[w.heap.size]? = some (.cells #[.pointer (some ⟨p, 0, none⟩)] 84) := by rw [hW0]; exact (Below.heap_alloc _ _ _ (by simp)).trans (heap_alloc_new w _)
  have r1 : W0.heap[w.heap.size + 1]? = some (.cells #[vl] 24) := by
    rw [hW0]
    have := heap_alloc_new (w.alloc (.cells #[.pointer (some ⟨p, 0, none⟩)] 84)) (.cells #[vl] 24)
    rwa [World.size_alloc] at this
  refine range_law (gf := 82) (lb := #[.pointer (some ⟨w.heap.size, 0, none⟩), .pointer (some ⟨w.heap.size + 1, 0, none⟩)]) he (enters_of Try.func82 (by kernel_rfl) rfl)
    (fun _ => by rw [← hps]; rfl) (days_iter hg hf B w.heap.size (w.heap.size + 1) p bm vl) ?hKp ?hSN
    (fun k W => KeepM bm w0 W ∧ MapAt (castP s) W bm ∧ (W.heap[w.heap.size]? = some (.cells #[.pointer (some ⟨p, 0, none⟩)] 84) ∧ W.heap[w.heap.size + 1]? = some (.cells #[vl] 24)) ∧ E k W)
    (fun c W => KeepM bm w0 W ∧ MapAt (castP s) W bm ∧ X c W) ?hJb ?hXb ?hJS ?hJN ⟨hk0.trans (.of_below hb0), hm0.below hb0, ⟨r0, r1⟩, h0⟩ ?hround ?hdone ?hstop
  case hKp => exact fun H A B C h hd b cs f hb hc => hd _ _ (h b cs f hb hc) rfl
  case hSN =>
    intro H A B h b o ho hdo
    obtain ⟨es, clk, hm, _⟩ := h.m0
    refine (h.block b (lt_of_block ho) (fun e => ?_) (.inr fun cs f hc => ?_)).trans ho
    · subst e
      rw [hm] at ho
      cases ho
      cases hdo
    · rw [hc] at ho
      cases ho
      cases hdo
  case hJb => exact fun k A B ⟨h1, h2, h3, h4⟩ hb => ⟨h1.book hb (by omega), h2.book hb, ⟨hb.data _ _ h3.1 rfl, hb.data _ _ h3.2 rfl⟩, hE _ _ _ h4 hb.stays⟩
  case hXb => exact fun c A B ⟨h1, h2, h3⟩ hb => ⟨h1.book hb (by omega), h2.book hb, hX _ _ _ h3 hb.stays⟩
  case hJS => exact fun k A B ⟨h1, h2, h3, h4⟩ hb => ⟨h1.days hb (by omega), hb.m1, ⟨hb.stays (by omega) h3.1, hb.stays (by omega) h3.2⟩, hE _ _ _ h4 (hb.stays2 (by omega))⟩
  case hJN =>
    rintro k A ⟨h1, h2, h3, h4⟩
    have hsz := h1.size
    exact ⟨cellOf h3.1 0 rfl, cellOf h3.2 0 rfl, hs.keep h1 h2, hl.stay (by
      intro b c e f hb hc
      obtain ⟨es, clk, hm, _⟩ := hs.map
      exact h1.stay hm hc), by omega⟩
  case hround =>
    rintro r k W hk ⟨h1, h2, h3, h4⟩ hr1 hr2
    refine wpIn_mono (hround r k W hk h1 h2 h4 (by omega) hr1 hr2) ?_
    rintro e a₁ W₁ hp
    cases e with
    | normal =>
      obtain ⟨hnc, hb⟩ := hp
      refine ⟨hnc, fun W₂ hbk hsz => ?_⟩
      rw [hz0] at hbk
      refine wpIn_mono (hb W₂ hbk hsz) ?_
      rintro e a₂ W' hp
      cases e with
      | normal =>
        obtain ⟨k1, ⟨k2, k3, k4, k5⟩, k6⟩ := hp
        refine ⟨k1, ⟨k2, k3, ⟨k4.1.trans h3.1, k4.2.trans h3.2⟩, k5⟩, ?_⟩
        rw [hz0]
        exact k6
      | ret => exact hp
      | exit id => exact hp
      | goto t => exact hp
      | panic ch => exact hp
      | outgrown => exact hp
    | ret => exact hp
    | exit id => exact hp
    | goto t => exact hp
    | panic ch => exact hp
    | outgrown => exact hp
  case hdone => exact fun d W hd ⟨h1, h2, _, h4⟩ hk => hdone d W (by omega) h1 h2 h4 hk
  case hstop => exact fun d c W hd ⟨h1, h2, h3⟩ hk => hstop d c W (by omega) h1 h2 h3 hk
end Go.Proofs.Ytkmaapkbonkjfaa
