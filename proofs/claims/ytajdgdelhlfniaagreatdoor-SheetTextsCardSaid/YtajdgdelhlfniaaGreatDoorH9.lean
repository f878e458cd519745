/- A range over a function, by one law of our own: an iterator that may write a map that lay there before, and a body that may write the caller's own cells. A region that draws its order, inside a round of a range over a function. Walks of the layer sheet: what a note binds, as it is yielded. -/
import Derived.RangeFuncRecord
import Derived.Shelf.Abstract
import Derived.Shelf.RegionOpen
import Derived.RangeFuncSeq
import Derived.RangeFuncLeaves
import Derived.TacticsInMore
import Derived.OwnWalkIn
import Derived.LoopNIn
import Derived.LoopIn
import Derived.WalkSmall
import Derived.Test.YtajdgdelhlfniaaGreatDoorH3
import Derived.OrdersIn
import Derived.Deep.Quiet
import Derived.Test.YtajdgdelhlfniaaGreatDoorH6
import Derived.Test.YtajdgdelhlfniaaGreatDoorH7
import Derived.Test.YtajdgdelhlfniaaGreatDoorH8
import Derived.Laws.EntriesVeiled
import Derived.WalkKit
set_option linter.unusedSimpArgs false
set_option linter.unusedVariables false
namespace Go.Proofs.YtajdgdelhlfniaaGreatDoor
open Go.RowKit Go.Shelf

/-- objects that hold a program's data -/
def isData : Obj → Bool
  | .cells .. | .map .. | .stringIter .. | .mapIter .. => true
  | _ => false
/-- what a loop's own book-keeping does: blocks from B on that hold no data -/
structure Book (B : Nat) (w w' : World) : Prop where
  below : Below B w w'
  data : ∀ (b : Nat) (o : Obj), w.heap[b]? = some o → isData o = true → w'.heap[b]? = some o
/-- what holds no data lies as it lay -/
def NC (w w' : World) : Prop := ∀ (b : Nat) (o : Obj), w.heap[b]? = some o → isData o = false → w'.heap[b]? = some o

theorem Book.refl (B : Nat) (w : World) : Book B w w := ⟨Below.refl _ _, fun _ _ h _ => h⟩
theorem Book.trans {B : Nat} {a b c : World} (h : Book B a b) (k : Book B b c) : Book B a c := ⟨h.below.trans k.below, fun i o ho hd => k.data i o (h.data i o ho hd) hd⟩
theorem Book.alloc {B : Nat} {a w : World} (h : Book B a w) (hB : B ≤ w.heap.size) (o : Obj) : Book B a (w.alloc o) :=
  ⟨h.below.alloc hB o, fun i p hp hd => (Below.heap_alloc w o i (lt_of_block (h.data i p hp hd))).trans (h.data i p hp hd)⟩
theorem Book.put {B r : Nat} {a w : World} {o : Obj} (h : Book B a w) (hr : B ≤ r) (ho : w.heap[r]? = some o) (hd : isData o = false) (o' : Obj) : Book B a (w.putObj r o') := by
  refine ⟨h.below.trans ⟨rfl, rfl, rfl, by simp, fun k hk => World.putObj_heap_other (by omega)⟩, fun i p hp hpd => ?_⟩
  have h1 := h.data i p hp hpd
  by_cases e : i = r
  · subst e
    rw [ho] at h1
    cases h1
    rw [hd] at hpd
    cases hpd
  · exact (World.putObj_heap_other e).trans h1
theorem Book.cell {B : Nat} {w w' : World} (h : Book B w w') {a : Addr} {v : Value} (hc : w.cell? a = some v) : w'.cell? a = some v := by
  unfold World.cell? at *
  cases ho : w.heap[a.block]? with
  | none => simp [ho] at hc
  | some o =>
    cases o with
    | cells c e f => rw [h.data _ _ ho rfl]; simpa [ho] using hc
    | _ => simp [ho] at hc

theorem NC.refl (w : World) : NC w w := fun _ _ h _ => h
theorem NC.trans {a b c : World} (h : NC a b) (k : NC b c) : NC a c := fun i o ho hd => k i o (h i o ho hd) hd
theorem NC.alloc {a w : World} (h : NC a w) (o : Obj) : NC a (w.alloc o) := fun i p hp hd => (Below.heap_alloc w o i (lt_of_block (h i p hp hd))).trans (h i p hp hd)
theorem NC.of_below {a w w' : World} (h : NC a w) (hb : Below w.heap.size w w') : NC a w' := fun i p hp hd => (hb.block i (lt_of_block (h i p hp hd))).trans (h i p hp hd)
theorem NC.drewN {a w : World} (h : NC a w) (n : Nat) : NC a (w.drewN n) := h
theorem NC.setCell {a w : World} (h : NC a w) (p : Addr) (v : Value) : NC a (w.setCell p v) := fun i o ho hd => by
  have h1 := h i o ho hd
  by_cases e : i = p.block
  · subst e
    simp only [World.setCell, Array.getElem?_modify, h1, if_true, Option.map_some]
    cases o <;> first | rfl | (simp [isData] at hd)
  · exact (Below.heap_setCell w p v i e).trans h1
theorem NC.grown {a w w' : World} {row : Option Nat} (h : NC a w) (hg : w.grownBy w' row) (hr : ∀ r, row = some r → ∃ c e f, w.heap[r]? = some (.cells c e f)) : NC a w' := fun i o ho hd => by
  have h1 := h i o ho hd
  refine (hg.block i (lt_of_block h1) fun e => ?_).trans h1
  obtain ⟨c, t, f, h2⟩ := hr i e.symm
  rw [h1] at h2
  cases h2
  cases hd

/-- how a round's body may be left -/
def rEnd (J : World → Prop) (X : Code → World → Prop) (W : World) : Exit → Act → World → Prop
  | .normal, _, W' => NC W W' ∧ J W'
  | .ret, _, W' => NC W W' ∧ X .ret W'
  | .exit id, _, W' => NC W W' ∧ X (.exit id) W'
  | .goto t, _, W' => NC W W' ∧ X (.goto t) W'
  | .panic _, _, _ => False
  | .outgrown, _, _ => False

/-- an iterator: it yields the D elements el 0, el 1, .. until a round says no; between two rounds it does S (counted likewise); of a round it asks Kp (counted from the heap's size at its call); it needs N -/
def Iter (P : Program) (gf : FuncId) (lb : Array Value) (D : Nat) (el : Nat → Array Value) (Kp : Nat → World → World → Prop) (S : Nat → World → World → Prop) (N : World → Prop) : Prop :=
  ∀ (l : Nat) (Y : Nat → World → Prop) (Z : World → Prop) (W : World),
    (∀ k A B, Y k A → S W.heap.size A B → Y k B) → (∀ k A, Y k A → N A) →
    (∀ k A, k < D → Y k A → YieldAt Fence.wide 0 P l (el k) A fun e B => (e = .returned (.bool true) ∧ Y (k + 1) B ∧ Kp W.heap.size A B) ∨ (e = .returned (.bool false) ∧ Z B)) →
    Y 0 W → CallsIn Fence.wide 0 P gf (#[.func (.yield l) #[] #[]] ++ lb) W fun e B => (∃ v, e = .returned v) ∧ (Y D B ∨ Z B)

theorem range_law {P : Program} {g : Operand} {ps : Array Tmp} {assign body : Code} {Q : Exit → Act → World → Prop} {a : Act} {w : World} {gf : FuncId} {lb : Array Value}
    (hg : a.eval g = .func (.func gf) #[] lb) (eg : ∀ args w, (callFunc gf args).run P w = .ok (.enter gf args) w)
    {D : Nat} {el : Nat → Array Value} (hps : ∀ k, (el k).size = ps.size)
    {Kp : Nat → World → World → Prop} {S : Nat → World → World → Prop} {N : World → Prop} (hiter : Iter P gf lb D el Kp S N)
    (hKp : ∀ H A B C, Kp H A B → (∀ (b : Nat) (o : Obj), B.heap[b]? = some o → isData o = true → C.heap[b]? = some o) → Kp H A C)
    (hSN : ∀ H A B, S H A B → NC A B)
    (J : Nat → World → Prop) (X : Code → World → Prop)
    (hJb : ∀ k A B, J k A → Book w.heap.size A B → J k B) (hXb : ∀ c A B, X c A → Book w.heap.size A B → X c B)
    (hJS : ∀ k A B, J k A → S (w.heap.size + 2) A B → J k B) (hJN : ∀ k A, J k A → N A) (h0 : J 0 w)
    (hround : ∀ (l k : Nat) (W : World), k < D → J k W → w.heap.size < l → l < W.heap.size →
      assign.wpIn (Fence.wide.inRound l) 0 P (Exit.then (fun a₁ W₁ => NC W W₁ ∧ ∀ W₂, Book w.heap.size W₁ W₂ → W₂.heap.size = W₁.heap.size →
        body.wpIn (Fence.wide.inRound l) 0 P (rEnd (fun W' => J (k + 1) W' ∧ Kp (w.heap.size + 2) W W') X W₂) a₁ W₂) (fun _ _ _ => False))
        { tmps := (ps.zip (el k)).foldl (fun t (p, v) => t.setIfInBounds p v) a.tmps, defers := [] } W)
    (hdone : ∀ (d : Nat) (W : World), w.heap.size ≤ d → J D W → W.heap[d]? = some (.deferred (some [])) → Q .normal { a with defers := { target := .collected d, args := #[] } :: a.defers } W)
    (hstop : ∀ (d : Nat) (c : Code) (W : World), w.heap.size ≤ d → X c W → W.heap[d]? = some (.deferred (some [])) → c.wp P Q { a with defers := { target := .collected d, args := #[] } :: a.defers } W) :
    (Code.rangeFunc g ps assign body).wp P Q a w := by
  refine (wpIn_wide (n := 0)).1 (wpIn_rangeFunc ?_)
  intro fn hfn
  rw [show Fence.wide.round = none from rfl]
  obtain ⟨rec, hrec⟩ : ∃ rec : LoopState → Option Code → Loop, rec = fun st pe => { state := st, pending := pe, fn, tmps := a.tmps, params := ps, assign, body, defers := w.heap.size } := ⟨_, rfl⟩
  obtain ⟨W1, hW1⟩ : ∃ W1, (w.alloc (.deferred (some []))).alloc (.loop (rec .ready none)) = W1 := ⟨_, rfl⟩
  have hz1 : W1.heap.size = w.heap.size + 2 := by rw [← hW1]; simp
  have hL1 : W1.heap[w.heap.size + 1]? = some (.loop (rec .ready none)) := by
    rw [← hW1]; have := World.alloc_heap_new (w.alloc (.deferred (some []))) (.loop (rec .ready none)); rwa [World.size_alloc] at this
  have hK1 : W1.heap[w.heap.size]? = some (.deferred (some [])) := by
    rw [← hW1]; exact (Below.heap_alloc _ _ _ (by simp)).trans (World.alloc_heap_new w _)
  have hJ1 : J 0 W1 := hJb _ _ _ h0 (by rw [← hW1]; exact ((Book.refl _ w).alloc (Nat.le_refl _) _).alloc (by simp) _)
  refine ⟨w.heap.size + 1, [{ target := .collected w.heap.size, args := #[] }], W1, { target := .fn (.func gf) lb, args := #[.func (.yield (w.heap.size + 1)) #[] #[]] }, W1, gf,
    #[.func (.yield (w.heap.size + 1)) #[] #[]] ++ lb, W1, ?_, ?_, ?_, ?_, fun h => by simp [Fence.wide] at h, ?_⟩
  · rw [← hW1, hrec]; exact run_enterLoop_outer _ _ _ _ _
  · simp only [resolve, hg]
    simp [go_sem]
  · intro f' _; trivial
  · simp [invoke, go_sem, eg]
  · refine (hiter (w.heap.size + 1)
      (fun k W => J k W ∧ W.heap[w.heap.size + 1]? = some (.loop (rec .ready none)) ∧ W.heap[w.heap.size]? = some (.deferred (some [])))
      (fun W => ∃ c, X c W ∧ W.heap[w.heap.size + 1]? = some (.loop (rec .done (some c))) ∧ W.heap[w.heap.size]? = some (.deferred (some [])))
      W1 (fun k A B h hs => ⟨hJS _ _ _ h.1 (by rw [← hz1]; exact hs), hSN _ _ _ hs _ _ h.2.1 rfl, hSN _ _ _ hs _ _ h.2.2 rfl⟩) (fun k A h => hJN _ _ h.1) ?_ ⟨hJ1, hL1, hK1⟩).mono ?_
    · rintro k W hk ⟨hj, hl, hd⟩
      have hlt : w.heap.size + 1 < W.heap.size := (Array.getElem?_eq_some_iff.1 hl).1
      have hy := run_yield (P := P) (args := el k) hl (by rw [hrec]; simp [hps])
      rw [hrec] at hy
      refine ⟨fn, _, assign, body, hy, roundIn_of_wpIn hfn ?_⟩
      refine wpIn_mono (hround _ k W hk hj (by omega) hlt) ?_
      rintro e a₁ W₁ hp
      cases e with
      | normal =>
        obtain ⟨hnc, hb⟩ := hp
        have hl1 := hnc _ _ hl rfl
        have hd1 := hnc _ _ hd rfl
        have hlt1 : w.heap.size + 1 < W₁.heap.size := (Array.getElem?_eq_some_iff.1 hl1).1
        refine ⟨_, run_beginRound hl1 (by rw [hrec]), ?_⟩
        have hl2 : (W₁.putObj (w.heap.size + 1) (.loop { rec .ready none with state := .busy })).heap[w.heap.size + 1]? = some (.loop { rec .ready none with state := .busy }) := World.putObj_heap_same hlt1
        have hd2 : (W₁.putObj (w.heap.size + 1) (.loop { rec .ready none with state := .busy })).heap[w.heap.size]? = some (.deferred (some [])) := (World.putObj_heap_other (by omega)).trans hd1
        refine wpIn_mono (hb _ ((Book.refl _ W₁).put (by omega) hl1 rfl _) (by simp)) ?_
        have fin : ∀ (jump : Option Code) (W3 : World), NC (W₁.putObj (w.heap.size + 1) (.loop { rec .ready none with state := .busy })) W3 →
            (Instr.endRound (w.heap.size + 1) jump).run P W3 = .ok (.bool jump.isNone) (W3.putObj (w.heap.size + 1) (.loop (rec (if jump.isNone then .ready else .done) jump))) ∧
            Book w.heap.size W3 (W3.putObj (w.heap.size + 1) (.loop (rec (if jump.isNone then .ready else .done) jump))) ∧
            (W3.putObj (w.heap.size + 1) (.loop (rec (if jump.isNone then .ready else .done) jump))).heap[w.heap.size + 1]? = some (.loop (rec (if jump.isNone then .ready else .done) jump)) ∧
            (W3.putObj (w.heap.size + 1) (.loop (rec (if jump.isNone then .ready else .done) jump))).heap[w.heap.size]? = some (.deferred (some [])) := fun jump W3 hk3 => by
          have hl3 := hk3 _ _ hl2 rfl
          have := run_endRound (P := P) jump hl3
          rw [hrec] at this ⊢
          rw [hrec] at hl3
          exact ⟨this, (Book.refl _ W3).put (by omega) hl3 rfl _, World.putObj_heap_same (Array.getElem?_eq_some_iff.1 hl3).1, (World.putObj_heap_other (by omega)).trans (hk3 _ _ hd2 rfl)⟩
        rintro e a3 W3 hp
        cases e with
        | normal =>
          obtain ⟨hk3, hi3, hkp⟩ := hp
          obtain ⟨hr, hb3, hl4, hk4⟩ := fin none W3 hk3
          rw [← hz1] at hkp
          exact ⟨_, _, hr, .inl ⟨rfl, ⟨hJb _ _ _ hi3 hb3, hl4, hk4⟩, hKp _ _ _ _ hkp hb3.data⟩⟩
        | ret =>
          obtain ⟨hk3, hi3⟩ := hp
          obtain ⟨hr, hb3, hl4, hk4⟩ := fin (some .ret) W3 hk3
          exact ⟨_, _, hr, .inr ⟨rfl, .ret, hXb _ _ _ hi3 hb3, hl4, hk4⟩⟩
        | exit id =>
          obtain ⟨hk3, hi3⟩ := hp
          obtain ⟨hr, hb3, hl4, hk4⟩ := fin (some (.exit id)) W3 hk3
          exact ⟨_, _, hr, .inr ⟨rfl, .exit id, hXb _ _ _ hi3 hb3, hl4, hk4⟩⟩
        | goto t =>
          obtain ⟨hk3, hi3⟩ := hp
          obtain ⟨hr, hb3, hl4, hk4⟩ := fin (some (.goto t)) W3 hk3
          exact ⟨_, _, hr, .inr ⟨rfl, .goto t, hXb _ _ _ hi3 hb3, hl4, hk4⟩⟩
        | panic ch => exact hp.elim
        | outgrown => exact hp.elim
      | ret => exact hp.elim
      | exit id => exact hp.elim
      | goto t => exact hp.elim
      | panic ch => exact hp.elim
      | outgrown => exact hp.elim
    · rintro e W2 ⟨⟨v, rfl⟩, (⟨hj, hl, hk⟩ | ⟨c, hx, hl, hk⟩)⟩
      · exact ⟨none, _, by have := run_endLoop (P := P) hl (by rw [hrec]; simp); rw [hrec] at this; exact this,
          hdone _ _ (Nat.le_refl _) (hJb _ _ _ hj ((Book.refl _ _).put (by omega) hl rfl _)) ((World.putObj_heap_other (by omega)).trans hk)⟩
      · exact ⟨some c, _, by have := run_endLoop (P := P) hl (by rw [hrec]; simp); rw [hrec] at this; exact this,
          (wpIn_wide (n := 0)).2 (hstop _ c _ (Nat.le_refl _) (hXb _ _ _ hx ((Book.refl _ _).put (by omega) hl rfl _)) ((World.putObj_heap_other (by omega)).trans hk))⟩

/-- a function that holds ranges over functions: its body, walked as any -/
theorem calls_of_wp_marks {P : Program} {f : FuncId} {fn : Func} {c : Code} {args : Array Value} {w : World} {R : Ending → World → Prop}
    (hf : P.funcs[f]? = some fn) (hb : fn.body = some c)
    (h : c.wp P (bodyPostM Fence.wide 0 P fn R) { tmps := args ++ Array.replicate (fn.ntmps - args.size) undef, defers := [] } w) : Calls P f args w R :=
  (callsIn_wide (n := 0)).1 (callsIn_of_wp_marks hf hb trivial ((wpIn_wide (n := 0)).2 h))
/-- its end: one mark -/
theorem leaves_one {P : Program} {fn : Func} {R : Ending → World → Prop} {a : Act} {w : World} {d B : Nat} (hd : a.defers = [{ target := .collected d, args := #[] }]) (hk : w.heap[d]? = some (.deferred (some []))) (hB : B ≤ d)
    (h : ∀ w', Book B w w' → ∃ v, (results fn a.tmps).run P w' = .ok v w' ∧ R (.returned v) w') : LeavesInM Fence.wide 0 P fn a.tmps R a.defers .returning w := by
  rw [hd]
  exact ⟨by simp, .inl ⟨_, _, rfl, run_takeDeferred hk, h _ ((Book.refl _ _).put hB hk rfl _)⟩⟩
end Go.Proofs.YtajdgdelhlfniaaGreatDoor
namespace Go.Proofs.YtajdgdelhlfniaaGreatDoor
open Go.RowKit

section
variable {r n : Nat} {P : Program} {ops : Array Oper} {md : Region.Mode} {C : World → Prop}

theorem quiet_no_defer {o : Oper} {a : Act} {w : World} {v : Value} (h : o.quietAt P a C w v) : ∀ c, o.op ≠ .defer c := by
  intro c hc
  unfold Oper.quietAt execOp at h
  rw [hc] at h
  simp only [Sem.run_bind] at h
  cases hr : (resolve a.eval c o.type).run P w with
  | ok d w' => simp [hr, Result.andThen, Oper.quietUpon] at h
  | halt x w' => simp [hr, Result.andThen, Oper.quietUpon] at h

theorem wpRound_of_quiet {o : Oper} {a : Act} {K : Act → Prop} {K' : Act → World → Prop} {Q' : Exit → Act → World → Prop} {w : World} (hw : C w) (h : ∀ a w', C w' → K a → K' a w') (hh : o.quiet P a C K) :
    o.wpIn (Fence.wide.inRound r) n P a w K' Q' := by
  obtain ⟨v, h1, h2⟩ := hh
  have h3 := h1 w hw
  have hnd := quiet_no_defer h3
  unfold Oper.quietAt at h3
  unfold Oper.wpIn
  refine ⟨fun _ _ => trivial, ?_⟩
  rw [Oper.semAt_eq _ _ _ hnd]
  generalize (execOp a.eval o).run P w = res at *
  cases res with
  | ok x w' =>
    cases x <;> simp only [Oper.quietUpon] at h3 <;> simp only [Oper.uponIn]
    case value u =>
      obtain ⟨e1, e2⟩ := h3
      rw [e1, e2]
      exact h _ _ hw h2
    case skip =>
      obtain ⟨e1, e2⟩ := h3
      rw [e1, ← e2]
      exact h _ _ hw h2
    case enter f args =>
      obtain ⟨e1, hc⟩ := h3
      rw [e1]
      refine ⟨fun hd => by simp [Fence.wide] at hd, ?_⟩
      refine show CallsIn Fence.wide _ _ _ _ _ _ from callsIn_wide.2 ?_
      exact hc.mono fun e w'' ⟨he, hw''⟩ => by subst he; exact h _ _ hw'' h2
  | halt x w' => simp only [Oper.quietUpon] at h3

theorem wpOpRound_of_qOp {i : Nat} {a : Act} {K : Act → Prop} {K' : Act → World → Prop} {Q' : Exit → Act → World → Prop} {w : World} (hC : C w) (h : ∀ a w', C w' → K a → K' a w') (hh : qOp P ops C i K a) : wpOpIn (Fence.wide.inRound r) n P ops Q' i K' a w := by
  unfold qOp at hh
  unfold wpOpIn
  split
  · rename_i ho; simp only [ho] at hh; exact h _ _ hC hh
  · rename_i o ho
    simp only [ho] at hh
    split
    · rename_i hw; simp only [hw, if_true] at hh; exact wpRound_of_quiet hC h hh
    · rename_i hw; simp only [hw] at hh; exact ⟨fun _ _ => trivial, h _ _ hC hh⟩

theorem wpAnyRound_of_quiet {Q : Act → Prop} {Q' : Exit → Act → World → Prop} (hQ : ∀ a w, C w → Q a → Q' .normal a w) : ∀ (fuel : Nat) (listed : Array Bool) (a : Act) (w : World), C w →
    wpAnyQ P md ops C Q fuel listed a → wpAnyIn (Fence.wide.inRound r) n P md ops Q' fuel listed a w
  | 0, _, _, _, hw, h => ⟨h.1, hQ _ _ hw h.2⟩
  | fuel + 1, _, _, _, hw, h => ⟨fun h0 => hQ _ _ hw (h.1 h0), fun i hi => wpOpRound_of_qOp hw (fun a' w' hw' => wpAnyRound_of_quiet hQ fuel _ a' w' hw') (h.2 i hi)⟩

theorem round_region_quiet {id : Nat} {Q : Exit → Act → World → Prop} {a : Act} {w : World} (hm : P.follows .mixedOrders = true) (hB : Region.lexB .any ops = true) (hC : C { w with drawn := w.drawn + 1 })
    (h : wpQuiet P ops C (fun a' => ∀ w', C w' → Q .normal a' w') ops.toList a) : (Code.region id ops true).wpIn (Fence.wide.inRound r) n P Q a w := by
  simp only [Region.lexB, Bool.and_eq_true] at hB
  refine wpIn_region_any hm (wpAnyRound_of_quiet (Q := fun a' => ∀ w', C w' → Q .normal a' w') (fun _ w' hw' h => h w' hw') _ _ _ _ hC ?_)
  have := wpAnyQ_lex (C := C) (md := .any) hB.1 ops.toList 0 (Array.replicate ops.size false) a (by simp) (by simpa using hB.2) h
  simpa using this
end
/-- reads only -/
theorem round_region_read {r n : Nat} {P : Program} {id : Nat} {Q : Exit → Act → World → Prop} {a : Act} {w : World} {l : List Oper} (hm : P.follows .mixedOrders = true) (hB : Region.lexB .any l.toArray = true)
    (h : wpQuiet P l.toArray (fun w' => ∃ n, w' = w.drewN n) (fun a' => ∀ w', (∃ n, w' = w.drewN n) → Q .normal a' w') l a) : (Code.region id l.toArray true).wpIn (Fence.wide.inRound r) n P Q a w :=
  round_region_quiet (C := fun w' => ∃ n, w' = w.drewN n) hm hB ⟨1, rfl⟩ (by simpa using h)
theorem round_region_aft {r n : Nat} {P : Program} {id : Nat} {Q : Exit → Act → World → Prop} {a : Act} {w : World} {l : List Oper} (hm : P.follows .mixedOrders = true) (hB : Region.lexB .any l.toArray = true)
    (h : wpQuiet P l.toArray (fun w' => ∃ x : Aft w, w' = x.1) (fun a' => ∀ w', (∃ x : Aft w, w' = x.1) → Q .normal a' w') l a) : (Code.region id l.toArray true).wpIn (Fence.wide.inRound r) n P Q a w :=
  round_region_quiet (C := fun w' => ∃ x : Aft w, w' = x.1) hm hB ⟨⟨w.drew, (Below.refl _ _).drew⟩, rfl⟩ (by simpa using h)
end Go.Proofs.YtajdgdelhlfniaaGreatDoor
namespace Go.Proofs.YtajdgdelhlfniaaGreatDoor
open Go.RowKit Go.Shelf
attribute [local go_sem] Oper.semAt_some

theorem bounds_any (w : World) (iv i wd : Int) (vp vn : Value) :
    Calls Tryz.prog 101 #[.agg #[.int .i64 iv, vp, vn], .int .i64 i, .int .i64 wd] w fun e w' =>
      e = .returned (.func (.func 118) #[] #[.pointer (some ⟨w.heap.size, 0, none⟩), .pointer (some ⟨w.heap.size + 1, 0, none⟩), .pointer (some ⟨w.heap.size + 2, 0, none⟩)]) ∧
      w' = ((w.alloc (.cells #[.int .i64 iv, vp, vn] 104)).alloc (.cells #[.int .i64 i] 3)).alloc (.cells #[.int .i64 wd] 3) := by
  go_enter Tryz.func101, Tryz.ntmps101
  go_wp2
  go_ret
  simp

/-- what the iterator needs -/
structure BN (iv : Int) (i : Nat) (wd : Int) (x : NoteR) (B a : Nat) (A : Option Addr) (n c : Nat) (W : World) : Prop where
  c0 : W.cell? ⟨a, 0, none⟩ = some (.int .i64 iv)
  c2 : W.cell? ⟨a, 2, none⟩ = some (.slice A n c)
  ci : W.cell? ⟨a + 1, 0, none⟩ = some (.int .i64 i)
  cw : W.cell? ⟨a + 2, 0, none⟩ = some (.int .i64 wd)
  nt : ∃ ad, A = some ad ∧ NoteAt W (ad.add (i * 5)) x
def BK (H : Nat) (A B : World) : Prop := ∀ (b : Nat) (cs : Array Value) (T : TypeId) (f : Nat × Nat), H ≤ b → A.heap[b]? = some (.cells cs T f) → B.heap[b]? = some (.cells cs T f)
def BS (H : Nat) (A B : World) : Prop := Below H A B ∧ NC A B
def bndEl (iv wd : Int) (x : NoteR) (k : Nat) : Array Value := #[.agg #[.int .i64 (bnd iv wd x k).1, .int .i64 (bnd iv wd x k).2.1, .int .i64 (bnd iv wd x k).2.2]]

theorem BS.alloc {H : Nat} {A w : World} (h : BS H A w) (hH : H ≤ w.heap.size) (o : Obj) : BS H A (w.alloc o) := ⟨h.1.alloc hH o, h.2.alloc o⟩
theorem BS.below {H : Nat} {A w w' : World} (h : BS H A w) (hb : Below w.heap.size w w') (hH : H ≤ w.heap.size) : BS H A w' := ⟨h.1.trans (hb.mono hH), h.2.of_below hb⟩

/-- what lies there when the first bound is yielded -/
structure Jn (W w : World) (x : NoteR) (lo hi : Int) : Prop where
  keep : BS W.heap.size W w
  nt : w.heap[W.heap.size]? = some (.cells #[.int .i64 x.kind, .int .i64 x.a, .int .i64 x.b, .int .i64 x.lo, .int .i64 x.hi] 69)
  sp : w.heap[W.heap.size + 1]? = some (.cells #[.int .i64 lo, .int .i64 hi] 40)

set_option maxRecDepth 100000 in
set_option maxHeartbeats 4000000 in
theorem bounds_iter {iv wd : Int} {i n c np : Nat} {x : NoteR} {A : Option Addr} (hx : NoteOK np iv x) (hnp : np ≤ 8) (hiv : 1 ≤ iv ∧ iv ≤ 1000) (hwd : 0 ≤ wd ∧ wd ≤ 9000) (hi : i < n) (hn : n ≤ 12) (B a : Nat) :
    Iter Tryz.prog 118 #[.pointer (some ⟨a, 0, none⟩), .pointer (some ⟨a + 1, 0, none⟩), .pointer (some ⟨a + 2, 0, none⟩)] 2 (bndEl iv wd x) BK BS (BN iv i wd x B a A n c) := by
  intro L Y Z W hS hN hR h0
  refine callsIn_wide.2 ?_
  show Calls Tryz.prog 118 #[.func (.yield L) #[] #[], .pointer (some ⟨a, 0, none⟩), .pointer (some ⟨a + 1, 0, none⟩), .pointer (some ⟨a + 2, 0, none⟩)] W _
  have hn0 := hN _ _ h0
  obtain ⟨c0, c2, ci, cw, ad, rfl, n0, n1, n2, n3, n4⟩ := id hn0
  obtain ⟨W1, hW1, r1, z1, b1⟩ := box_any W #[.int .i64 x.kind, .int .i64 x.a, .int .i64 x.b, .int .i64 x.lo, .int .i64 x.hi] 69
  go_enter Tryz.func118, Tryz.ntmps118
  go_upto_region 1 with (fail)
  rw [← hW1]
  clear hW1
  have d0 := cellOf r1 0 rfl
  have d1 := cellOf r1 1 rfl
  have d2 := cellOf r1 2 rfl
  have d3 := cellOf r1 3 rfl
  have d4 := cellOf r1 4 rfl
  clear c0 c2 ci cw n0 n1 n2 n3 n4
  go_upto_region 1 with (fail)
  go_region
  obtain ⟨W2, hW2⟩ : ∃ W2, (W1.alloc (.cells #[.int .i64 x.lo, .int .i64 x.hi] 40)).drew = W2 := ⟨_, rfl⟩
  rw [hW2]
  have z1' := z1
  have r2 : W2.heap[W1.heap.size]? = some (.cells #[.int .i64 x.lo, .int .i64 x.hi] 40) := by rw [← hW2]; exact heap_alloc_new W1 _
  have b2 : Below W1.heap.size W1 W2 := by rw [← hW2]; exact ((Below.refl _ _).alloc (Nat.le_refl _) _).drew
  have nc2 : BS W.heap.size W W2 := by
    have h1 : BS W.heap.size W W1 := ⟨b1, NC.of_below (NC.refl W) b1⟩
    exact h1.below b2 (by omega)
  have r1' := (b2.block _ (by omega)).trans r1
  rw [z1] at r2
  have R1 := Lib.hid r1'
  have R2 := Lib.hid r2
  have NC2 := Lib.hid nc2
  have HZ := Lib.hid (show W.heap.size + 2 = W2.heap.size by rw [← hW2]; simp [z1])
  have H0 := Lib.hid h0
  have HS := Lib.hid hS
  have HN := Lib.hid hN
  have HR := Lib.hid hR
  clear h0 hS hN hR hn0 hW2 b1 b2 nc2 r1 r2 r1' z1 z1' d0 d1 d2 d3 d4
  have d0 := cellOf R1.out 0 rfl
  have d1 := cellOf R1.out 1 rfl
  have d2 := cellOf R1.out 2 rfl
  have d3 := cellOf R1.out 3 rfl
  have d4 := cellOf R1.out 4 rfl
  have e0 := cellOf R2.out 0 rfl
  have e1 := cellOf R2.out 1 rfl
  have HX := Lib.hid hx
  have hkind := hx.kind
  have hends := Lib.hid (noteOK_ends hx hiv.1)
  obtain ⟨m0, m1⟩ := And.intro (bnd_most hx hiv.1 hwd 0) (bnd_most hx hiv.1 hwd 1)
  clear hx
  rcases (show x.kind = 1 ∨ x.kind = 2 ∨ x.kind = 3 ∨ x.kind = 4 by omega) with h | h | h | h
  focus
    have HN1 := Lib.hid (read_is x W2 1 131 h (.inl ⟨rfl, rfl⟩))
    have ht0 := fun (k a b lo hi : Int) (w : World) => ta131_131 k a b lo hi w
    unfold noteV at HN1
    have HK := Lib.hid h
    clear h hkind m0 m1
    go_upto_region 7 with (go_at_call 92; refine HN1.out.mono ?_; rintro e w4 ⟨rfl, hb3⟩)
    have HJ : Hid (Jn W w4 x (x.lo) (x.hi)) := Lib.hid ⟨NC2.out.below hb3 (by have := HZ.out; omega), (hb3.block _ (lt_of_block R1.out)).trans R1.out, (hb3.block _ (lt_of_block R2.out)).trans R2.out⟩
    have HA := Lib.hid (show bndEl iv wd x 0 = #[.agg #[.int .i64 8, .int .i64 x.a, .int .i64 (x.hi + wd)]] by have := HX.out.a; have := HX.out.b; simp [bndEl, bnd, othN, nhi, HK.out]; omega)
    have HB := Lib.hid (show bndEl iv wd x 1 = #[.agg #[.int .i64 x.a, .int .i64 8, .int .i64 (wd - x.lo)]] by have := HX.out.a; have := HX.out.b; simp [bndEl, bnd, othN, nlo, HK.out]; omega)
    have hq : -9000 ≤ x.lo ∧ x.lo ≤ 9000 ∧ -9000 ≤ x.hi ∧ x.hi ≤ 9000 := by have := hends.out; simp only [nlo, nhi, HK.out] at this; simp at this; omega
    obtain ⟨hh, hhe⟩ : ∃ hh, hh = x.hi := ⟨_, rfl⟩
    obtain ⟨hl, hle⟩ : ∃ hl, hl = x.lo := ⟨_, rfl⟩
    rw [← hhe] at HA hq
    rw [← hle] at HB hq
    have HJ : Hid (Jn W w4 x hl hh) := by rw [hhe, hle]; exact HJ
    clear hhe hle
  rotate_left
  focus
    have HN1 := Lib.hid (read_is x W2 2 132 h (.inr (.inl ⟨rfl, rfl⟩)))
    have ht0 := fun (k a b lo hi : Int) (w : World) => ta132_131 k a b lo hi w
    have ht1 := fun (k a b lo hi : Int) (w : World) => ta132_132 k a b lo hi w
    unfold noteV at HN1
    have HK := Lib.hid h
    have hbd := HX.out.band h
    have hlm : 0 ≤ x.lo * iv ∧ x.lo * iv ≤ 9000 := ⟨Int.mul_nonneg hbd.1 (by omega), by have := Int.mul_le_mul_of_nonneg_right (Int.le_of_lt hbd.2.2) (c := iv) (by omega); omega⟩
    have hhm : 0 ≤ x.hi * iv ∧ x.hi * iv ≤ 9000 := ⟨Int.mul_nonneg (by omega) (by omega), hbd.2.1⟩
    clear h hkind m0 m1 hbd
    go_upto_region 5 with (go_at_call 92; refine HN1.out.mono ?_; rintro e w3 ⟨rfl, hb3⟩)
    obtain ⟨g0, g1, g2⟩ : w3.cell? ⟨a, 0, none⟩ = some (.int .i64 iv) ∧ w3.cell? ⟨W.heap.size + 1, 0, none⟩ = some (.int .i64 x.lo) ∧ w3.cell? ⟨W.heap.size + 1, 1, none⟩ = some (.int .i64 x.hi) := by
      have hn3 := HN.out _ _ (HS.out _ _ _ H0.out (NC2.out.below hb3 (by have := HZ.out; omega)))
      have hr := (hb3.block _ (lt_of_block R2.out)).trans R2.out
      exact ⟨hn3.c0, cellOf hr 0 rfl, cellOf hr 1 rfl⟩
    have gf : ∀ n, w3.frozen? ⟨W.heap.size + 1, n, none⟩ = false := fun n => by
      have hr := (hb3.block _ (lt_of_block R2.out)).trans R2.out
      simp [World.frozen?, hr]
    have gf0 := gf 0
    have gf1 := gf 1
    clear gf
    go_upto_region 7 with (fail)
    clear g0 g1 g2 gf0 gf1
    have HJ : Hid (Jn W ((w3.setCell ⟨W.heap.size + 1, 0, none⟩ (.int .i64 (x.lo * iv))).setCell ⟨W.heap.size + 1, 1, none⟩ (.int .i64 (x.hi * iv))) x (x.lo * iv) (x.hi * iv)) := by
      have hk := NC2.out.below hb3 (by have := HZ.out; omega)
      have hr := (hb3.block _ (lt_of_block R2.out)).trans R2.out
      refine Lib.hid ⟨⟨(hk.1.setCell (by show W.heap.size ≤ W.heap.size + 1; omega) _).setCell (by show W.heap.size ≤ W.heap.size + 1; omega) _, (hk.2.setCell _ _).setCell _ _⟩, ?_, heap_setCell_row (heap_setCell_row hr _) _⟩
      rw [Below.heap_setCell _ _ _ _ (by show W.heap.size ≠ W.heap.size + 1; omega), Below.heap_setCell _ _ _ _ (by show W.heap.size ≠ W.heap.size + 1; omega)]
      exact (hb3.block _ (lt_of_block R1.out)).trans R1.out
    generalize (w3.setCell ⟨W.heap.size + 1, 0, none⟩ (.int .i64 (x.lo * iv))).setCell ⟨W.heap.size + 1, 1, none⟩ (.int .i64 (x.hi * iv)) = w4 at HJ ⊢
    have HA := Lib.hid (show bndEl iv wd x 0 = #[.agg #[.int .i64 8, .int .i64 x.a, .int .i64 (x.hi * iv + wd)]] by have := HX.out.a; have := HX.out.b; simp [bndEl, bnd, othN, nhi, HK.out]; omega)
    have HB := Lib.hid (show bndEl iv wd x 1 = #[.agg #[.int .i64 x.a, .int .i64 8, .int .i64 (wd - x.lo * iv)]] by have := HX.out.a; have := HX.out.b; simp [bndEl, bnd, othN, nlo, HK.out]; omega)
    have hq : -9000 ≤ x.lo * iv ∧ x.lo * iv ≤ 9000 ∧ -9000 ≤ x.hi * iv ∧ x.hi * iv ≤ 9000 := by have := hends.out; simp only [nlo, nhi, HK.out] at this; omega
    generalize x.hi * iv = hh at *
    generalize x.lo * iv = hl at *
  rotate_left
  focus
    have HN1 := Lib.hid (read_is x W2 3 159 h (.inr (.inr (.inl ⟨rfl, rfl⟩))))
    have ht0 := fun (k a b lo hi : Int) (w : World) => ta159_131 k a b lo hi w
    have ht1 := fun (k a b lo hi : Int) (w : World) => ta159_132 k a b lo hi w
    unfold noteV at HN1
    have HK := Lib.hid h
    clear h hkind m0 m1
    go_upto_region 7 with (go_at_call 92; refine HN1.out.mono ?_; rintro e w4 ⟨rfl, hb3⟩)
    have HJ : Hid (Jn W w4 x (x.lo) (x.hi)) := Lib.hid ⟨NC2.out.below hb3 (by have := HZ.out; omega), (hb3.block _ (lt_of_block R1.out)).trans R1.out, (hb3.block _ (lt_of_block R2.out)).trans R2.out⟩
    have HA := Lib.hid (show bndEl iv wd x 0 = #[.agg #[.int .i64 x.b, .int .i64 x.a, .int .i64 (x.hi + wd)]] by have := HX.out.a; have := HX.out.b; simp [bndEl, bnd, othN, nhi, HK.out]; omega)
    have HB := Lib.hid (show bndEl iv wd x 1 = #[.agg #[.int .i64 x.a, .int .i64 x.b, .int .i64 (wd - x.lo)]] by have := HX.out.a; have := HX.out.b; simp [bndEl, bnd, othN, nlo, HK.out]; omega)
    have hq : -9000 ≤ x.lo ∧ x.lo ≤ 9000 ∧ -9000 ≤ x.hi ∧ x.hi ≤ 9000 := by have := hends.out; simp only [nlo, nhi, HK.out] at this; simp at this; omega
    obtain ⟨hh, hhe⟩ : ∃ hh, hh = x.hi := ⟨_, rfl⟩
    obtain ⟨hl, hle⟩ : ∃ hl, hl = x.lo := ⟨_, rfl⟩
    rw [← hhe] at HA hq
    rw [← hle] at HB hq
    have HJ : Hid (Jn W w4 x hl hh) := by rw [hhe, hle]; exact HJ
    clear hhe hle
  rotate_left
  focus
    have HN1 := Lib.hid (read_is x W2 4 133 h (.inr (.inr (.inr ⟨rfl, rfl⟩))))
    have ht0 := fun (k a b lo hi : Int) (w : World) => ta133_131 k a b lo hi w
    have ht1 := fun (k a b lo hi : Int) (w : World) => ta133_132 k a b lo hi w
    unfold noteV at HN1
    have HK := Lib.hid h
    clear h hkind m0 m1
    go_upto_region 7 with (go_at_call 92; refine HN1.out.mono ?_; rintro e w4 ⟨rfl, hb3⟩)
    have HJ : Hid (Jn W w4 x (x.lo) (x.hi)) := Lib.hid ⟨NC2.out.below hb3 (by have := HZ.out; omega), (hb3.block _ (lt_of_block R1.out)).trans R1.out, (hb3.block _ (lt_of_block R2.out)).trans R2.out⟩
    have HA := Lib.hid (show bndEl iv wd x 0 = #[.agg #[.int .i64 x.b, .int .i64 x.a, .int .i64 (x.hi + wd)]] by have := HX.out.a; have := HX.out.b; simp [bndEl, bnd, othN, nhi, HK.out]; omega)
    have HB := Lib.hid (show bndEl iv wd x 1 = #[.agg #[.int .i64 x.a, .int .i64 x.b, .int .i64 (wd - x.lo)]] by have := HX.out.a; have := HX.out.b; simp [bndEl, bnd, othN, nlo, HK.out]; omega)
    have hq : -9000 ≤ x.lo ∧ x.lo ≤ 9000 ∧ -9000 ≤ x.hi ∧ x.hi ≤ 9000 := by have := hends.out; simp only [nlo, nhi, HK.out] at this; simp at this; omega
    obtain ⟨hh, hhe⟩ : ∃ hh, hh = x.hi := ⟨_, rfl⟩
    obtain ⟨hl, hle⟩ : ∃ hl, hl = x.lo := ⟨_, rfl⟩
    rw [← hhe] at HA hq
    rw [← hle] at HB hq
    have HJ : Hid (Jn W w4 x hl hh) := by rw [hhe, hle]; exact HJ
    clear hhe hle
  rotate_left
  all_goals
    have hY : Y 0 w4 := HS.out _ _ _ H0.out HJ.out.keep
    have hn4 := HN.out _ _ hY
    have cw := hn4.cw
    have d1 := cellOf HJ.out.nt 1 rfl
    have e0 := cellOf HJ.out.sp 0 rfl
    have e1 := cellOf HJ.out.sp 1 rfl
    obtain ⟨fn, tmps, assign, body, hy, hRR⟩ := HR.out 0 w4 (by omega) hY
    rw [HA.out] at hy
    have HRR := Lib.hid hRR
    clear hn4 hRR
    refine (wpIn_wide (n := 0)).1 ?_
    gi_wp2
    refine ⟨rfl, HRR.out.mono ?_⟩
    rintro e W' (⟨rfl, hY', hK⟩ | ⟨rfl, hZ⟩)
    · have hn5 := HN.out _ _ hY'
      have cw' := hn5.cw
      have d1' := cellOf (hK _ _ _ _ (Nat.le_refl _) HJ.out.nt) 1 rfl
      have e0' := cellOf (hK _ _ _ _ (Nat.le_succ _) HJ.out.sp) 0 rfl
      obtain ⟨fn2, tmps2, assign2, body2, hy2, hRR2⟩ := HR.out 1 W' (by omega) hY'
      rw [HB.out] at hy2
      have HRR2 := Lib.hid hRR2
      clear hn5 hRR2 hK hy
      gi_wp2
      go_upto_region 8 with (fail)
      refine (wpIn_wide (n := 0)).1 ?_
      gi_wp2
      refine ⟨rfl, HRR2.out.mono ?_⟩
      rintro e W'' (⟨rfl, hY'', _⟩ | ⟨rfl, hZ⟩)
      · gi_wp2
        go_wp2
        go_end0
        exact ⟨⟨_, rfl⟩, .inl hY''⟩
      · gi_wp2
        go_wp2
        go_end0
        exact ⟨⟨_, rfl⟩, .inr hZ⟩
    · gi_wp2
      go_wp2
      go_end0
      exact ⟨⟨_, rfl⟩, .inr hZ⟩
end Go.Proofs.YtajdgdelhlfniaaGreatDoor
