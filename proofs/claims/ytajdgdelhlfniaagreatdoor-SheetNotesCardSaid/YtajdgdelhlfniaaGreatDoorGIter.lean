/- A range over a function, by one law of our own: an iterator that may write a map that lay there before, and a body that may write the caller's own cells. A region that draws its order, inside a round of a range over a function. A range over a function whose round is one statement that may panic: our own law. -/
import Derived.RangeFuncRecord
import Derived.Shelf.Abstract
import Derived.Shelf.RegionOpen
import Derived.RangeFuncSeq
import Derived.RangeFuncLeaves
import Derived.TacticsInMore
import Derived.OwnWalkIn
import Derived.LoopNIn
import Derived.LoopIn
import Derived.WalkSmall
import Derived.Test.YtajdgdelhlfniaaGreatDoorGPure
import Derived.OrdersIn
import Derived.Deep.Quiet
set_option linter.unusedSimpArgs false
set_option linter.unusedVariables false
namespace Go.Proofs.YtajdgdelhlfniaaGreatDoor
open Go.RowKit Go.Shelf

/-- objects that hold a program's data -/
def isData : Obj → Bool
  | .cells .. | .map .. | .stringIter .. | .mapIter .. => true
  | _ => false
/-- what a loop's own book-keeping does: blocks from B on that hold no data -/
structure Book (B : Nat) (w w' : World) : Prop where
  below : Below B w w'
  data : ∀ (b : Nat) (o : Obj), w.heap[b]? = some o → isData o = true → w'.heap[b]? = some o
/-- what holds no data lies as it lay -/
def NC (w w' : World) : Prop := ∀ (b : Nat) (o : Obj), w.heap[b]? = some o → isData o = false → w'.heap[b]? = some o

theorem Book.refl (B : Nat) (w : World) : Book B w w := ⟨Below.refl _ _, fun _ _ h _ => h⟩
theorem Book.trans {B : Nat} {a b c : World} (h : Book B a b) (k : Book B b c) : Book B a c := ⟨h.below.trans k.below, fun i o ho hd => k.data i o (h.data i o ho hd) hd⟩
theorem Book.alloc {B : Nat} {a w : World} (h : Book B a w) (hB : B ≤ w.heap.size) (o : Obj) : Book B a (w.alloc o) :=
  ⟨h.below.alloc hB o, fun i p hp hd => (Below.heap_alloc w o i (lt_of_block (h.data i p hp hd))).trans (h.data i p hp hd)⟩
theorem Book.put {B r : Nat} {a w : World} {o : Obj} (h : Book B a w) (hr : B ≤ r) (ho : w.heap[r]? = some o) (hd : isData o = false) (o' : Obj) : Book B a (w.putObj r o') := by
  refine ⟨h.below.trans ⟨rfl, rfl, rfl, by simp, fun k hk => World.putObj_heap_other (by omega)⟩, fun i p hp hpd => ?_⟩
  have h1 := h.data i p hp hpd
  by_cases e : i = r
  · subst e
    rw [ho] at h1
    cases h1
    rw [hd] at hpd
    cases hpd
  · exact (World.putObj_heap_other e).trans h1
theorem Book.cell {B : Nat} {w w' : World} (h : Book B w w') {a : Addr} {v : Value} (hc : w.cell? a = some v) : w'.cell? a = some v := by
  unfold World.cell? at *
  cases ho : w.heap[a.block]? with
  | none => simp [ho] at hc
  | some o =>
    cases o with
    | cells c e f => rw [h.data _ _ ho rfl]; simpa [ho] using hc
    | _ => simp [ho] at hc

theorem NC.refl (w : World) : NC w w := fun _ _ h _ => h
theorem NC.trans {a b c : World} (h : NC a b) (k : NC b c) : NC a c := fun i o ho hd => k i o (h i o ho hd) hd
theorem NC.alloc {a w : World} (h : NC a w) (o : Obj) : NC a (w.alloc o) := fun i p hp hd => (Below.heap_alloc w o i (lt_of_block (h i p hp hd))).trans (h i p hp hd)
theorem NC.of_below {a w w' : World} (h : NC a w) (hb : Below w.heap.size w w') : NC a w' := fun i p hp hd => (hb.block i (lt_of_block (h i p hp hd))).trans (h i p hp hd)
theorem NC.drewN {a w : World} (h : NC a w) (n : Nat) : NC a (w.drewN n) := h
theorem NC.setCell {a w : World} (h : NC a w) (p : Addr) (v : Value) : NC a (w.setCell p v) := fun i o ho hd => by
  have h1 := h i o ho hd
  by_cases e : i = p.block
  · subst e
    simp only [World.setCell, Array.getElem?_modify, h1, if_true, Option.map_some]
    cases o <;> first | rfl | (simp [isData] at hd)
  · exact (Below.heap_setCell w p v i e).trans h1
theorem NC.grown {a w w' : World} {row : Option Nat} (h : NC a w) (hg : w.grownBy w' row) (hr : ∀ r, row = some r → ∃ c e f, w.heap[r]? = some (.cells c e f)) : NC a w' := fun i o ho hd => by
  have h1 := h i o ho hd
  refine (hg.block i (lt_of_block h1) fun e => ?_).trans h1
  obtain ⟨c, t, f, h2⟩ := hr i e.symm
  rw [h1] at h2
  cases h2
  cases hd

/-- how a round's body may be left -/
def rEnd (J : World → Prop) (X : Code → World → Prop) (W : World) : Exit → Act → World → Prop
  | .normal, _, W' => NC W W' ∧ J W'
  | .ret, _, W' => NC W W' ∧ X .ret W'
  | .exit id, _, W' => NC W W' ∧ X (.exit id) W'
  | .goto t, _, W' => NC W W' ∧ X (.goto t) W'
  | .panic _, _, _ => False
  | .outgrown, _, _ => False

/-- an iterator: it yields the D elements el 0, el 1, .. until a round says no; between two rounds it does S (counted likewise); of a round it asks Kp (counted from the heap's size at its call); it needs N -/
def Iter (P : Program) (gf : FuncId) (lb : Array Value) (D : Nat) (el : Nat → Array Value) (Kp : Nat → World → World → Prop) (S : Nat → World → World → Prop) (N : World → Prop) : Prop :=
  ∀ (l : Nat) (Y : Nat → World → Prop) (Z : World → Prop) (W : World),
    (∀ k A B, Y k A → S W.heap.size A B → Y k B) → (∀ k A, Y k A → N A) →
    (∀ k A, k < D → Y k A → YieldAt Fence.wide 0 P l (el k) A fun e B => (e = .returned (.bool true) ∧ Y (k + 1) B ∧ Kp W.heap.size A B) ∨ (e = .returned (.bool false) ∧ Z B)) →
    Y 0 W → CallsIn Fence.wide 0 P gf (#[.func (.yield l) #[] #[]] ++ lb) W fun e B => (∃ v, e = .returned v) ∧ (Y D B ∨ Z B)

theorem range_law {P : Program} {g : Operand} {ps : Array Tmp} {assign body : Code} {Q : Exit → Act → World → Prop} {a : Act} {w : World} {gf : FuncId} {lb : Array Value}
    (hg : a.eval g = .func (.func gf) #[] lb) (eg : ∀ args w, (callFunc gf args).run P w = .ok (.enter gf args) w)
    {D : Nat} {el : Nat → Array Value} (hps : ∀ k, (el k).size = ps.size)
    {Kp : Nat → World → World → Prop} {S : Nat → World → World → Prop} {N : World → Prop} (hiter : Iter P gf lb D el Kp S N)
    (hKp : ∀ H A B C, Kp H A B → (∀ (b : Nat) (o : Obj), B.heap[b]? = some o → isData o = true → C.heap[b]? = some o) → Kp H A C)
    (hSN : ∀ H A B, S H A B → NC A B)
    (J : Nat → World → Prop) (X : Code → World → Prop)
    (hJb : ∀ k A B, J k A → Book w.heap.size A B → J k B) (hXb : ∀ c A B, X c A → Book w.heap.size A B → X c B)
    (hJS : ∀ k A B, J k A → S (w.heap.size + 2) A B → J k B) (hJN : ∀ k A, J k A → N A) (h0 : J 0 w)
    (hround : ∀ (l k : Nat) (W : World), k < D → J k W → w.heap.size < l → l < W.heap.size →
      assign.wpIn (Fence.wide.inRound l) 0 P (Exit.then (fun a₁ W₁ => NC W W₁ ∧ ∀ W₂, Book w.heap.size W₁ W₂ → W₂.heap.size = W₁.heap.size →
        body.wpIn (Fence.wide.inRound l) 0 P (rEnd (fun W' => J (k + 1) W' ∧ Kp (w.heap.size + 2) W W') X W₂) a₁ W₂) (fun _ _ _ => False))
        { tmps := (ps.zip (el k)).foldl (fun t (p, v) => t.setIfInBounds p v) a.tmps, defers := [] } W)
    (hdone : ∀ (d : Nat) (W : World), w.heap.size ≤ d → J D W → W.heap[d]? = some (.deferred (some [])) → Q .normal { a with defers := { target := .collected d, args := #[] } :: a.defers } W)
    (hstop : ∀ (d : Nat) (c : Code) (W : World), w.heap.size ≤ d → X c W → W.heap[d]? = some (.deferred (some [])) → c.wp P Q { a with defers := { target := .collected d, args := #[] } :: a.defers } W) :
    (Code.rangeFunc g ps assign body).wp P Q a w := by
  refine (wpIn_wide (n := 0)).1 (wpIn_rangeFunc ?_)
  intro fn hfn
  rw [show Fence.wide.round = none from rfl]
  obtain ⟨rec, hrec⟩ : ∃ rec : LoopState → Option Code → Loop, rec = fun st pe => { state := st, pending := pe, fn, tmps := a.tmps, params := ps, assign, body, defers := w.heap.size } := ⟨_, rfl⟩
  obtain ⟨W1, hW1⟩ : ∃ W1, (w.alloc (.deferred (some []))).alloc (.loop (rec .ready none)) = W1 := ⟨_, rfl⟩
  have hz1 : W1.heap.size = w.heap.size + 2 := by rw [← hW1]; simp
  have hL1 : W1.heap[w.heap.size + 1]? = some (.loop (rec .ready none)) := by
    rw [← hW1]; have := World.alloc_heap_new (w.alloc (.deferred (some []))) (.loop (rec .ready none)); rwa [World.size_alloc] at this
  have hK1 : W1.heap[w.heap.size]? = some (.deferred (some [])) := by
    rw [← hW1]; exact (Below.heap_alloc _ _ _ (by simp)).trans (World.alloc_heap_new w _)
  have hJ1 : J 0 W1 := hJb _ _ _ h0 (by rw [← hW1]; exact ((Book.refl _ w).alloc (Nat.le_refl _) _).alloc (by simp) _)
  refine ⟨w.heap.size + 1, [{ target := .collected w.heap.size, args := #[] }], W1, { target := .fn (.func gf) lb, args := #[.func (.yield (w.heap.size + 1)) #[] #[]] }, W1, gf,
    #[.func (.yield (w.heap.size + 1)) #[] #[]] ++ lb, W1, ?_, ?_, ?_, ?_, fun h => by simp [Fence.wide] at h, ?_⟩
  · rw [← hW1, hrec]; exact run_enterLoop_outer _ _ _ _ _
  · simp only [resolve, hg]
    simp [go_sem]
  · intro f' _; trivial
  · simp [invoke, go_sem, eg]
  · refine (hiter (w.heap.size + 1)
      (fun k W => J k W ∧ W.heap[w.heap.size + 1]? = some (.loop (rec .ready none)) ∧ W.heap[w.heap.size]? = some (.deferred (some [])))
      (fun W => ∃ c, X c W ∧ W.heap[w.heap.size + 1]? = some (.loop (rec .done (some c))) ∧ W.heap[w.heap.size]? = some (.deferred (some [])))
      W1 (fun k A B h hs => ⟨hJS _ _ _ h.1 (by rw [← hz1]; exact hs), hSN _ _ _ hs _ _ h.2.1 rfl, hSN _ _ _ hs _ _ h.2.2 rfl⟩) (fun k A h => hJN _ _ h.1) ?_ ⟨hJ1, hL1, hK1⟩).mono ?_
    · rintro k W hk ⟨hj, hl, hd⟩
      have hlt : w.heap.size + 1 < W.heap.size := (Array.getElem?_eq_some_iff.1 hl).1
      have hy := run_yield (P := P) (args := el k) hl (by rw [hrec]; simp [hps])
      rw [hrec] at hy
      refine ⟨fn, _, assign, body, hy, roundIn_of_wpIn hfn ?_⟩
      refine wpIn_mono (hround _ k W hk hj (by omega) hlt) ?_
      rintro e a₁ W₁ hp
      cases e with
      | normal =>
        obtain ⟨hnc, hb⟩ := hp
        have hl1 := hnc _ _ hl rfl
        have hd1 := hnc _ _ hd rfl
        have hlt1 : w.heap.size + 1 < W₁.heap.size := (Array.getElem?_eq_some_iff.1 hl1).1
        refine ⟨_, run_beginRound hl1 (by rw [hrec]), ?_⟩
        have hl2 : (W₁.putObj (w.heap.size + 1) (.loop { rec .ready none with state := .busy })).heap[w.heap.size + 1]? = some (.loop { rec .ready none with state := .busy }) := World.putObj_heap_same hlt1
        have hd2 : (W₁.putObj (w.heap.size + 1) (.loop { rec .ready none with state := .busy })).heap[w.heap.size]? = some (.deferred (some [])) := (World.putObj_heap_other (by omega)).trans hd1
        refine wpIn_mono (hb _ ((Book.refl _ W₁).put (by omega) hl1 rfl _) (by simp)) ?_
        have fin : ∀ (jump : Option Code) (W3 : World), NC (W₁.putObj (w.heap.size + 1) (.loop { rec .ready none with state := .busy })) W3 →
            (Instr.endRound (w.heap.size + 1) jump).run P W3 = .ok (.bool jump.isNone) (W3.putObj (w.heap.size + 1) (.loop (rec (if jump.isNone then .ready else .done) jump))) ∧
            Book w.heap.size W3 (W3.putObj (w.heap.size + 1) (.loop (rec (if jump.isNone then .ready else .done) jump))) ∧
            (W3.putObj (w.heap.size + 1) (.loop (rec (if jump.isNone then .ready else .done) jump))).heap[w.heap.size + 1]? = some (.loop (rec (if jump.isNone then .ready else .done) jump)) ∧
            (W3.putObj (w.heap.size + 1) (.loop (rec (if jump.isNone then .ready else .done) jump))).heap[w.heap.size]? = some (.deferred (some [])) := fun jump W3 hk3 => by
          have hl3 := hk3 _ _ hl2 rfl
          have := run_endRound (P := P) jump hl3
          rw [hrec] at this ⊢
          rw [hrec] at hl3
          exact ⟨this, (Book.refl _ W3).put (by omega) hl3 rfl _, World.putObj_heap_same (Array.getElem?_eq_some_iff.1 hl3).1, (World.putObj_heap_other (by omega)).trans (hk3 _ _ hd2 rfl)⟩
        rintro e a3 W3 hp
        cases e with
        | normal =>
          obtain ⟨hk3, hi3, hkp⟩ := hp
          obtain ⟨hr, hb3, hl4, hk4⟩ := fin none W3 hk3
          rw [← hz1] at hkp
          exact ⟨_, _, hr, .inl ⟨rfl, ⟨hJb _ _ _ hi3 hb3, hl4, hk4⟩, hKp _ _ _ _ hkp hb3.data⟩⟩
        | ret =>
          obtain ⟨hk3, hi3⟩ := hp
          obtain ⟨hr, hb3, hl4, hk4⟩ := fin (some .ret) W3 hk3
          exact ⟨_, _, hr, .inr ⟨rfl, .ret, hXb _ _ _ hi3 hb3, hl4, hk4⟩⟩
        | exit id =>
          obtain ⟨hk3, hi3⟩ := hp
          obtain ⟨hr, hb3, hl4, hk4⟩ := fin (some (.exit id)) W3 hk3
          exact ⟨_, _, hr, .inr ⟨rfl, .exit id, hXb _ _ _ hi3 hb3, hl4, hk4⟩⟩
        | goto t =>
          obtain ⟨hk3, hi3⟩ := hp
          obtain ⟨hr, hb3, hl4, hk4⟩ := fin (some (.goto t)) W3 hk3
          exact ⟨_, _, hr, .inr ⟨rfl, .goto t, hXb _ _ _ hi3 hb3, hl4, hk4⟩⟩
        | panic ch => exact hp.elim
        | outgrown => exact hp.elim
      | ret => exact hp.elim
      | exit id => exact hp.elim
      | goto t => exact hp.elim
      | panic ch => exact hp.elim
      | outgrown => exact hp.elim
    · rintro e W2 ⟨⟨v, rfl⟩, (⟨hj, hl, hk⟩ | ⟨c, hx, hl, hk⟩)⟩
      · exact ⟨none, _, by have := run_endLoop (P := P) hl (by rw [hrec]; simp); rw [hrec] at this; exact this,
          hdone _ _ (Nat.le_refl _) (hJb _ _ _ hj ((Book.refl _ _).put (by omega) hl rfl _)) ((World.putObj_heap_other (by omega)).trans hk)⟩
      · exact ⟨some c, _, by have := run_endLoop (P := P) hl (by rw [hrec]; simp); rw [hrec] at this; exact this,
          (wpIn_wide (n := 0)).2 (hstop _ c _ (Nat.le_refl _) (hXb _ _ _ hx ((Book.refl _ _).put (by omega) hl rfl _)) ((World.putObj_heap_other (by omega)).trans hk))⟩

/-- a function that holds ranges over functions: its body, walked as any -/
theorem calls_of_wp_marks {P : Program} {f : FuncId} {fn : Func} {c : Code} {args : Array Value} {w : World} {R : Ending → World → Prop}
    (hf : P.funcs[f]? = some fn) (hb : fn.body = some c)
    (h : c.wp P (bodyPostM Fence.wide 0 P fn R) { tmps := args ++ Array.replicate (fn.ntmps - args.size) undef, defers := [] } w) : Calls P f args w R :=
  (callsIn_wide (n := 0)).1 (callsIn_of_wp_marks hf hb trivial ((wpIn_wide (n := 0)).2 h))
/-- its end: one mark -/
theorem leaves_one {P : Program} {fn : Func} {R : Ending → World → Prop} {a : Act} {w : World} {d B : Nat} (hd : a.defers = [{ target := .collected d, args := #[] }]) (hk : w.heap[d]? = some (.deferred (some []))) (hB : B ≤ d)
    (h : ∀ w', Book B w w' → ∃ v, (results fn a.tmps).run P w' = .ok v w' ∧ R (.returned v) w') : LeavesInM Fence.wide 0 P fn a.tmps R a.defers .returning w := by
  rw [hd]
  exact ⟨by simp, .inl ⟨_, _, rfl, run_takeDeferred hk, h _ ((Book.refl _ _).put hB hk rfl _)⟩⟩
end Go.Proofs.YtajdgdelhlfniaaGreatDoor
namespace Go.Proofs.YtajdgdelhlfniaaGreatDoor
open Go.RowKit

section
variable {r n : Nat} {P : Program} {ops : Array Oper} {md : Region.Mode} {C : World → Prop}

theorem quiet_no_defer {o : Oper} {a : Act} {w : World} {v : Value} (h : o.quietAt P a C w v) : ∀ c, o.op ≠ .defer c := by
  intro c hc
  unfold Oper.quietAt execOp at h
  rw [hc] at h
  simp only [Sem.run_bind] at h
  cases hr : (resolve a.eval c o.type).run P w with
  | ok d w' => simp [hr, Result.andThen, Oper.quietUpon] at h
  | halt x w' => simp [hr, Result.andThen, Oper.quietUpon] at h

theorem wpRound_of_quiet {o : Oper} {a : Act} {K : Act → Prop} {K' : Act → World → Prop} {Q' : Exit → Act → World → Prop} {w : World} (hw : C w) (h : ∀ a w', C w' → K a → K' a w') (hh : o.quiet P a C K) :
    o.wpIn (Fence.wide.inRound r) n P a w K' Q' := by
  obtain ⟨v, h1, h2⟩ := hh
  have h3 := h1 w hw
  have hnd := quiet_no_defer h3
  unfold Oper.quietAt at h3
  unfold Oper.wpIn
  refine ⟨fun _ _ => trivial, ?_⟩
  rw [Oper.semAt_eq _ _ _ hnd]
  generalize (execOp a.eval o).run P w = res at *
  cases res with
  | ok x w' =>
    cases x <;> simp only [Oper.quietUpon] at h3 <;> simp only [Oper.uponIn]
    case value u =>
      obtain ⟨e1, e2⟩ := h3
      rw [e1, e2]
      exact h _ _ hw h2
    case skip =>
      obtain ⟨e1, e2⟩ := h3
      rw [e1, ← e2]
      exact h _ _ hw h2
    case enter f args =>
      obtain ⟨e1, hc⟩ := h3
      rw [e1]
      refine ⟨fun hd => by simp [Fence.wide] at hd, ?_⟩
      refine show CallsIn Fence.wide _ _ _ _ _ _ from callsIn_wide.2 ?_
      exact hc.mono fun e w'' ⟨he, hw''⟩ => by subst he; exact h _ _ hw'' h2
  | halt x w' => simp only [Oper.quietUpon] at h3

theorem wpOpRound_of_qOp {i : Nat} {a : Act} {K : Act → Prop} {K' : Act → World → Prop} {Q' : Exit → Act → World → Prop} {w : World} (hC : C w) (h : ∀ a w', C w' → K a → K' a w') (hh : qOp P ops C i K a) : wpOpIn (Fence.wide.inRound r) n P ops Q' i K' a w := by
  unfold qOp at hh
  unfold wpOpIn
  split
  · rename_i ho; simp only [ho] at hh; exact h _ _ hC hh
  · rename_i o ho
    simp only [ho] at hh
    split
    · rename_i hw; simp only [hw, if_true] at hh; exact wpRound_of_quiet hC h hh
    · rename_i hw; simp only [hw] at hh; exact ⟨fun _ _ => trivial, h _ _ hC hh⟩

theorem wpAnyRound_of_quiet {Q : Act → Prop} {Q' : Exit → Act → World → Prop} (hQ : ∀ a w, C w → Q a → Q' .normal a w) : ∀ (fuel : Nat) (listed : Array Bool) (a : Act) (w : World), C w →
    wpAnyQ P md ops C Q fuel listed a → wpAnyIn (Fence.wide.inRound r) n P md ops Q' fuel listed a w
  | 0, _, _, _, hw, h => ⟨h.1, hQ _ _ hw h.2⟩
  | fuel + 1, _, _, _, hw, h => ⟨fun h0 => hQ _ _ hw (h.1 h0), fun i hi => wpOpRound_of_qOp hw (fun a' w' hw' => wpAnyRound_of_quiet hQ fuel _ a' w' hw') (h.2 i hi)⟩

theorem round_region_quiet {id : Nat} {Q : Exit → Act → World → Prop} {a : Act} {w : World} (hm : P.follows .mixedOrders = true) (hB : Region.lexB .any ops = true) (hC : C { w with drawn := w.drawn + 1 })
    (h : wpQuiet P ops C (fun a' => ∀ w', C w' → Q .normal a' w') ops.toList a) : (Code.region id ops true).wpIn (Fence.wide.inRound r) n P Q a w := by
  simp only [Region.lexB, Bool.and_eq_true] at hB
  refine wpIn_region_any hm (wpAnyRound_of_quiet (Q := fun a' => ∀ w', C w' → Q .normal a' w') (fun _ w' hw' h => h w' hw') _ _ _ _ hC ?_)
  have := wpAnyQ_lex (C := C) (md := .any) hB.1 ops.toList 0 (Array.replicate ops.size false) a (by simp) (by simpa using hB.2) h
  simpa using this
end
/-- reads only -/
theorem round_region_read {r n : Nat} {P : Program} {id : Nat} {Q : Exit → Act → World → Prop} {a : Act} {w : World} {l : List Oper} (hm : P.follows .mixedOrders = true) (hB : Region.lexB .any l.toArray = true)
    (h : wpQuiet P l.toArray (fun w' => ∃ n, w' = w.drewN n) (fun a' => ∀ w', (∃ n, w' = w.drewN n) → Q .normal a' w') l a) : (Code.region id l.toArray true).wpIn (Fence.wide.inRound r) n P Q a w :=
  round_region_quiet (C := fun w' => ∃ n, w' = w.drewN n) hm hB ⟨1, rfl⟩ (by simpa using h)
theorem round_region_aft {r n : Nat} {P : Program} {id : Nat} {Q : Exit → Act → World → Prop} {a : Act} {w : World} {l : List Oper} (hm : P.follows .mixedOrders = true) (hB : Region.lexB .any l.toArray = true)
    (h : wpQuiet P l.toArray (fun w' => ∃ x : Aft w, w' = x.1) (fun a' => ∀ w', (∃ x : Aft w, w' = x.1) → Q .normal a' w') l a) : (Code.region id l.toArray true).wpIn (Fence.wide.inRound r) n P Q a w :=
  round_region_quiet (C := fun w' => ∃ x : Aft w, w' = x.1) hm hB ⟨⟨w.drew, (Below.refl _ _).drew⟩, rfl⟩ (by simpa using h)
end Go.Proofs.YtajdgdelhlfniaaGreatDoor
namespace Go.Proofs.YtajdgdelhlfniaaGreatDoor
open Go.RowKit Go.Shelf

section
variable {F : Fence} {n : Nat} {P : Program}
/-- a frame that dies within a statement dies at its caller -/
theorem step_up_died {b c : Frame} {a : Act} {ops : Array Oper} {l : List Nat} {k : List Item} {cs : List Frame} {w : World} {chain : List PanicEntry} (hd : a.defers = []) :
    step P (lone { b.atR a (.inRegion ops l :: k) with mode := .panicking chain } (c :: cs) w) = .next (lone (c.raise chain) cs w) :=
  step_lone_go (by
    have hd' : ({ b.atR a (.inRegion ops l :: k) with mode := .panicking chain } : Frame).defers = [] := hd
    have ht : ({ b.atR a (.inRegion ops l :: k) with mode := .panicking chain } : Frame).todo = .inRegion ops l :: k := rfl
    have hm : ({ b.atR a (.inRegion ops l :: k) with mode := .panicking chain } : Frame).mode = .panicking chain := rfl
    generalize ({ b.atR a (.inRegion ops l :: k) with mode := .panicking chain } : Frame) = fr at *
    cases hf : P.funcs[fr.fn]? <;> simp [stepG, unwind, Frame.catches, hm, hd', hf, ht])
/-- what operations of a statement do, one after the other: to its end (N), or to a panic within it (D) -/
def OpsTo (F : Fence) (n : Nat) (P : Program) (ops : Array Oper) (l : List Nat) (a : Act) (w : World) (N : Act → World → Prop) (D : List PanicEntry → World → Prop) : Prop :=
  ∀ (b : Frame) (k : List Item) (cs : List Frame), b.roundOf = F.round → F.fn b.fn → F.room (cs.length + 1 + n) →
    (∃ a' w', N a' w' ∧ StepsIn (Machine.fenced P F) P (lone (b.atR a (.inRegion ops l :: k)) cs w) (lone (b.atR a' k) cs w')) ∨
    (∃ c a' w' l', D c w' ∧ a'.defers = [] ∧ StepsIn (Machine.fenced P F) P (lone (b.atR a (.inRegion ops l :: k)) cs w) (lone { b.atR a' (.inRegion ops l' :: k) with mode := .panicking c } cs w'))
variable {ops : Array Oper} {a : Act} {w : World} {N : Act → World → Prop} {D : List PanicEntry → World → Prop}
theorem opsTo_nil (h : N a w) : OpsTo F n P ops [] a w N D := fun _ _ _ _ hb hr => .inl ⟨a, w, h, .one (fenced_calm hb hr rfl) stepR_region_end⟩
theorem about_none {o : Oper} {v : Value} {w' : World} (hr : (execOp a.eval o).run P w = .ok (.value v) w') (hd : ∀ c, o.op ≠ .call c) : o.about P w a.eval = none := by
  unfold Oper.about
  split
  · rename_i c hc
    exact absurd hc (hd c)
  · rfl
theorem opsTo_value {i : Nat} {rest : List Nat} {o : Oper} {v : Value} {w' : World} (ho : ops[i]? = some o) (hg : o.guard = none) (hdf : ∀ c, o.op ≠ .defer c) (hcl : ∀ c, o.op ≠ .call c) (hr : (execOp a.eval o).run P w = .ok (.value v) w')
    (h : OpsTo F n P ops rest (a.put o.dst v) w' N D) : OpsTo F n P ops (i :: rest) a w N D := by
  intro b k cs hro hb hroom
  have hw : Region.wanted o (yielded ops a.tmps) = true := by simp [Region.wanted, hg]
  have hs := stepGR_op (P := P) (b := b) (k := k) (cs := cs) (w := w) (rest := rest) ho hw
  rw [Oper.semAt_eq _ _ _ hdf] at hs
  have hfin : (b.atR a (.inRegion ops (i :: rest) :: k)).finish v = b.atR (a.put o.dst v) (.inRegion ops rest :: k) := by rw [Frame.finish_atR, ho]; rfl
  have h0 : (lone (b.atR a (.inRegion ops (i :: rest) :: k)) cs w).fenced P F := fenced_oper hb hroom ho (fun f hf => by rw [about_none hr hcl] at hf; cases hf)
  have s1 : StepsIn (Machine.fenced P F) P (lone (b.atR a (.inRegion ops (i :: rest) :: k)) cs w) (lone (b.atR (a.put o.dst v) (.inRegion ops rest :: k)) cs w') :=
    .one h0 (step_lone_go (by rw [hs, ← hfin]; simp [stepG.apply, hr]))
  rcases h b k cs hro hb hroom with ⟨a', w2, hN, hst⟩ | ⟨c, a', w2, l', hD, hdef, hst⟩
  · exact .inl ⟨a', w2, hN, s1.trans hst⟩
  · exact .inr ⟨c, a', w2, l', hD, hdef, s1.trans hst⟩
theorem opsTo_call {i : Nat} {rest : List Nat} {o : Oper} {f : FuncId} {args : Array Value} {w' : World} (ho : ops[i]? = some o) (hg : o.guard = none) (hdf : ∀ c, o.op ≠ .defer c) (hr : (execOp a.eval o).run P w = .ok (.enter f args) w')
    (hab : ∀ f, o.about P w a.eval = some f → F.fn f) (hn : F.depth.isSome = true → 1 ≤ n) (had : a.defers = [])
    (h : CallsIn F (n - 1) P f args w' fun e w2 => (∃ v, e = .returned v ∧ OpsTo F n P ops rest (a.put o.dst v) w2 N D) ∨ (∃ c, e = .panicked c ∧ D c w2)) : OpsTo F n P ops (i :: rest) a w N D := by
  intro b k cs hro hb hroom
  have hw : Region.wanted o (yielded ops a.tmps) = true := by simp [Region.wanted, hg]
  have hs := stepGR_op (P := P) (b := b) (k := k) (cs := cs) (w := w) (rest := rest) ho hw
  rw [Oper.semAt_eq _ _ _ hdf] at hs
  obtain ⟨hF, h⟩ := h
  have hroom2 : F.room ((b.atR a (.inRegion ops (i :: rest) :: k) :: cs).length + 1 + (n - 1)) := Fence.room_enter hroom hn
  obtain ⟨e, w2, fr, hR, hsteps, hfn, hleave⟩ := h (b.atR a (.inRegion ops (i :: rest) :: k) :: cs) hroom2
  have h0 : (lone (b.atR a (.inRegion ops (i :: rest) :: k)) cs w).fenced P F := fenced_oper hb hroom ho hab
  have henter : step P (lone (b.atR a (.inRegion ops (i :: rest) :: k)) cs w) = .next (lone (Frame.enter P f args .normal) (b.atR a (.inRegion ops (i :: rest) :: k) :: cs) w') :=
    step_lone_go (by rw [hs]; simp [stepG.apply, hr, Frame.atR])
  rcases hR with ⟨v, rfl, hR⟩ | ⟨c, rfl, hD⟩
  · have hl : (lone fr (b.atR a (.inRegion ops (i :: rest) :: k) :: cs) w2).fenced P F := fenced_leaving (hfn ▸ hF) hroom2 hleave
    have hfin : (b.atR a (.inRegion ops (i :: rest) :: k)).finish v = b.atR (a.put o.dst v) (.inRegion ops rest :: k) := by rw [Frame.finish_atR, ho]; rfl
    have s1 : StepsIn (Machine.fenced P F) P (lone (b.atR a (.inRegion ops (i :: rest) :: k)) cs w) (lone (b.atR (a.put o.dst v) (.inRegion ops rest :: k)) cs w2) :=
      .head h0 henter (StepsIn.trans hsteps (.one hl (by rw [← hfin]; exact step_leave_returned hleave)))
    rcases hR b k cs hro hb hroom with ⟨a', w3, hN, hst⟩ | ⟨c, a', w3, l', hD, hdef, hst⟩
    · exact .inl ⟨a', w3, hN, s1.trans hst⟩
    · exact .inr ⟨c, a', w3, l', hD, hdef, s1.trans hst⟩
  · have hl : (lone fr (b.atR a (.inRegion ops (i :: rest) :: k) :: cs) w2).fenced P F := fenced_leaving (hfn ▸ hF) hroom2 hleave
    exact .inr ⟨c, a, w2, i :: rest, hD, had, .head h0 henter (StepsIn.trans hsteps (.one hl (by rw [← Frame.raise_atR]; exact step_leave_panicked hleave)))⟩

theorem roundIn_died {l : Nat} {f : FuncId} {tmps : Array Value} {assign : Code} {id bid : Nat} {w : World} {R : Ending → World → Prop} (hF : F.fn f)
    (h : assign.wpIn (F.inRound l) n P (Exit.then (fun a₁ w₁ => ∃ w₂, (Instr.beginRound l).run P w₁ = .ok () w₂ ∧
      OpsTo (F.inRound l) n P ops (List.range ops.size) a₁ w₂ (fun _ w' => ∃ v w3, (Instr.endRound l none).run P w' = .ok v w3 ∧ R (.returned v) w3) (fun c w' => R (.panicked c) w')) (fun _ _ _ => False))
      { tmps := tmps, defers := [] } w) :
    RoundIn F n P l f tmps assign (.block bid (.region id ops false)) w R := by
  refine ⟨hF, fun c cs hr => ?_⟩
  let b : Frame := { (default : Frame) with fn := f, kind := .normal, roundOf := some l }
  have hb0 : Frame.round l f tmps assign (.block bid (.region id ops false)) .normal = b.atR { tmps := tmps, defers := [] } [.code assign, .beginRound, .code (.block bid (.region id ops false))] := by
    simp [Frame.round, Frame.atR, b]
  have hr' : (F.inRound l).room ((c :: cs).length + 1 + n) := hr
  have hF' : (F.inRound l).fn b.fn := hF
  obtain ⟨e, a₁, w₁, hq, harr⟩ := h b [.beginRound, .code (.block bid (.region id ops false))] (c :: cs) rfl hF' hr'
  rw [← hb0] at harr
  cases e with
  | normal =>
    obtain ⟨w₂, hbr, hbody⟩ := hq
    have s1 : StepsIn (Machine.fenced P (F.inRound l)) P (lone (b.atR a₁ [.beginRound, .code (.block bid (.region id ops false))]) (c :: cs) w₁) (lone (b.atR a₁ [.code (.block bid (.region id ops false))]) (c :: cs) w₂) :=
      .one (fenced_calm (fr := b.atR a₁ [.beginRound, .code (.block bid (.region id ops false))]) hF' hr' rfl) (stepR_beginRound rfl hbr)
    have s2 : StepsIn (Machine.fenced P (F.inRound l)) P (lone (b.atR a₁ [.code (.block bid (.region id ops false))]) (c :: cs) w₂) (lone (b.atR a₁ [.code (.region id ops false), .inBlock bid]) (c :: cs) w₂) :=
      .one (fenced_calm (fr := b.atR a₁ [.code (.block bid (.region id ops false))]) hF' hr' rfl) stepR_block
    have s3 : StepsIn (Machine.fenced P (F.inRound l)) P (lone (b.atR a₁ [.code (.region id ops false), .inBlock bid]) (c :: cs) w₂) (lone (b.atR a₁ [.inRegion ops (List.range ops.size), .inBlock bid]) (c :: cs) w₂) :=
      .one (fenced_calm (fr := b.atR a₁ [.code (.region id ops false), .inBlock bid]) hF' hr' rfl) stepR_region
    have s12 := ((StepsIn.trans harr s1).trans s2).trans s3
    rcases hbody b [.inBlock bid] (c :: cs) rfl hF' hr' with ⟨a', w3, ⟨v, w4, hend, hR⟩, hst⟩ | ⟨ch, a', w3, l', hR, hdef, hst⟩
    · exact ⟨.returned v, w4, hR, (s12.trans (StepsIn.trans hst (.one (fenced_calm (fr := b.atR a' [.inBlock bid]) hF' hr' rfl) stepR_inBlock))).trans (.one (fenced_calm (fr := b.atR a' []) hF' hr' rfl) (stepR_round_end rfl rfl hend))⟩
    · have ha : ({ b.atR a' (.inRegion ops l' :: [.inBlock bid]) with mode := .panicking ch } : Frame).about P w3 = none := by simp [Frame.about, Frame.atR, hdef]
      exact ⟨.panicked ch, w3, hR, s12.trans (StepsIn.trans hst (.one (fenced_calm (fr := { b.atR a' (.inRegion ops l' :: [.inBlock bid]) with mode := .panicking ch }) hF' hr' ha) (step_up_died hdef)))⟩
  | exit id => exact hq.elim
  | goto t => exact hq.elim
  | ret => exact hq.elim
  | panic chain => exact hq.elim
  | outgrown => exact hq.elim
end
theorem OpsTo.mono {F : Fence} {n : Nat} {P : Program} {ops : Array Oper} {l : List Nat} {a : Act} {w : World} {N N' : Act → World → Prop} {D D' : List PanicEntry → World → Prop} (h : OpsTo F n P ops l a w N D) (hN : ∀ a w, N a w → N' a w) (hD : ∀ c w, D c w → D' c w) : OpsTo F n P ops l a w N' D' := by
  intro b k cs hro hb hr
  rcases h b k cs hro hb hr with ⟨a', w', hn, hs⟩ | ⟨c, a', w', l', hd, hdf, hs⟩
  · exact .inl ⟨a', w', hN _ _ hn, hs⟩
  · exact .inr ⟨c, a', w', l', hD _ _ hd, hdf, hs⟩
/-- an iterator: it yields the D elements el 0, el 1, .. unless a round dies -/
def IterP (P : Program) (gf : FuncId) (lb : Array Value) (D : Nat) (el : Nat → Array Value) (Kp S : World → World → Prop) (St : World → Prop) : Prop :=
  ∀ (l : Nat) (Y : Nat → World → Prop) (ZP : List PanicEntry → World → Prop) (W : World),
    (∀ k A B, Y k A → S A B → Y k B) →
    (∀ k A, k < D → Y k A → YieldAt Fence.wide 0 P l (el k) A fun e B => (e = .returned (.bool true) ∧ Y (k + 1) B ∧ Kp A B) ∨ (∃ c, e = .panicked c ∧ ZP c B)) →
    Y 0 W → St W → CallsIn Fence.wide 0 P gf (#[.func (.yield l) #[] #[]] ++ lb) W fun e B => (∃ v, e = .returned v ∧ Y D B) ∨ (∃ c, e = .panicked c ∧ ZP c B)

theorem range_law_dies {P : Program} {g : Operand} {ps : Array Tmp} {assign : Code} {id bid : Nat} {ops : Array Oper} {Q : Exit → Act → World → Prop} {a : Act} {w : World} {gf : FuncId} {lb : Array Value}
    (hg : a.eval g = .func (.func gf) #[] lb) (eg : ∀ args w, (callFunc gf args).run P w = .ok (.enter gf args) w)
    {D : Nat} {el : Nat → Array Value} (hps : ∀ k, (el k).size = ps.size)
    {Kp S : World → World → Prop} {St : World → Prop} (hiter : IterP P gf lb D el Kp S St) (hst : St w) (hSt : ∀ A B, St A → Book w.heap.size A B → St B)
    (hKp : ∀ A B C, Kp A B → (∀ (b : Nat) (o : Obj), B.heap[b]? = some o → isData o = true → C.heap[b]? = some o) → Kp A C)
    (hSN : ∀ A B, S A B → NC A B)
    (J : Nat → World → Prop) (XP : List PanicEntry → World → Prop)
    (hJb : ∀ k A B, J k A → Book w.heap.size A B → J k B)
    (hJS : ∀ k A B, J k A → S A B → J k B) (h0 : J 0 w)
    (hround : ∀ (l k : Nat) (W : World), k < D → J k W → w.heap.size < l → l < W.heap.size →
      assign.wpIn (Fence.wide.inRound l) 0 P (Exit.then (fun a₁ W₁ => NC W W₁ ∧ ∀ W₂, Book w.heap.size W₁ W₂ → W₂.heap.size = W₁.heap.size →
        OpsTo (Fence.wide.inRound l) 0 P ops (List.range ops.size) a₁ W₂ (fun _ W' => NC W₂ W' ∧ J (k + 1) W' ∧ Kp W W') (fun c W' => NC W₂ W' ∧ XP c W')) (fun _ _ _ => False))
        { tmps := (ps.zip (el k)).foldl (fun t (p, v) => t.setIfInBounds p v) a.tmps, defers := [] } W)
    (hdone : ∀ (d : Nat) (W : World), w.heap.size ≤ d → J D W → W.heap[d]? = some (.deferred (some [])) → Q .normal { a with defers := { target := .collected d, args := #[] } :: a.defers } W)
    (hdies : ∀ (d : Nat) (c : List PanicEntry) (W : World), w.heap.size ≤ d → XP c W → W.heap[d]? = some (.deferred (some [])) → Q (.panic c) { a with defers := { target := .collected d, args := #[] } :: a.defers } W) :
    (Code.rangeFunc g ps assign (.block bid (.region id ops false))).wp P Q a w := by
  refine (wpIn_wide (n := 0)).1 (wpIn_rangeFunc ?_)
  intro fn hfn
  rw [show Fence.wide.round = none from rfl]
  obtain ⟨rec, hrec⟩ : ∃ rec : LoopState → Option Code → Loop, rec = fun st pe => { state := st, pending := pe, fn, tmps := a.tmps, params := ps, assign, body := .block bid (.region id ops false), defers := w.heap.size } := ⟨_, rfl⟩
  obtain ⟨W1, hW1⟩ : ∃ W1, (w.alloc (.deferred (some []))).alloc (.loop (rec .ready none)) = W1 := ⟨_, rfl⟩
  have hz1 : W1.heap.size = w.heap.size + 2 := by rw [← hW1]; simp
  have hL1 : W1.heap[w.heap.size + 1]? = some (.loop (rec .ready none)) := by
    rw [← hW1]; have := World.alloc_heap_new (w.alloc (.deferred (some []))) (.loop (rec .ready none)); rwa [World.size_alloc] at this
  have hK1 : W1.heap[w.heap.size]? = some (.deferred (some [])) := by
    rw [← hW1]; exact (Below.heap_alloc _ _ _ (by simp)).trans (World.alloc_heap_new w _)
  have hbk1 : Book w.heap.size w W1 := by rw [← hW1]; exact ((Book.refl _ w).alloc (Nat.le_refl _) _).alloc (by simp) _
  have hJ1 : J 0 W1 := hJb _ _ _ h0 (by rw [← hW1]; exact ((Book.refl _ w).alloc (Nat.le_refl _) _).alloc (by simp) _)
  refine ⟨w.heap.size + 1, [{ target := .collected w.heap.size, args := #[] }], W1, { target := .fn (.func gf) lb, args := #[.func (.yield (w.heap.size + 1)) #[] #[]] }, W1, gf,
    #[.func (.yield (w.heap.size + 1)) #[] #[]] ++ lb, W1, ?_, ?_, ?_, ?_, fun h => by simp [Fence.wide] at h, ?_⟩
  · rw [← hW1, hrec]; exact run_enterLoop_outer _ _ _ _ _
  · simp only [resolve, hg]
    simp [go_sem]
  · intro f' _; trivial
  · simp [invoke, go_sem, eg]
  · refine (hiter (w.heap.size + 1)
      (fun k W => J k W ∧ W.heap[w.heap.size + 1]? = some (.loop (rec .ready none)) ∧ W.heap[w.heap.size]? = some (.deferred (some [])))
      (fun c W => XP c W ∧ W.heap[w.heap.size]? = some (.deferred (some [])))
      W1 (fun k A B h hs => ⟨hJS _ _ _ h.1 hs, hSN _ _ hs _ _ h.2.1 rfl, hSN _ _ hs _ _ h.2.2 rfl⟩) ?_ ⟨hJ1, hL1, hK1⟩ (hSt _ _ hst hbk1)).mono ?_
    · rintro k W hk ⟨hj, hl, hd⟩
      have hlt : w.heap.size + 1 < W.heap.size := (Array.getElem?_eq_some_iff.1 hl).1
      have hy := run_yield (P := P) (args := el k) hl (by rw [hrec]; simp [hps])
      rw [hrec] at hy
      refine ⟨fn, _, assign, .block bid (.region id ops false), hy, roundIn_died hfn ?_⟩
      refine wpIn_mono (hround _ k W hk hj (by omega) hlt) ?_
      rintro e a₁ W₁ hp
      cases e with
      | normal =>
        obtain ⟨hnc, hb⟩ := hp
        have hl1 := hnc _ _ hl rfl
        have hd1 := hnc _ _ hd rfl
        have hlt1 : w.heap.size + 1 < W₁.heap.size := (Array.getElem?_eq_some_iff.1 hl1).1
        refine ⟨_, run_beginRound hl1 (by rw [hrec]), ?_⟩
        have hl2 : (W₁.putObj (w.heap.size + 1) (.loop { rec .ready none with state := .busy })).heap[w.heap.size + 1]? = some (.loop { rec .ready none with state := .busy }) := World.putObj_heap_same hlt1
        have hd2 : (W₁.putObj (w.heap.size + 1) (.loop { rec .ready none with state := .busy })).heap[w.heap.size]? = some (.deferred (some [])) := (World.putObj_heap_other (by omega)).trans hd1
        refine OpsTo.mono (hb _ ((Book.refl _ W₁).put (by omega) hl1 rfl _) (by simp)) ?_ ?_
        · rintro a3 W3 ⟨hk3, hi3, hkp⟩
          have hl3 := hk3 _ _ hl2 rfl
          have hr := run_endRound (P := P) none hl3
          have hb3 : Book w.heap.size W3 (W3.putObj (w.heap.size + 1) (.loop (rec .ready none))) := by rw [hrec] at hl3 ⊢; exact (Book.refl _ W3).put (by omega) hl3 rfl _
          rw [hrec] at hr
          refine ⟨_, _, hr, .inl ⟨rfl, ⟨?_, ?_, ?_⟩, ?_⟩⟩
          · have := hJb _ _ _ hi3 hb3
            rwa [hrec] at this
          · rw [hrec]; exact World.putObj_heap_same (Array.getElem?_eq_some_iff.1 hl3).1
          · exact (World.putObj_heap_other (by omega)).trans (hk3 _ _ hd2 rfl)
          · have := hKp _ _ _ hkp hb3.data
            rwa [hrec] at this
        · rintro c W3 ⟨hk3, hx⟩
          exact .inr ⟨c, rfl, hx, hk3 _ _ hd2 rfl⟩
      | ret => exact hp.elim
      | exit id => exact hp.elim
      | goto t => exact hp.elim
      | panic ch => exact hp.elim
      | outgrown => exact hp.elim
    · rintro e W2 (⟨v, rfl, hj, hl, hk⟩ | ⟨c, rfl, hx, hk⟩)
      · exact ⟨none, _, by have := run_endLoop (P := P) hl (by rw [hrec]; simp); rw [hrec] at this; exact this,
          hdone _ _ (Nat.le_refl _) (hJb _ _ _ hj ((Book.refl _ _).put (by omega) hl rfl _)) ((World.putObj_heap_other (by omega)).trans hk)⟩
      · exact hdies _ c _ (Nat.le_refl _) hx hk
end Go.Proofs.YtajdgdelhlfniaaGreatDoor
