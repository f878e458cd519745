/- Parts of the proof of TpP: Iter, Round, Mat, Bind. -/
import Derived.RangeFuncRecord
import Derived.Shelf.Abstract
import Derived.Shelf.RegionOpen
import Derived.RangeFuncSeq
import Derived.RangeFuncLeaves
import Derived.TacticsInMore
import Derived.OwnWalkIn
import Derived.LoopNIn
import Derived.LoopIn
import Derived.WalkSmall
import Derived.Test.YthnimhnlnddnoaaGreatDoorH2
import Derived.OrdersIn
import Derived.Deep.Quiet
import Derived.Test.YthnimhnlnddnoaaGreatDoorH3
import Derived.Test.YthnimhnlnddnoaaGreatDoorH7
import Derived.IntWalk
import Derived.Lib.MinMax
import Derived.WalkKit
set_option linter.unusedSimpArgs false
set_option linter.unusedVariables false
set_option maxRecDepth 100000
set_option maxHeartbeats 8000000
namespace Go.Proofs.YthnimhnlnddnoaaGreatDoor
open Go.RowKit Go.Shelf
def isData : Obj → Bool
 | .cells .. | .map .. | .stringIter .. | .mapIter .. => true
 | _ => false
structure Book (B : Nat) (w w' : World) : Prop where
 below : Below B w w'
 data : ∀ (b : Nat) (o : Obj), w.heap[b]? = some o → isData o = true → w'.heap[b]? = some o
def NC (w w' : World) : Prop := ∀ (b : Nat) (o : Obj), w.heap[b]? = some o → isData o = false → w'.heap[b]? = some o
theorem Book.refl (B : Nat) (w : World) : Book B w w := ⟨Below.refl _ _, fun _ _ h _ => h⟩
theorem Book.trans {B : Nat} {a b c : World} (h : Book B a b) (k : Book B b c) : Book B a c := ⟨h.below.trans k.below, fun i o ho hd => k.data i o (h.data i o ho hd) hd⟩
theorem Book.alloc {B : Nat} {a w : World} (h : Book B a w) (hB : B ≤ w.heap.size) (o : Obj) : Book B a (w.alloc o) :=
 ⟨h.below.alloc hB o, fun i p hp hd => (Below.heap_alloc w o i (lt_of_block (h.data i p hp hd))).trans (h.data i p hp hd)⟩
theorem Book.put {B r : Nat} {a w : World} {o : Obj} (h : Book B a w) (hr : B ≤ r) (ho : w.heap[r]? = some o) (hd : isData o = false) (o' : Obj) : Book B a (w.putObj r o') := by
 refine ⟨h.below.trans ⟨rfl, rfl, rfl, by simp, fun k hk => World.putObj_heap_other (by omega)⟩, fun i p hp hpd => ?_⟩
 have h1 := h.data i p hp hpd
 by_cases e : i = r
 ·subst e
  rw [ho] at h1
  cases h1
  rw [hd] at hpd
  cases hpd
 ·exact (World.putObj_heap_other e).trans h1
theorem Book.cell {B : Nat} {w w' : World} (h : Book B w w') {a : Addr} {v : Value} (hc : w.cell? a = some v) : w'.cell? a = some v := by
 unfold World.cell? at *
 cases ho : w.heap[a.block]? with
 | none => simp [ho] at hc
 | some o =>
  cases o with
  | cells c e f => rw [h.data _ _ ho rfl]; simpa [ho] using hc
  | _ => simp [ho] at hc
theorem NC.refl (w : World) : NC w w := fun _ _ h _ => h
theorem NC.trans {a b c : World} (h : NC a b) (k : NC b c) : NC a c := fun i o ho hd => k i o (h i o ho hd) hd
theorem NC.of_below {a w w' : World} (h : NC a w) (hb : Below w.heap.size w w') : NC a w' := fun i p hp hd => (hb.block i (lt_of_block (h i p hp hd))).trans (h i p hp hd)
theorem NC.setCell {a w : World} (h : NC a w) (p : Addr) (v : Value) : NC a (w.setCell p v) := fun i o ho hd => by
 have h1 := h i o ho hd
 by_cases e : i = p.block
 ·subst e
  simp only [World.setCell, Array.getElem?_modify, h1, if_true, Option.map_some]
  cases o <;> first | rfl | (simp [isData] at hd)
 ·exact (Below.heap_setCell w p v i e).trans h1
theorem NC.grown {a w w' : World} {row : Option Nat} (h : NC a w) (hg : w.grownBy w' row) (hr : ∀ r, row = some r → ∃ c e f, w.heap[r]? = some (.cells c e f)) : NC a w' := fun i o ho hd => by
 have h1 := h i o ho hd
 refine (hg.block i (lt_of_block h1) fun e => ?_).trans h1
 obtain ⟨c, t, f, h2⟩ := hr i e.symm
 rw [h1] at h2
 cases h2
 cases hd
def rEnd (J : World → Prop) (X : Code → World → Prop) (W : World) : Exit → Act → World → Prop
 | .normal, _, W' => NC W W' ∧ J W'
 | .ret, _, W' => NC W W' ∧ X .ret W'
 | .exit id, _, W' => NC W W' ∧ X (.exit id) W'
 | .goto t, _, W' => NC W W' ∧ X (.goto t) W'
 | .panic _, _, _ => False
 | .outgrown, _, _ => False
def Iter (P : Program) (gf : FuncId) (lb : Array Value) (D : Nat) (el : Nat → Array Value) (Kp : Nat → World → World → Prop) (S : Nat → World → World → Prop) (N : World → Prop) : Prop :=
 ∀ (l : Nat) (Y : Nat → World → Prop) (Z : World → Prop) (W : World),
  (∀ k A B, Y k A → S W.heap.size A B → Y k B) → (∀ k A, Y k A → N A) →
  (∀ k A, k < D → Y k A → YieldAt Fence.wide 0 P l (el k) A fun e B => (e = .returned (.bool true) ∧ Y (k + 1) B ∧ Kp W.heap.size A B) ∨ (e = .returned (.bool false) ∧ Z B)) →
  Y 0 W → CallsIn Fence.wide 0 P gf (#[.func (.yield l) #[] #[]] ++ lb) W fun e B => (∃ v, e = .returned v) ∧ (Y D B ∨ Z B)
def IterG (P : Program) (gf : FuncId) (lb : Array Value) (D : Nat) (el : Nat → Array Value) (Kp : Nat → World → World → Prop) (S : Nat → World → World → Prop) (N N0 : World → Prop) : Prop :=
 ∀ (l : Nat) (Y : Nat → World → Prop) (Z : World → Prop) (W : World),
  (∀ k A B, Y k A → S W.heap.size A B → Y k B) → (∀ k A, Y k A → N A) →
  (∀ k A, k < D → Y k A → YieldAt Fence.wide 0 P l (el k) A fun e B => (e = .returned (.bool true) ∧ Y (k + 1) B ∧ Kp W.heap.size A B) ∨ (e = .returned (.bool false) ∧ Z B)) →
  N0 W → Y 0 W → CallsIn Fence.wide 0 P gf (#[.func (.yield l) #[] #[]] ++ lb) W fun e B => (∃ v, e = .returned v) ∧ (Y D B ∨ Z B)
theorem range_lawG {P : Program} {g : Operand} {ps : Array Tmp} {assign body : Code} {Q : Exit → Act → World → Prop} {a : Act} {w : World} {gf : FuncId} {lb : Array Value}
  (hg : a.eval g = .func (.func gf) #[] lb) (eg : ∀ args w, (callFunc gf args).run P w = .ok (.enter gf args) w)
  {D : Nat} {el : Nat → Array Value} (hps : ∀ k, (el k).size = ps.size)
  {Kp : Nat → World → World → Prop} {S : Nat → World → World → Prop} {N N0 : World → Prop} (hiter : IterG P gf lb D el Kp S N N0)
  (hKp : ∀ H A B C, Kp H A B → (∀ (b : Nat) (o : Obj), B.heap[b]? = some o → isData o = true → C.heap[b]? = some o) → Kp H A C)
  (hSN : ∀ H A B, S H A B → NC A B)
  (J : Nat → World → Prop) (X : Code → World → Prop)
  (hJb : ∀ k A B, J k A → Book w.heap.size A B → J k B) (hXb : ∀ c A B, X c A → Book w.heap.size A B → X c B)
  (hJS : ∀ k A B, J k A → S (w.heap.size + 2) A B → J k B) (hJN : ∀ k A, J k A → N A) (hN0 : ∀ A, Book w.heap.size w A → N0 A) (h0 : J 0 w)
  (hround : ∀ (l k : Nat) (W : World), k < D → J k W → w.heap.size < l → l < W.heap.size →
   assign.wpIn (Fence.wide.inRound l) 0 P (Exit.then (fun a₁ W₁ => NC W W₁ ∧ ∀ W₂, Book w.heap.size W₁ W₂ → W₂.heap.size = W₁.heap.size →
    body.wpIn (Fence.wide.inRound l) 0 P (rEnd (fun W' => J (k + 1) W' ∧ Kp (w.heap.size + 2) W W') X W₂) a₁ W₂) (fun _ _ _ => False))
    { tmps := (ps.zip (el k)).foldl (fun t (p, v) => t.setIfInBounds p v) a.tmps, defers := [] } W)
  (hdone : ∀ (d : Nat) (W : World), w.heap.size ≤ d → J D W → W.heap[d]? = some (.deferred (some [])) → Q .normal { a with defers := { target := .collected d, args := #[] } :: a.defers } W)
  (hstop : ∀ (d : Nat) (c : Code) (W : World), w.heap.size ≤ d → X c W → W.heap[d]? = some (.deferred (some [])) → c.wp P Q { a with defers := { target := .collected d, args := #[] } :: a.defers } W) :
  (Code.rangeFunc g ps assign body).wp P Q a w := by
 refine (wpIn_wide (n := 0)).1 (wpIn_rangeFunc ?_)
 intro fn hfn
 rw [show Fence.wide.round = none from rfl]
 obtain ⟨rec, hrec⟩ : ∃ rec : LoopState → Option Code → Loop, rec = fun st pe => { state := st, pending := pe, fn, tmps := a.tmps, params := ps, assign, body, defers := w.heap.size } := ⟨_, rfl⟩
 obtain ⟨W1, hW1⟩ : ∃ W1, (w.alloc (.deferred (some []))).alloc (.loop (rec .ready none)) = W1 := ⟨_, rfl⟩
 have hz1 : W1.heap.size = w.heap.size + 2 := by rw [← hW1]; simp
 have hL1 : W1.heap[w.heap.size + 1]? = some (.loop (rec .ready none)) := by
  rw [← hW1]; have := World.alloc_heap_new (w.alloc (.deferred (some []))) (.loop (rec .ready none)); rwa [World.size_alloc] at this
 have hK1 : W1.heap[w.heap.size]? = some (.deferred (some [])) := by
  rw [← hW1]; exact (Below.heap_alloc _ _ _ (by simp)).trans (World.alloc_heap_new w _)
 have hJ1 : J 0 W1 := hJb _ _ _ h0 (by rw [← hW1]; exact ((Book.refl _ w).alloc (Nat.le_refl _) _).alloc (by simp) _)
 refine ⟨w.heap.size + 1, [{ target := .collected w.heap.size, args := #[] }], W1, { target := .fn (.func gf) lb, args := #[.func (.yield (w.heap.size + 1)) #[] #[]] }, W1, gf,
  #[.func (.yield (w.heap.size + 1)) #[] #[]] ++ lb, W1, ?_, ?_, ?_, ?_, fun h => by simp [Fence.wide] at h, ?_⟩
 ·rw [← hW1, hrec]; exact run_enterLoop_outer _ _ _ _ _
 ·simp only [resolve, hg]
  simp [go_sem]
 ·intro f' _; trivial
 ·simp [invoke, go_sem, eg]
 ·refine (hiter (w.heap.size + 1)
   (fun k W => J k W ∧ W.heap[w.heap.size + 1]? = some (.loop (rec .ready none)) ∧ W.heap[w.heap.size]? = some (.deferred (some [])))
   (fun W => ∃ c, X c W ∧ W.heap[w.heap.size + 1]? = some (.loop (rec .done (some c))) ∧ W.heap[w.heap.size]? = some (.deferred (some [])))
   W1 (fun k A B h hs => ⟨hJS _ _ _ h.1 (by rw [← hz1]; exact hs), hSN _ _ _ hs _ _ h.2.1 rfl, hSN _ _ _ hs _ _ h.2.2 rfl⟩) (fun k A h => hJN _ _ h.1) ?_ (hN0 _ (by rw [← hW1]; exact ((Book.refl _ w).alloc (Nat.le_refl _) _).alloc (by simp) _)) ⟨hJ1, hL1, hK1⟩).mono ?_
  ·rintro k W hk ⟨hj, hl, hd⟩
   have hlt : w.heap.size + 1 < W.heap.size := (Array.getElem?_eq_some_iff.1 hl).1
   have hy := run_yield (P := P) (args := el k) hl (by rw [hrec]; simp [hps])
   rw [hrec] at hy
   refine ⟨fn, _, assign, body, hy, roundIn_of_wpIn hfn ?_⟩
   refine wpIn_mono (hround _ k W hk hj (by omega) hlt) ?_
   rintro e a₁ W₁ hp
   cases e with
   | normal =>
    obtain ⟨hnc, hb⟩ := hp
    have hl1 := hnc _ _ hl rfl
    have hd1 := hnc _ _ hd rfl
    have hlt1 : w.heap.size + 1 < W₁.heap.size := (Array.getElem?_eq_some_iff.1 hl1).1
    refine ⟨_, run_beginRound hl1 (by rw [hrec]), ?_⟩
    have hl2 : (W₁.putObj (w.heap.size + 1) (.loop { rec .ready none with state := .busy })).heap[w.heap.size + 1]? = some (.loop { rec .ready none with state := .busy }) := World.putObj_heap_same hlt1
    have hd2 : (W₁.putObj (w.heap.size + 1) (.loop { rec .ready none with state := .busy })).heap[w.heap.size]? = some (.deferred (some [])) := (World.putObj_heap_other (by omega)).trans hd1
    refine wpIn_mono (hb _ ((Book.refl _ W₁).put (by omega) hl1 rfl _) (by simp)) ?_
    have fin : ∀ (jump : Option Code) (W3 : World), NC (W₁.putObj (w.heap.size + 1) (.loop { rec .ready none with state := .busy })) W3 →
      (Instr.endRound (w.heap.size + 1) jump).run P W3 = .ok (.bool jump.isNone) (W3.putObj (w.heap.size + 1) (.loop (rec (if jump.isNone then .ready else .done) jump))) ∧
      Book w.heap.size W3 (W3.putObj (w.heap.size + 1) (.loop (rec (if jump.isNone then .ready else .done) jump))) ∧
      (W3.putObj (w.heap.size + 1) (.loop (rec (if jump.isNone then .ready else .done) jump))).heap[w.heap.size + 1]? = some (.loop (rec (if jump.isNone then .ready else .done) jump)) ∧
      (W3.putObj (w.heap.size + 1) (.loop (rec (if jump.isNone then .ready else .done) jump))).heap[w.heap.size]? = some (.deferred (some [])) := fun jump W3 hk3 => by
     have hl3 := hk3 _ _ hl2 rfl
     have := run_endRound (P := P) jump hl3
     rw [hrec] at this ⊢
     rw [hrec] at hl3
     exact ⟨this, (Book.refl _ W3).put (by omega) hl3 rfl _, World.putObj_heap_same (Array.getElem?_eq_some_iff.1 hl3).1, (World.putObj_heap_other (by omega)).trans (hk3 _ _ hd2 rfl)⟩
    rintro e a3 W3 hp
    cases e with
    | normal =>
     obtain ⟨hk3, hi3, hkp⟩ := hp
     obtain ⟨hr, hb3, hl4, hk4⟩ := fin none W3 hk3
     rw [← hz1] at hkp
     exact ⟨_, _, hr, .inl ⟨rfl, ⟨hJb _ _ _ hi3 hb3, hl4, hk4⟩, hKp _ _ _ _ hkp hb3.data⟩⟩
    | ret =>
     obtain ⟨hk3, hi3⟩ := hp
     obtain ⟨hr, hb3, hl4, hk4⟩ := fin (some .ret) W3 hk3
     exact ⟨_, _, hr, .inr ⟨rfl, .ret, hXb _ _ _ hi3 hb3, hl4, hk4⟩⟩
    | exit id =>
     obtain ⟨hk3, hi3⟩ := hp
     obtain ⟨hr, hb3, hl4, hk4⟩ := fin (some (.exit id)) W3 hk3
     exact ⟨_, _, hr, .inr ⟨rfl, .exit id, hXb _ _ _ hi3 hb3, hl4, hk4⟩⟩
    | goto t =>
     obtain ⟨hk3, hi3⟩ := hp
     obtain ⟨hr, hb3, hl4, hk4⟩ := fin (some (.goto t)) W3 hk3
     exact ⟨_, _, hr, .inr ⟨rfl, .goto t, hXb _ _ _ hi3 hb3, hl4, hk4⟩⟩
    | panic ch => exact hp.elim
    | outgrown => exact hp.elim
   | ret => exact hp.elim
   | exit id => exact hp.elim
   | goto t => exact hp.elim
   | panic ch => exact hp.elim
   | outgrown => exact hp.elim
  ·rintro e W2 ⟨⟨v, rfl⟩, (⟨hj, hl, hk⟩ | ⟨c, hx, hl, hk⟩)⟩
   ·exact ⟨none, _, by have := run_endLoop (P := P) hl (by rw [hrec]; simp); rw [hrec] at this; exact this,
     hdone _ _ (Nat.le_refl _) (hJb _ _ _ hj ((Book.refl _ _).put (by omega) hl rfl _)) ((World.putObj_heap_other (by omega)).trans hk)⟩
   ·exact ⟨some c, _, by have := run_endLoop (P := P) hl (by rw [hrec]; simp); rw [hrec] at this; exact this,
     (wpIn_wide (n := 0)).2 (hstop _ c _ (Nat.le_refl _) (hXb _ _ _ hx ((Book.refl _ _).put (by omega) hl rfl _)) ((World.putObj_heap_other (by omega)).trans hk))⟩
theorem range_law {P : Program} {g : Operand} {ps : Array Tmp} {assign body : Code} {Q : Exit → Act → World → Prop} {a : Act} {w : World} {gf : FuncId} {lb : Array Value}
  (hg : a.eval g = .func (.func gf) #[] lb) (eg : ∀ args w, (callFunc gf args).run P w = .ok (.enter gf args) w)
  {D : Nat} {el : Nat → Array Value} (hps : ∀ k, (el k).size = ps.size)
  {Kp : Nat → World → World → Prop} {S : Nat → World → World → Prop} {N : World → Prop} (hiter : Iter P gf lb D el Kp S N)
  (hKp : ∀ H A B C, Kp H A B → (∀ (b : Nat) (o : Obj), B.heap[b]? = some o → isData o = true → C.heap[b]? = some o) → Kp H A C)
  (hSN : ∀ H A B, S H A B → NC A B)
  (J : Nat → World → Prop) (X : Code → World → Prop)
  (hJb : ∀ k A B, J k A → Book w.heap.size A B → J k B) (hXb : ∀ c A B, X c A → Book w.heap.size A B → X c B)
  (hJS : ∀ k A B, J k A → S (w.heap.size + 2) A B → J k B) (hJN : ∀ k A, J k A → N A) (h0 : J 0 w)
  (hround : ∀ (l k : Nat) (W : World), k < D → J k W → w.heap.size < l → l < W.heap.size →
   assign.wpIn (Fence.wide.inRound l) 0 P (Exit.then (fun a₁ W₁ => NC W W₁ ∧ ∀ W₂, Book w.heap.size W₁ W₂ → W₂.heap.size = W₁.heap.size →
    body.wpIn (Fence.wide.inRound l) 0 P (rEnd (fun W' => J (k + 1) W' ∧ Kp (w.heap.size + 2) W W') X W₂) a₁ W₂) (fun _ _ _ => False))
    { tmps := (ps.zip (el k)).foldl (fun t (p, v) => t.setIfInBounds p v) a.tmps, defers := [] } W)
  (hdone : ∀ (d : Nat) (W : World), w.heap.size ≤ d → J D W → W.heap[d]? = some (.deferred (some [])) → Q .normal { a with defers := { target := .collected d, args := #[] } :: a.defers } W)
  (hstop : ∀ (d : Nat) (c : Code) (W : World), w.heap.size ≤ d → X c W → W.heap[d]? = some (.deferred (some [])) → c.wp P Q { a with defers := { target := .collected d, args := #[] } :: a.defers } W) :
  (Code.rangeFunc g ps assign body).wp P Q a w := by
 exact range_lawG hg eg hps (hiter := fun l Y Z W h1 h2 h3 _ h5 => hiter l Y Z W h1 h2 h3 h5) (N0 := fun _ => True) hKp hSN J X hJb hXb hJS hJN (fun _ _ => trivial) h0 hround hdone hstop
theorem calls_of_wp_marks {P : Program} {f : FuncId} {fn : Func} {c : Code} {args : Array Value} {w : World} {R : Ending → World → Prop}
  (hf : P.funcs[f]? = some fn) (hb : fn.body = some c)
  (h : c.wp P (bodyPostM Fence.wide 0 P fn R) { tmps := args ++ Array.replicate (fn.ntmps - args.size) undef, defers := [] } w) : Calls P f args w R :=
 (callsIn_wide (n := 0)).1 (callsIn_of_wp_marks hf hb trivial ((wpIn_wide (n := 0)).2 h))
theorem leaves_one {P : Program} {fn : Func} {R : Ending → World → Prop} {a : Act} {w : World} {d B : Nat} (hd : a.defers = [{ target := .collected d, args := #[] }]) (hk : w.heap[d]? = some (.deferred (some []))) (hB : B ≤ d)
  (h : ∀ w', Book B w w' → ∃ v, (results fn a.tmps).run P w' = .ok v w' ∧ R (.returned v) w') : LeavesInM Fence.wide 0 P fn a.tmps R a.defers .returning w := by
 rw [hd]
 exact ⟨by simp, .inl ⟨_, _, rfl, run_takeDeferred hk, h _ ((Book.refl _ _).put hB hk rfl _)⟩⟩
end Go.Proofs.YthnimhnlnddnoaaGreatDoor
namespace Go.Proofs.YthnimhnlnddnoaaGreatDoor
open Go.RowKit
section
variable {r n : Nat} {P : Program} {ops : Array Oper} {md : Region.Mode} {C : World → Prop}
theorem quiet_no_defer {o : Oper} {a : Act} {w : World} {v : Value} (h : o.quietAt P a C w v) : ∀ c, o.op ≠ .defer c := by
 intro c hc
 unfold Oper.quietAt execOp at h
 rw [hc] at h
 simp only [Sem.run_bind] at h
 cases hr : (resolve a.eval c o.type).run P w with
 | ok d w' => simp [hr, Result.andThen, Oper.quietUpon] at h
 | halt x w' => simp [hr, Result.andThen, Oper.quietUpon] at h
theorem wpRound_of_quiet {o : Oper} {a : Act} {K : Act → Prop} {K' : Act → World → Prop} {Q' : Exit → Act → World → Prop} {w : World} (hw : C w) (h : ∀ a w', C w' → K a → K' a w') (hh : o.quiet P a C K) :
  o.wpIn (Fence.wide.inRound r) n P a w K' Q' := by
 obtain ⟨v, h1, h2⟩ := hh
 have h3 := h1 w hw
 have hnd := quiet_no_defer h3
 unfold Oper.quietAt at h3
 unfold Oper.wpIn
 refine ⟨fun _ _ => trivial, ?_⟩
 rw [Oper.semAt_eq _ _ _ hnd]
 generalize (execOp a.eval o).run P w = res at *
 cases res with
 | ok x w' =>
  cases x <;> simp only [Oper.quietUpon] at h3 <;> simp only [Oper.uponIn]
  case value u =>
   obtain ⟨e1, e2⟩ := h3
   rw [e1, e2]
   exact h _ _ hw h2
  case skip =>
   obtain ⟨e1, e2⟩ := h3
   rw [e1, ← e2]
   exact h _ _ hw h2
  case enter f args =>
   obtain ⟨e1, hc⟩ := h3
   rw [e1]
   refine ⟨fun hd => by simp [Fence.wide] at hd, ?_⟩
   refine show CallsIn Fence.wide _ _ _ _ _ _ from callsIn_wide.2 ?_
   exact hc.mono fun e w'' ⟨he, hw''⟩ => by subst he; exact h _ _ hw'' h2
 | halt x w' => simp only [Oper.quietUpon] at h3
theorem wpOpRound_of_qOp {i : Nat} {a : Act} {K : Act → Prop} {K' : Act → World → Prop} {Q' : Exit → Act → World → Prop} {w : World} (hC : C w) (h : ∀ a w', C w' → K a → K' a w') (hh : qOp P ops C i K a) : wpOpIn (Fence.wide.inRound r) n P ops Q' i K' a w := by
 unfold qOp at hh
 unfold wpOpIn
 split
 ·rename_i ho; simp only [ho] at hh; exact h _ _ hC hh
 ·rename_i o ho
  simp only [ho] at hh
  split
  ·rename_i hw; simp only [hw, if_true] at hh; exact wpRound_of_quiet hC h hh
  ·rename_i hw; simp only [hw] at hh; exact ⟨fun _ _ => trivial, h _ _ hC hh⟩
end
end Go.Proofs.YthnimhnlnddnoaaGreatDoor
namespace Go.Proofs.YthnimhnlnddnoaaGreatDoor
abbrev Mat := Nat → Nat → Int
structure Closed (n : Nat) (b : Mat) : Prop where
 diag : ∀ i, i < n → b i i = 0
 tri : ∀ i j k, i < n → j < n → k < n → b i k ≤ b i j + b j k
def Sol (n : Nat) (b : Mat) (h : Nat → Int) : Prop := ∀ i k, i < n → k < n → h k - h i ≤ b i k
def bindM (f t : Nat) (m : Int) (b : Mat) : Mat := fun i k => min (b i k) (b i f + m + b t k)
theorem min_le_l (a b : Int) : min a b ≤ a := by omega
theorem Closed.bind {n f t : Nat} {b : Mat} {m : Int} (h : Closed n b) (hf : f < n) (ht : t < n) (h0 : 0 ≤ m + b t f) : Closed n (bindM f t m b) := by
 refine ⟨fun i hi => ?_, fun i j k hi hj hk => ?_⟩
 ·have h1 := h.diag i hi
  have h2 := h.tri t i f ht hi hf
  unfold bindM
  omega
 ·unfold bindM
  have a1 := h.tri i j k hi hj hk
  have a2 := h.tri i j f hi hj hf
  have a3 := h.tri t j k ht hj hk
  have a4 := h.tri t j f ht hj hf
  omega
theorem Closed.bind_f {n f t : Nat} {b : Mat} {m : Int} (_h : Closed n b) (h0 : 0 ≤ m + b t f) (i : Nat) : bindM f t m b i f = b i f := by
 unfold bindM
 omega
theorem Closed.bind_t {n f t : Nat} {b : Mat} {m : Int} (_h : Closed n b) (h0 : 0 ≤ m + b t f) (k : Nat) : bindM f t m b t k = b t k := by
 unfold bindM
 omega
theorem bind_sol {n f t : Nat} {b : Mat} {m : Int} {h : Nat → Int} (hc : Closed n b) (hf : f < n) (ht : t < n) : Sol n (bindM f t m b) h ↔ Sol n b h ∧ h t - h f ≤ m := by
 constructor
 ·intro hs
  refine ⟨fun i k hi hk => Int.le_trans (hs i k hi hk) (min_le_l _ _), ?_⟩
  have := hs f t hf ht
  have h1 := hc.diag f hf
  have h2 := hc.diag t ht
  unfold bindM at this
  omega
 ·rintro ⟨hs, hm⟩ i k hi hk
  have h1 := hs i f hi hf
  have h2 := hs t k ht hk
  have h3 := hs i k hi hk
  unfold bindM
  omega
theorem bind_no {n f t : Nat} {b : Mat} {m : Int} (hf : f < n) (ht : t < n) (h0 : m + b t f < 0) (h : Nat → Int) : ¬ (Sol n b h ∧ h t - h f ≤ m) := by
 rintro ⟨hs, hm⟩
 have := hs t f ht hf
 omega
theorem bind_same {n f t : Nat} {b : Mat} {m : Int} (hf : f < n) (ht : t < n) (h0 : b f t ≤ m) (h : Nat → Int) : (Sol n b h ∧ h t - h f ≤ m) ↔ Sol n b h := by
 constructor
 ·exact fun x => x.1
 ·intro hs
  have := hs f t hf ht
  exact ⟨hs, by omega⟩
theorem Closed.row {n : Nat} {b : Mat} (h : Closed n b) {i : Nat} (hi : i < n) : Sol n b (fun j => b i j) := fun j k hj hk => by
 have := h.tri i j k hi hj hk
 show b i k - b i j ≤ b j k
 omega
theorem closed_le {n : Nat} {b c : Mat} (hb : Closed n b) (h : ∀ x, Sol n b x → Sol n c x) {i k : Nat} (hi : i < n) (hk : k < n) : b i k ≤ c i k := by
 have h1 : b i k - b i i ≤ c i k := h _ (hb.row hi) i k hi hk
 have h2 := hb.diag i hi
 omega
theorem Closed.reach {n : Nat} {b : Mat} (h : Closed n b) {i k : Nat} (hi : i < n) (_hk : k < n) : ∃ x, Sol n b x ∧ x i = 0 ∧ x k - x i = b i k :=
 ⟨_, h.row hi, h.diag i hi, by simp [h.diag i hi]⟩
theorem Closed.lo {n : Nat} {b : Mat} (h : Closed n b) {i k : Nat} (hi : i < n) (hk : k < n) : - b k i ≤ b i k := by
 have h1 := h.tri i k i hi hk hi
 have h2 := h.diag i hi
 omega
structure Fine (b : Mat) : Prop where
 closed : Closed 9 b
 le : ∀ i k, i < 9 → k < 9 → b i k ≤ 9000
theorem Fine.ge {b : Mat} (h : Fine b) {i k : Nat} (hi : i < 9) (hk : k < 9) : -9000 ≤ b i k := by
 have := h.closed.lo hi hk
 have := h.le k i hk hi
 omega
theorem Fine.bind {b : Mat} {f t : Nat} {m : Int} (h : Fine b) (hf : f < 9) (ht : t < 9) (h0 : 0 ≤ m + b t f) : Fine (bindM f t m b) :=
 ⟨h.closed.bind hf ht h0, fun i k hi hk => Int.le_trans (min_le_l _ _) (h.le i k hi hk)⟩
def freeM : Mat := fun i k => if i = k ∨ k = 8 then 0 else 9000
theorem free_fine : Fine freeM := by
 refine ⟨⟨fun i hi => by simp [freeM], fun i j k hi hj hk => ?_⟩, fun i k hi hk => ?_⟩
 ·unfold freeM
  split <;> split <;> split <;> omega
 ·unfold freeM
  split <;> omega
theorem free_sol (h : Nat → Int) : Sol 9 freeM h ↔ ∀ i, i < 8 → 0 ≤ h i - h 8 ∧ h i - h 8 ≤ 9000 := by
 constructor
 ·intro hs i hi
  have h1 := hs i 8 (by omega) (by omega)
  have h2 := hs 8 i (by omega) (by omega)
  unfold freeM at h1 h2
  rw [if_pos (.inr rfl)] at h1
  rw [if_neg (by omega)] at h2
  omega
 ·intro hs i k hi hk
  have hi' : i < 8 ∨ i = 8 := by omega
  have hk' : k < 8 ∨ k = 8 := by omega
  unfold freeM
  rcases hi' with hi' | rfl <;> rcases hk' with hk' | rfl
  ·have h1 := hs i hi'
   have h2 := hs k hk'
   split
   ·rename_i h
    have : i = k := by omega
    subst this
    omega
   ·omega
  ·have h1 := hs i hi'
   rw [if_pos (.inr rfl)]
   omega
  ·have h1 := hs k hk'
   rw [if_neg (by omega)]
   omega
  ·simp
def bindB (f t : Nat) (m : Int) (b : Mat) : Bool := decide (b f t ≤ m) || decide (0 ≤ m + b t f)
def bindR (f t : Nat) (m : Int) (b : Mat) : Mat := if b f t ≤ m then b else if 0 ≤ m + b t f then bindM f t m b else b
theorem bindR_fine {b : Mat} {f t : Nat} {m : Int} (h : Fine b) (hf : f < 9) (ht : t < 9) : Fine (bindR f t m b) := by
 unfold bindR
 split
 ·exact h
 ·split
  ·rename_i h0
   exact h.bind hf ht h0
  ·exact h
theorem bindR_sol {b : Mat} {f t : Nat} {m : Int} (h : Fine b) (hf : f < 9) (ht : t < 9) (hb : bindB f t m b = true) (x : Nat → Int) : Sol 9 (bindR f t m b) x ↔ Sol 9 b x ∧ x t - x f ≤ m := by
 unfold bindR
 split
 ·rename_i h0
  exact (bind_same hf ht h0 x).symm
 ·rename_i h1
  split
  ·exact bind_sol h.closed hf ht
  ·rename_i h0
   simp [bindB, h1, h0] at hb
theorem bindB_no {b : Mat} {f t : Nat} {m : Int} (hf : f < 9) (ht : t < 9) (hb : bindB f t m b = false) (x : Nat → Int) : ¬ (Sol 9 b x ∧ x t - x f ≤ m) := by
 simp only [bindB, Bool.or_eq_false_iff, decide_eq_false_iff_not] at hb
 exact bind_no hf ht (by omega) x
end Go.Proofs.YthnimhnlnddnoaaGreatDoor
namespace Go.Proofs.YthnimhnlnddnoaaGreatDoor
open Go.RowKit
def matC (b : Mat) : Array Value := ((List.range 81).map fun n => Value.int .i64 (b (n / 9) (n % 9))).toArray
theorem matC_size (b : Mat) : (matC b).size = 81 := by simp [matC]
theorem matC_get (b : Mat) {n : Nat} (hn : n < 81) : (matC b)[n]? = some (.int .i64 (b (n / 9) (n % 9))) := by
 unfold matC
 rw [List.getElem?_toArray, List.getElem?_map, List.getElem?_range hn]
 rfl
theorem matC_at (b : Mat) {i k : Nat} (hi : i < 9) (hk : k < 9) : (matC b)[i * 9 + k]? = some (.int .i64 (b i k)) := by
 rw [matC_get b (by omega), show (i * 9 + k) / 9 = i by omega, show (i * 9 + k) % 9 = k by omega]
def MatAt (w : World) (g : Nat) (T : TypeId) (b : Mat) : Prop := w.heap[g]? = some (.cells (matC b) T (0, 0))
theorem MatAt.cell {w : World} {g : Nat} {T : TypeId} {b : Mat} (h : MatAt w g T b) {i k : Nat} (hi : i < 9) (hk : k < 9) : w.cell? ⟨g, i * 9 + k, none⟩ = some (.int .i64 (b i k)) :=
 cellOf h _ (matC_at b hi hk)
theorem MatAt.frozen {w : World} {g : Nat} {T : TypeId} {b : Mat} (h : MatAt w g T b) (n : Nat) : w.frozen? ⟨g, n, none⟩ = false := by
 unfold MatAt at h
 simp [World.frozen?, h]
theorem bind_yes {w : World} {g : Nat} {T : TypeId} {b : Mat} {f t : Nat} {m : Int} (hm : MatAt w g T b) (hf : f < 9) (ht : t < 9) (h0 : b f t ≤ m) :
  Calls Tryz.prog 60 #[.pointer (some ⟨g, 0, none⟩), .int .i64 f, .int .i64 t, .int .i64 m] w fun e w' => e = .returned (.bool true) ∧ w = w' := by
 have c0 := hm.cell hf ht
 have H := Lib.hid hm
 clear hm
 generalize b f t = x at *
 go_enter Tryz.func60, Tryz.ntmps60
 go_wp2
 go_ret
 exact ⟨rfl, rfl⟩
theorem bind_not {w : World} {g : Nat} {T : TypeId} {b : Mat} {f t : Nat} {m : Int} (hm : MatAt w g T b) (hf : f < 9) (ht : t < 9) (h0 : ¬ b f t ≤ m) (h1 : m + b t f < 0) (hm0 : -100000 ≤ m) (hb : Fine b) :
  Calls Tryz.prog 60 #[.pointer (some ⟨g, 0, none⟩), .int .i64 f, .int .i64 t, .int .i64 m] w fun e w' => e = .returned (.bool false) ∧ w = w' := by
 have c0 := hm.cell hf ht
 have c1 := hm.cell ht hf
 have b1 := hb.ge ht hf
 have b2 := hb.le t f ht hf
 have b3 := hb.le f t hf ht
 have H := Lib.hid hm
 clear hm hb
 generalize b f t = x at *
 generalize b t f = y at *
 go_enter Tryz.func60, Tryz.ntmps60
 go_wp2
 go_ret
 exact ⟨rfl, rfl⟩
def mixM (f t : Nat) (m : Int) (b : Mat) (n : Nat) : Mat := fun i k => if i * 9 + k < n then bindM f t m b i k else b i k
theorem mixM_zero (f t : Nat) (m : Int) (b : Mat) : mixM f t m b 0 = b := by funext i k; simp [mixM]
theorem mixM_step (f t : Nat) (m : Int) (b : Mat) {i k : Nat} (_hi : i < 9) (hk : k < 9) : (matC (mixM f t m b (i * 9 + k))).setIfInBounds (i * 9 + k) (.int .i64 (bindM f t m b i k)) = matC (mixM f t m b (i * 9 + k + 1)) := by
 apply Array.ext_getElem?
 intro n
 by_cases hn : n < 81
 ·rw [Array.getElem?_setIfInBounds, matC_get _ hn, matC_get _ hn, matC_size]
  by_cases h : i * 9 + k = n
  ·subst h
   rw [if_pos rfl, if_pos (by omega), show (i * 9 + k) / 9 = i by omega, show (i * 9 + k) % 9 = k by omega]
   unfold mixM
   rw [if_pos (by omega)]
  ·rw [if_neg h]
   unfold mixM
   have e : n / 9 * 9 + n % 9 = n := by omega
   rw [e]
   by_cases h2 : n < i * 9 + k
   ·rw [if_pos h2, if_pos (by omega)]
   ·rw [if_neg h2, if_neg (by omega)]
 ·have h1 := matC_size (mixM f t m b (i * 9 + k))
  have h2 := matC_size (mixM f t m b (i * 9 + k + 1))
  rw [Array.getElem?_eq_none (by simp; omega), Array.getElem?_eq_none (by omega)]
theorem mixM_all (f t : Nat) (m : Int) (b : Mat) : matC (mixM f t m b 81) = matC (bindM f t m b) := by
 apply Array.ext_getElem?
 intro n
 by_cases hn : n < 81
 ·rw [matC_get _ hn, matC_get _ hn]
  unfold mixM
  rw [if_pos (by omega)]
 ·have h1 := matC_size (mixM f t m b 81)
  have h2 := matC_size (bindM f t m b)
  rw [Array.getElem?_eq_none (by omega), Array.getElem?_eq_none (by omega)]
theorem heap_setCell_row {w : World} {g n : Nat} {cs : Array Value} {T : TypeId} {fz : Nat × Nat} (h : w.heap[g]? = some (.cells cs T fz)) (v : Value) : (w.setCell ⟨g, n, none⟩ v).heap[g]? = some (.cells (cs.setIfInBounds n v) T fz) := by
 simp [World.setCell, Array.getElem?_modify, h]
theorem grown_setCell (w : World) (g n : Nat) (v : Value) : w.grownBy (w.setCell ⟨g, n, none⟩ v) (some g) := ⟨rfl, rfl, rfl, by simp [World.setCell], fun k _ hk => Below.heap_setCell _ _ _ _ (by intro e; subst e; exact hk rfl)⟩
theorem grown_qt {w w' : World} (h : Qt w w') (row : Option Nat) : w.grownBy w' row := by
 obtain ⟨n, rfl⟩ := h
 exact ⟨rfl, rfl, rfl, Nat.le_refl _, fun _ _ _ => rfl⟩
theorem bind_do {w : World} {g : Nat} {T : TypeId} {b : Mat} {f t : Nat} {m : Int} (hm : MatAt w g T b) (hf : f < 9) (ht : t < 9) (h0 : ¬ b f t ≤ m) (h1 : 0 ≤ m + b t f) (hb : Fine b) (hm1 : m ≤ 100000) :
  Calls Tryz.prog 60 #[.pointer (some ⟨g, 0, none⟩), .int .i64 f, .int .i64 t, .int .i64 m] w fun e w' => e = .returned (.bool true) ∧ MatAt w' g T (bindM f t m b) ∧ w.grownBy w' (some g) := by
 have c0 := hm.cell hf ht
 have c1 := hm.cell ht hf
 have b1 := hb.ge ht hf
 have b2 := hb.le t f ht hf
 have b3 := hb.le f t hf ht
 have Hm := Lib.hid hm
 have HF := Lib.hid (fun i => hb.closed.bind_f h1 i)
 have HT := Lib.hid (fun k => hb.closed.bind_t h1 k)
 have HB := Lib.hid hb
 clear hm hb
 generalize b f t = x at *
 generalize b t f = y at *
 go_enter Tryz.func60, Tryz.ntmps60
 go_wp2
 clear c0 c1
 have hm0 : -9000 ≤ m := by omega
 go_loopw [30, 9, 10] (fun i _ _ wr => ∃ n : Nat, n ≤ 9 ∧ i = .int .i64 n ∧ MatAt wr g T (mixM f t m b (n * 9)) ∧ w.grownBy wr (some g)) (fun i _ _ _ => 9 - (intOf i).toNat)
 case atStart => exact ⟨0, Nat.zero_le _, rfl, by rw [Nat.zero_mul, mixM_zero]; exact Hm.out, World.grownBy.refl _ _⟩
 case round =>
  obtain ⟨i, hi, rfl, hmr, hg⟩ := hrel
  have HM := Lib.hid hmr
  have HG := Lib.hid hg
  clear hmr hg
  by_cases hlt : i < 9
  ·go_wp2
   obtain ⟨wo, rfl⟩ : ∃ wo : World, wo = wr := ⟨_, rfl⟩
   go_loopw [33, 10] (fun k _ wr => ∃ n : Nat, n ≤ 9 ∧ k = .int .i64 n ∧ MatAt wr g T (mixM f t m b (i * 9 + n)) ∧ w.grownBy wr (some g)) (fun k _ _ => 9 - (intOf k).toNat)
   case atStart => exact ⟨0, Nat.zero_le _, rfl, HM.out, HG.out⟩
   case round =>
    obtain ⟨k, hk, rfl, hmr, hg⟩ := hrel
    by_cases hkl : k < 9
    ·have d0 := hmr.cell hlt hkl
     have d1 := hmr.cell hlt hf
     have d2 := hmr.cell ht hkl
     have e0 : mixM f t m b (i * 9 + k) i k = b i k := by unfold mixM; rw [if_neg (by omega)]
     have e1 : mixM f t m b (i * 9 + k) i f = b i f := by
      unfold mixM
      split
      ·exact HF.out i
      ·rfl
     have e2 : mixM f t m b (i * 9 + k) t k = b t k := by
      unfold mixM
      split
      ·exact HT.out k
      ·rfl
     rw [e0] at d0
     rw [e1] at d1
     rw [e2] at d2
     clear e0 e1 e2
     have es := Lib.hid (mixM_step f t m b hlt hkl)
     have HM2 := Lib.hid hmr
     have HG2 := Lib.hid hg
     have fz := hmr.frozen (i * 9 + k)
     clear hmr hg
     have p1 := HB.out.ge hlt hf
     have p2 := HB.out.le i f hlt hf
     have p3 := HB.out.ge ht hkl
     have p4 := HB.out.le t k ht hkl
     have ebm : bindM f t m b i k = min (b i k) (b i f + m + b t k) := rfl
     rw [ebm] at es
     clear ebm
     generalize b i k = z0 at *
     generalize b i f = z1 at *
     generalize b t k = z2 at *
     go_wp2
     have s1 : IntKind.i64.wrap (z1 + m) = z1 + m := IntWalk.i64_in _ (by omega)
     have s2 : IntKind.i64.wrap (z1 + m + z2) = z1 + m + z2 := IntWalk.i64_in _ (by omega)
     refine region_quiet_tail (C := fun w' => ∃ n, w' = wr.drewN n) 31 (by kernel_rfl) (by kernel_rfl) ⟨1, rfl⟩ ?_
     simp only [List.take_succ_cons, List.take_zero, List.drop_succ_cons, List.drop_zero]
     repeat (first | go_big_quiet_step (fail) | quiet_step (fail))
     refine wpQuiet_nil ?_
     rintro _ ⟨n1, rfl⟩
     go_wp2
     go_roundw
     case rel =>
      refine ⟨k + 1, by omega, by go_num, ?_, HG2.out.trans ((grown_qt ⟨n1, rfl⟩ _).trans (grown_setCell _ _ _ _))⟩
      unfold MatAt
      rw [← Nat.add_assoc, ← es.out]
      exact heap_setCell_row HM2.out _
     case measure => simp [intOf]; omega
    ·have hk9 : k = 9 := by omega
     subst hk9
     have HM2 := Lib.hid hmr
     have HG2 := Lib.hid hg
     clear hmr hg
     go_wp2
     go_roundw
     case rel => exact ⟨i + 1, by omega, by go_num, by rw [Nat.add_mul]; exact HM2.out, HG2.out⟩
     case measure => simp [intOf]; omega
  ·have hi9 : i = 9 := by omega
   subst hi9
   go_wp2
   go_ret
   refine ⟨rfl, ?_, HG.out⟩
   have := HM.out
   unfold MatAt at this ⊢
   rw [← mixM_all]
   exact this
theorem bind_any {w : World} {g : Nat} {T : TypeId} {b : Mat} {f t : Nat} {m : Int} (hm : MatAt w g T b) (hf : f < 9) (ht : t < 9) (hb : Fine b) (hm0 : -100000 ≤ m) (hm1 : m ≤ 100000) :
  Calls Tryz.prog 60 #[.pointer (some ⟨g, 0, none⟩), .int .i64 f, .int .i64 t, .int .i64 m] w fun e w' => e = .returned (.bool (bindB f t m b)) ∧ MatAt w' g T (bindR f t m b) ∧ w.grownBy w' (some g) := by
 by_cases h0 : b f t ≤ m
 ·refine (bind_yes hm hf ht h0).mono ?_
  rintro e w' ⟨rfl, rfl⟩
  exact ⟨ret_bool (by simp [bindB, h0]), by unfold bindR; rw [if_pos h0]; exact hm, World.grownBy.refl _ _⟩
 ·by_cases h1 : 0 ≤ m + b t f
  ·refine (bind_do hm hf ht h0 h1 hb hm1).mono ?_
   rintro e w' ⟨rfl, h2, h3⟩
   exact ⟨ret_bool (by simp [bindB, h1]), by unfold bindR; rw [if_neg h0, if_pos h1]; exact h2, h3⟩
  ·refine (bind_not hm hf ht h0 (by omega) hm0 hb).mono ?_
   rintro e w' ⟨rfl, rfl⟩
   exact ⟨ret_bool (by simp [bindB, h0, h1]), by unfold bindR; rw [if_neg h0, if_neg h1]; exact hm, World.grownBy.refl _ _⟩
end Go.Proofs.YthnimhnlnddnoaaGreatDoor
