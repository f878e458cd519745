/- A range over a function whose round is one statement that may panic: our own law. Walks of the layer sheet: the text of a sheet. -/
import Derived.Test.YtajdgdelhlfniaaGreatDoorH9
import Derived.Test.YtajdgdelhlfniaaGreatDoorH5
import Derived.Test.YtajdgdelhlfniaaGreatDoorH8
import Derived.Test.YtajdgdelhlfniaaGreatDoorH7
import Derived.WalkMore
import Derived.WalkKit
import Derived.Deep.Quiet
set_option linter.unusedSimpArgs false
set_option linter.unusedVariables false
namespace Go.Proofs.YtajdgdelhlfniaaGreatDoor
open Go.RowKit Go.Shelf

section
variable {F : Fence} {n : Nat} {P : Program}
/-- a frame that dies within a statement dies at its caller -/
theorem step_up_died {b c : Frame} {a : Act} {ops : Array Oper} {l : List Nat} {k : List Item} {cs : List Frame} {w : World} {chain : List PanicEntry} (hd : a.defers = []) :
    step P (lone { b.atR a (.inRegion ops l :: k) with mode := .panicking chain } (c :: cs) w) = .next (lone (c.raise chain) cs w) :=
  step_lone_go (by
    have hd' : ({ b.atR a (.inRegion ops l :: k) with mode := .panicking chain } : Frame).defers = [] := hd
    have ht : ({ b.atR a (.inRegion ops l :: k) with mode := .panicking chain } : Frame).todo = .inRegion ops l :: k := rfl
    have hm : ({ b.atR a (.inRegion ops l :: k) with mode := .panicking chain } : Frame).mode = .panicking chain := rfl
    generalize ({ b.atR a (.inRegion ops l :: k) with mode := .panicking chain } : Frame) = fr at *
    cases hf : P.funcs[fr.fn]? <;> simp [stepG, unwind, Frame.catches, hm, hd', hf, ht])
/-- what operations of a statement do, one after the other: to its end (N), or to a panic within it (D) -/
def OpsTo (F : Fence) (n : Nat) (P : Program) (ops : Array Oper) (l : List Nat) (a : Act) (w : World) (N : Act → World → Prop) (D : List PanicEntry → World → Prop) : Prop :=
  ∀ (b : Frame) (k : List Item) (cs : List Frame), b.roundOf = F.round → F.fn b.fn → F.room (cs.length + 1 + n) →
    (∃ a' w', N a' w' ∧ StepsIn (Machine.fenced P F) P (lone (b.atR a (.inRegion ops l :: k)) cs w) (lone (b.atR a' k) cs w')) ∨
    (∃ c a' w' l', D c w' ∧ a'.defers = [] ∧ StepsIn (Machine.fenced P F) P (lone (b.atR a (.inRegion ops l :: k)) cs w) (lone { b.atR a' (.inRegion ops l' :: k) with mode := .panicking c } cs w'))
variable {ops : Array Oper} {a : Act} {w : World} {N : Act → World → Prop} {D : List PanicEntry → World → Prop}
theorem opsTo_nil (h : N a w) : OpsTo F n P ops [] a w N D := fun _ _ _ _ hb hr => .inl ⟨a, w, h, .one (fenced_calm hb hr rfl) stepR_region_end⟩
theorem about_none {o : Oper} {v : Value} {w' : World} (hr : (execOp a.eval o).run P w = .ok (.value v) w') (hd : ∀ c, o.op ≠ .call c) : o.about P w a.eval = none := by
  unfold Oper.about
  split
  · rename_i c hc
    exact absurd hc (hd c)
  · rfl
theorem opsTo_value {i : Nat} {rest : List Nat} {o : Oper} {v : Value} {w' : World} (ho : ops[i]? = some o) (hg : o.guard = none) (hdf : ∀ c, o.op ≠ .defer c) (hcl : ∀ c, o.op ≠ .call c) (hr : (execOp a.eval o).run P w = .ok (.value v) w')
    (h : OpsTo F n P ops rest (a.put o.dst v) w' N D) : OpsTo F n P ops (i :: rest) a w N D := by
  intro b k cs hro hb hroom
  have hw : Region.wanted o (yielded ops a.tmps) = true := by simp [Region.wanted, hg]
  have hs := stepGR_op (P := P) (b := b) (k := k) (cs := cs) (w := w) (rest := rest) ho hw
  rw [Oper.semAt_eq _ _ _ hdf] at hs
  have hfin : (b.atR a (.inRegion ops (i :: rest) :: k)).finish v = b.atR (a.put o.dst v) (.inRegion ops rest :: k) := by rw [Frame.finish_atR, ho]; rfl
  have h0 : (lone (b.atR a (.inRegion ops (i :: rest) :: k)) cs w).fenced P F := fenced_oper hb hroom ho (fun f hf => by rw [about_none hr hcl] at hf; cases hf)
  have s1 : StepsIn (Machine.fenced P F) P (lone (b.atR a (.inRegion ops (i :: rest) :: k)) cs w) (lone (b.atR (a.put o.dst v) (.inRegion ops rest :: k)) cs w') :=
    .one h0 (step_lone_go (by rw [hs, ← hfin]; simp [stepG.apply, hr]))
  rcases h b k cs hro hb hroom with ⟨a', w2, hN, hst⟩ | ⟨c, a', w2, l', hD, hdef, hst⟩
  · exact .inl ⟨a', w2, hN, s1.trans hst⟩
  · exact .inr ⟨c, a', w2, l', hD, hdef, s1.trans hst⟩
theorem opsTo_call {i : Nat} {rest : List Nat} {o : Oper} {f : FuncId} {args : Array Value} {w' : World} (ho : ops[i]? = some o) (hg : o.guard = none) (hdf : ∀ c, o.op ≠ .defer c) (hr : (execOp a.eval o).run P w = .ok (.enter f args) w')
    (hab : ∀ f, o.about P w a.eval = some f → F.fn f) (hn : F.depth.isSome = true → 1 ≤ n) (had : a.defers = [])
    (h : CallsIn F (n - 1) P f args w' fun e w2 => (∃ v, e = .returned v ∧ OpsTo F n P ops rest (a.put o.dst v) w2 N D) ∨ (∃ c, e = .panicked c ∧ D c w2)) : OpsTo F n P ops (i :: rest) a w N D := by
  intro b k cs hro hb hroom
  have hw : Region.wanted o (yielded ops a.tmps) = true := by simp [Region.wanted, hg]
  have hs := stepGR_op (P := P) (b := b) (k := k) (cs := cs) (w := w) (rest := rest) ho hw
  rw [Oper.semAt_eq _ _ _ hdf] at hs
  obtain ⟨hF, h⟩ := h
  have hroom2 : F.room ((b.atR a (.inRegion ops (i :: rest) :: k) :: cs).length + 1 + (n - 1)) := Fence.room_enter hroom hn
  obtain ⟨e, w2, fr, hR, hsteps, hfn, hleave⟩ := h (b.atR a (.inRegion ops (i :: rest) :: k) :: cs) hroom2
  have h0 : (lone (b.atR a (.inRegion ops (i :: rest) :: k)) cs w).fenced P F := fenced_oper hb hroom ho hab
  have henter : step P (lone (b.atR a (.inRegion ops (i :: rest) :: k)) cs w) = .next (lone (Frame.enter P f args .normal) (b.atR a (.inRegion ops (i :: rest) :: k) :: cs) w') :=
    step_lone_go (by rw [hs]; simp [stepG.apply, hr, Frame.atR])
  rcases hR with ⟨v, rfl, hR⟩ | ⟨c, rfl, hD⟩
  · have hl : (lone fr (b.atR a (.inRegion ops (i :: rest) :: k) :: cs) w2).fenced P F := fenced_leaving (hfn ▸ hF) hroom2 hleave
    have hfin : (b.atR a (.inRegion ops (i :: rest) :: k)).finish v = b.atR (a.put o.dst v) (.inRegion ops rest :: k) := by rw [Frame.finish_atR, ho]; rfl
    have s1 : StepsIn (Machine.fenced P F) P (lone (b.atR a (.inRegion ops (i :: rest) :: k)) cs w) (lone (b.atR (a.put o.dst v) (.inRegion ops rest :: k)) cs w2) :=
      .head h0 henter (StepsIn.trans hsteps (.one hl (by rw [← hfin]; exact step_leave_returned hleave)))
    rcases hR b k cs hro hb hroom with ⟨a', w3, hN, hst⟩ | ⟨c, a', w3, l', hD, hdef, hst⟩
    · exact .inl ⟨a', w3, hN, s1.trans hst⟩
    · exact .inr ⟨c, a', w3, l', hD, hdef, s1.trans hst⟩
  · have hl : (lone fr (b.atR a (.inRegion ops (i :: rest) :: k) :: cs) w2).fenced P F := fenced_leaving (hfn ▸ hF) hroom2 hleave
    exact .inr ⟨c, a, w2, i :: rest, hD, had, .head h0 henter (StepsIn.trans hsteps (.one hl (by rw [← Frame.raise_atR]; exact step_leave_panicked hleave)))⟩

theorem roundIn_died {l : Nat} {f : FuncId} {tmps : Array Value} {assign : Code} {id bid : Nat} {w : World} {R : Ending → World → Prop} (hF : F.fn f)
    (h : assign.wpIn (F.inRound l) n P (Exit.then (fun a₁ w₁ => ∃ w₂, (Instr.beginRound l).run P w₁ = .ok () w₂ ∧
      OpsTo (F.inRound l) n P ops (List.range ops.size) a₁ w₂ (fun _ w' => ∃ v w3, (Instr.endRound l none).run P w' = .ok v w3 ∧ R (.returned v) w3) (fun c w' => R (.panicked c) w')) (fun _ _ _ => False))
      { tmps := tmps, defers := [] } w) :
    RoundIn F n P l f tmps assign (.block bid (.region id ops false)) w R := by
  refine ⟨hF, fun c cs hr => ?_⟩
  let b : Frame := { (default : Frame) with fn := f, kind := .normal, roundOf := some l }
  have hb0 : Frame.round l f tmps assign (.block bid (.region id ops false)) .normal = b.atR { tmps := tmps, defers := [] } [.code assign, .beginRound, .code (.block bid (.region id ops false))] := by
    simp [Frame.round, Frame.atR, b]
  have hr' : (F.inRound l).room ((c :: cs).length + 1 + n) := hr
  have hF' : (F.inRound l).fn b.fn := hF
  obtain ⟨e, a₁, w₁, hq, harr⟩ := h b [.beginRound, .code (.block bid (.region id ops false))] (c :: cs) rfl hF' hr'
  rw [← hb0] at harr
  cases e with
  | normal =>
    obtain ⟨w₂, hbr, hbody⟩ := hq
    have s1 : StepsIn (Machine.fenced P (F.inRound l)) P (lone (b.atR a₁ [.beginRound, .code (.block bid (.region id ops false))]) (c :: cs) w₁) (lone (b.atR a₁ [.code (.block bid (.region id ops false))]) (c :: cs) w₂) :=
      .one (fenced_calm (fr := b.atR a₁ [.beginRound, .code (.block bid (.region id ops false))]) hF' hr' rfl) (stepR_beginRound rfl hbr)
    have s2 : StepsIn (Machine.fenced P (F.inRound l)) P (lone (b.atR a₁ [.code (.block bid (.region id ops false))]) (c :: cs) w₂) (lone (b.atR a₁ [.code (.region id ops false), .inBlock bid]) (c :: cs) w₂) :=
      .one (fenced_calm (fr := b.atR a₁ [.code (.block bid (.region id ops false))]) hF' hr' rfl) stepR_block
    have s3 : StepsIn (Machine.fenced P (F.inRound l)) P (lone (b.atR a₁ [.code (.region id ops false), .inBlock bid]) (c :: cs) w₂) (lone (b.atR a₁ [.inRegion ops (List.range ops.size), .inBlock bid]) (c :: cs) w₂) :=
      .one (fenced_calm (fr := b.atR a₁ [.code (.region id ops false), .inBlock bid]) hF' hr' rfl) stepR_region
    have s12 := ((StepsIn.trans harr s1).trans s2).trans s3
    rcases hbody b [.inBlock bid] (c :: cs) rfl hF' hr' with ⟨a', w3, ⟨v, w4, hend, hR⟩, hst⟩ | ⟨ch, a', w3, l', hR, hdef, hst⟩
    · exact ⟨.returned v, w4, hR, (s12.trans (StepsIn.trans hst (.one (fenced_calm (fr := b.atR a' [.inBlock bid]) hF' hr' rfl) stepR_inBlock))).trans (.one (fenced_calm (fr := b.atR a' []) hF' hr' rfl) (stepR_round_end rfl rfl hend))⟩
    · have ha : ({ b.atR a' (.inRegion ops l' :: [.inBlock bid]) with mode := .panicking ch } : Frame).about P w3 = none := by simp [Frame.about, Frame.atR, hdef]
      exact ⟨.panicked ch, w3, hR, s12.trans (StepsIn.trans hst (.one (fenced_calm (fr := { b.atR a' (.inRegion ops l' :: [.inBlock bid]) with mode := .panicking ch }) hF' hr' ha) (step_up_died hdef)))⟩
  | exit id => exact hq.elim
  | goto t => exact hq.elim
  | ret => exact hq.elim
  | panic chain => exact hq.elim
  | outgrown => exact hq.elim
end
theorem OpsTo.mono {F : Fence} {n : Nat} {P : Program} {ops : Array Oper} {l : List Nat} {a : Act} {w : World} {N N' : Act → World → Prop} {D D' : List PanicEntry → World → Prop} (h : OpsTo F n P ops l a w N D) (hN : ∀ a w, N a w → N' a w) (hD : ∀ c w, D c w → D' c w) : OpsTo F n P ops l a w N' D' := by
  intro b k cs hro hb hr
  rcases h b k cs hro hb hr with ⟨a', w', hn, hs⟩ | ⟨c, a', w', l', hd, hdf, hs⟩
  · exact .inl ⟨a', w', hN _ _ hn, hs⟩
  · exact .inr ⟨c, a', w', l', hD _ _ hd, hdf, hs⟩
/-- an iterator: it yields the D elements el 0, el 1, .. unless a round dies -/
def IterP (P : Program) (gf : FuncId) (lb : Array Value) (D : Nat) (el : Nat → Array Value) (Kp S : World → World → Prop) (St : World → Prop) : Prop :=
  ∀ (l : Nat) (Y : Nat → World → Prop) (ZP : List PanicEntry → World → Prop) (W : World),
    (∀ k A B, Y k A → S A B → Y k B) →
    (∀ k A, k < D → Y k A → YieldAt Fence.wide 0 P l (el k) A fun e B => (e = .returned (.bool true) ∧ Y (k + 1) B ∧ Kp A B) ∨ (∃ c, e = .panicked c ∧ ZP c B)) →
    Y 0 W → St W → CallsIn Fence.wide 0 P gf (#[.func (.yield l) #[] #[]] ++ lb) W fun e B => (∃ v, e = .returned v ∧ Y D B) ∨ (∃ c, e = .panicked c ∧ ZP c B)

theorem range_law_dies {P : Program} {g : Operand} {ps : Array Tmp} {assign : Code} {id bid : Nat} {ops : Array Oper} {Q : Exit → Act → World → Prop} {a : Act} {w : World} {gf : FuncId} {lb : Array Value}
    (hg : a.eval g = .func (.func gf) #[] lb) (eg : ∀ args w, (callFunc gf args).run P w = .ok (.enter gf args) w)
    {D : Nat} {el : Nat → Array Value} (hps : ∀ k, (el k).size = ps.size)
    {Kp S : World → World → Prop} {St : World → Prop} (hiter : IterP P gf lb D el Kp S St) (hst : St w) (hSt : ∀ A B, St A → Book w.heap.size A B → St B)
    (hKp : ∀ A B C, Kp A B → (∀ (b : Nat) (o : Obj), B.heap[b]? = some o → isData o = true → C.heap[b]? = some o) → Kp A C)
    (hSN : ∀ A B, S A B → NC A B)
    (J : Nat → World → Prop) (XP : List PanicEntry → World → Prop)
    (hJb : ∀ k A B, J k A → Book w.heap.size A B → J k B)
    (hJS : ∀ k A B, J k A → S A B → J k B) (h0 : J 0 w)
    (hround : ∀ (l k : Nat) (W : World), k < D → J k W → w.heap.size < l → l < W.heap.size →
      assign.wpIn (Fence.wide.inRound l) 0 P (Exit.then (fun a₁ W₁ => NC W W₁ ∧ ∀ W₂, Book w.heap.size W₁ W₂ → W₂.heap.size = W₁.heap.size →
        OpsTo (Fence.wide.inRound l) 0 P ops (List.range ops.size) a₁ W₂ (fun _ W' => NC W₂ W' ∧ J (k + 1) W' ∧ Kp W W') (fun c W' => NC W₂ W' ∧ XP c W')) (fun _ _ _ => False))
        { tmps := (ps.zip (el k)).foldl (fun t (p, v) => t.setIfInBounds p v) a.tmps, defers := [] } W)
    (hdone : ∀ (d : Nat) (W : World), w.heap.size ≤ d → J D W → W.heap[d]? = some (.deferred (some [])) → Q .normal { a with defers := { target := .collected d, args := #[] } :: a.defers } W)
    (hdies : ∀ (d : Nat) (c : List PanicEntry) (W : World), w.heap.size ≤ d → XP c W → W.heap[d]? = some (.deferred (some [])) → Q (.panic c) { a with defers := { target := .collected d, args := #[] } :: a.defers } W) :
    (Code.rangeFunc g ps assign (.block bid (.region id ops false))).wp P Q a w := by
  refine (wpIn_wide (n := 0)).1 (wpIn_rangeFunc ?_)
  intro fn hfn
  rw [show Fence.wide.round = none from rfl]
  obtain ⟨rec, hrec⟩ : ∃ rec : LoopState → Option Code → Loop, rec = fun st pe => { state := st, pending := pe, fn, tmps := a.tmps, params := ps, assign, body := .block bid (.region id ops false), defers := w.heap.size } := ⟨_, rfl⟩
  obtain ⟨W1, hW1⟩ : ∃ W1, (w.alloc (.deferred (some []))).alloc (.loop (rec .ready none)) = W1 := ⟨_, rfl⟩
  have hz1 : W1.heap.size = w.heap.size + 2 := by rw [← hW1]; simp
  have hL1 : W1.heap[w.heap.size + 1]? = some (.loop (rec .ready none)) := by
    rw [← hW1]; have := World.alloc_heap_new (w.alloc (.deferred (some []))) (.loop (rec .ready none)); rwa [World.size_alloc] at this
  have hK1 : W1.heap[w.heap.size]? = some (.deferred (some [])) := by
    rw [← hW1]; exact (Below.heap_alloc _ _ _ (by simp)).trans (World.alloc_heap_new w _)
  have hbk1 : Book w.heap.size w W1 := by rw [← hW1]; exact ((Book.refl _ w).alloc (Nat.le_refl _) _).alloc (by simp) _
  have hJ1 : J 0 W1 := hJb _ _ _ h0 (by rw [← hW1]; exact ((Book.refl _ w).alloc (Nat.le_refl _) _).alloc (by simp) _)
  refine ⟨w.heap.size + 1, [{ target := .collected w.heap.size, args := #[] }], W1, { target := .fn (.func gf) lb, args := #[.func (.yield (w.heap.size + 1)) #[] #[]] }, W1, gf,
    #[.func (.yield (w.heap.size + 1)) #[] #[]] ++ lb, W1, ?_, ?_, ?_, ?_, fun h => by simp [Fence.wide] at h, ?_⟩
  · rw [← hW1, hrec]; exact run_enterLoop_outer _ _ _ _ _
  · simp only [resolve, hg]
    simp [go_sem]
  · intro f' _; trivial
  · simp [invoke, go_sem, eg]
  · refine (hiter (w.heap.size + 1)
      (fun k W => J k W ∧ W.heap[w.heap.size + 1]? = some (.loop (rec .ready none)) ∧ W.heap[w.heap.size]? = some (.deferred (some [])))
      (fun c W => XP c W ∧ W.heap[w.heap.size]? = some (.deferred (some [])))
      W1 (fun k A B h hs => ⟨hJS _ _ _ h.1 hs, hSN _ _ hs _ _ h.2.1 rfl, hSN _ _ hs _ _ h.2.2 rfl⟩) ?_ ⟨hJ1, hL1, hK1⟩ (hSt _ _ hst hbk1)).mono ?_
    · rintro k W hk ⟨hj, hl, hd⟩
      have hlt : w.heap.size + 1 < W.heap.size := (Array.getElem?_eq_some_iff.1 hl).1
      have hy := run_yield (P := P) (args := el k) hl (by rw [hrec]; simp [hps])
      rw [hrec] at hy
      refine ⟨fn, _, assign, .block bid (.region id ops false), hy, roundIn_died hfn ?_⟩
      refine wpIn_mono (hround _ k W hk hj (by omega) hlt) ?_
      rintro e a₁ W₁ hp
      cases e with
      | normal =>
        obtain ⟨hnc, hb⟩ := hp
        have hl1 := hnc _ _ hl rfl
        have hd1 := hnc _ _ hd rfl
        have hlt1 : w.heap.size + 1 < W₁.heap.size := (Array.getElem?_eq_some_iff.1 hl1).1
        refine ⟨_, run_beginRound hl1 (by rw [hrec]), ?_⟩
        have hl2 : (W₁.putObj (w.heap.size + 1) (.loop { rec .ready none with state := .busy })).heap[w.heap.size + 1]? = some (.loop { rec .ready none with state := .busy }) := World.putObj_heap_same hlt1
        have hd2 : (W₁.putObj (w.heap.size + 1) (.loop { rec .ready none with state := .busy })).heap[w.heap.size]? = some (.deferred (some [])) := (World.putObj_heap_other (by omega)).trans hd1
        refine OpsTo.mono (hb _ ((Book.refl _ W₁).put (by omega) hl1 rfl _) (by simp)) ?_ ?_
        · rintro a3 W3 ⟨hk3, hi3, hkp⟩
          have hl3 := hk3 _ _ hl2 rfl
          have hr := run_endRound (P := P) none hl3
          have hb3 : Book w.heap.size W3 (W3.putObj (w.heap.size + 1) (.loop (rec .ready none))) := by rw [hrec] at hl3 ⊢; exact (Book.refl _ W3).put (by omega) hl3 rfl _
          rw [hrec] at hr
          refine ⟨_, _, hr, .inl ⟨rfl, ⟨?_, ?_, ?_⟩, ?_⟩⟩
          · have := hJb _ _ _ hi3 hb3
            rwa [hrec] at this
          · rw [hrec]; exact World.putObj_heap_same (Array.getElem?_eq_some_iff.1 hl3).1
          · exact (World.putObj_heap_other (by omega)).trans (hk3 _ _ hd2 rfl)
          · have := hKp _ _ _ hkp hb3.data
            rwa [hrec] at this
        · rintro c W3 ⟨hk3, hx⟩
          exact .inr ⟨c, rfl, hx, hk3 _ _ hd2 rfl⟩
      | ret => exact hp.elim
      | exit id => exact hp.elim
      | goto t => exact hp.elim
      | panic ch => exact hp.elim
      | outgrown => exact hp.elim
    · rintro e W2 (⟨v, rfl, hj, hl, hk⟩ | ⟨c, rfl, hx, hk⟩)
      · exact ⟨none, _, by have := run_endLoop (P := P) hl (by rw [hrec]; simp); rw [hrec] at this; exact this,
          hdone _ _ (Nat.le_refl _) (hJb _ _ _ hj ((Book.refl _ _).put (by omega) hl rfl _)) ((World.putObj_heap_other (by omega)).trans hk)⟩
      · exact hdies _ c _ (Nat.le_refl _) hx hk
end Go.Proofs.YtajdgdelhlfniaaGreatDoor
namespace Go.Proofs.YtajdgdelhlfniaaGreatDoor
open Go.RowKit

theorem line_new {w : World} {B b : Nat} {l : List UInt8} (xs : List ByteArray) (cs : Array Value) (hcs : cs = (xs.map Value.string).toArray) (n : Nat) (hn : n = xs.length) (hbd : Bld B b l w)
    (hx : xs.length ≤ 100) (hlen : l.length + (lineB (xs.map (·.data.toList))).length ≤ 1000000) (hBw : B ≤ w.heap.size) :
    Calls Tryz.prog 102 #[.slice (some ⟨w.heap.size, 0, none⟩) n n, .pointer (some ⟨b, 0, none⟩)] (w.alloc (.cells cs 9)) fun e w' => e = .returned (.tuple #[]) ∧ Bld B b (l ++ lineB (xs.map (·.data.toList))) w' ∧ Below B w w' := by
  subst hcs hn
  refine (line_any (w := w.alloc (.cells (xs.map Value.string).toArray 9)) xs ⟨builder_below hbd.1 ((Below.refl _ _).alloc (Nat.le_refl _) _), hbd.2⟩ (fun j x hj => ?_) (by simp) (Nat.le_refl _) hx hlen (by simp; omega)).mono ?_
  · refine (cell_of_row _ _ (0 + j) _ _ _ (heap_alloc_new w _)).trans ?_
    simp [hj]
  · rintro e w' ⟨rfl, hb, hk⟩
    exact ⟨rfl, hb, ((Below.refl B w).alloc hBw _).trans hk⟩

theorem lineB_len {ws : List (List UInt8)} {m : Nat} (h : ∀ x ∈ ws, x.length ≤ m) : (lineB ws).length ≤ ws.length * (m + 1) + 1 := by
  unfold lineB
  rw [List.length_append]
  have : (Lib.join ws [32]).length ≤ ws.length * (m + 1) := by
    cases ws with
    | nil => simp [Lib.join_nil]
    | cons x r =>
      rw [Lib.join_cons, List.length_append]
      have h1 : (Lib.joinTail [32] r).length ≤ r.length * (m + 1) := by
        have h2 : ∀ y ∈ r, y.length ≤ m := fun y hy => h y (List.mem_cons_of_mem _ hy)
        clear h
        unfold Lib.joinTail
        induction r with
        | nil => simp
        | cons y r ih =>
          simp only [List.map_cons, List.flatten_cons, List.length_append, List.length_cons, List.length_nil]
          have := h2 y (List.mem_cons_self ..)
          have := ih (fun z hz => h2 z (List.mem_cons_of_mem _ hz))
          rw [Nat.add_mul]
          omega
      have := h x (List.mem_cons_self ..)
      rw [List.length_cons, Nat.add_mul]
      omega
  simp only [List.length_cons, List.length_nil]
  omega
theorem flatB_len {α : Type} {l : List α} {f : α → List UInt8} {m : Nat} (h : ∀ x ∈ l, (f x).length ≤ m) : (l.flatMap f).length ≤ l.length * m := by
  induction l with
  | nil => simp
  | cons x r ih =>
    rw [List.flatMap_cons, List.length_append, List.length_cons, Nat.add_mul]
    have := h x (List.mem_cons_self ..)
    have := ih (fun y hy => h y (List.mem_cons_of_mem _ hy))
    omega
def itB (n : Int) : ByteArray := ⟨(Lib.itoa n).toArray⟩
def ptAt (s : ShR) (i : Int) : ByteArray := s.pts[i.toNat]?.getD ByteArray.empty
def wSheet : ByteArray := ⟨#[115, 104, 101, 101, 116]⟩
def wPoint : ByteArray := ⟨#[112, 111, 105, 110, 116]⟩
def wSpot : ByteArray := ⟨#[115, 112, 111, 116]⟩
def wContour : ByteArray := ⟨#[99, 111, 110, 116, 111, 117, 114]⟩
def wLake : ByteArray := ⟨#[108, 97, 107, 101]⟩
def wSlope : ByteArray := ⟨#[115, 108, 111, 112, 101]⟩
/-- the words of a line of a note -/
def noteW (s : ShR) (x : NoteR) : List ByteArray :=
  if x.kind = 1 then [wSpot, ptAt s x.a, itB x.lo, itB x.hi]
  else if x.kind = 2 then [wContour, ptAt s x.a, itB x.lo, itB x.hi]
  else if x.kind = 3 then [wLake, ptAt s x.a, ptAt s x.b]
  else [wSlope, ptAt s x.a, ptAt s x.b, itB x.lo, itB x.hi]
def lineW (ws : List ByteArray) : List UInt8 := lineB (ws.map (·.data.toList))
def headB (s : ShR) : List UInt8 := lineW [wSheet, itB s.iv]
def ptsB (l : List ByteArray) : List UInt8 := l.flatMap fun p => lineW [wPoint, p]
def notesB (s : ShR) (l : List NoteR) : List UInt8 := l.flatMap fun x => lineW (noteW s x)
def textB (s : ShR) : List UInt8 := headB s ++ ptsB s.pts ++ notesB s s.notes
theorem ptsB_snoc {l : List ByteArray} {k : Nat} (hk : k < l.length) : ptsB (l.take (k + 1)) = ptsB (l.take k) ++ lineW [wPoint, l[k]?.getD ByteArray.empty] := by
  rw [List.take_add_one, List.getElem?_eq_getElem hk]
  unfold ptsB
  rw [List.flatMap_append]
  simp
theorem notesB_snoc {s : ShR} {l : List NoteR} {k : Nat} (hk : k < l.length) : notesB s (l.take (k + 1)) = notesB s (l.take k) ++ lineW (noteW s (l[k]?.getD default)) := by
  rw [List.take_add_one, List.getElem?_eq_getElem hk]
  unfold notesB
  rw [List.flatMap_append]
  simp
theorem itB_len {n : Int} (h0 : -9223372036854775808 ≤ n) (h1 : n ≤ 9223372036854775807) : (itB n).data.toList.length ≤ 21 := by
  unfold itB
  simpa using Lib.itoa_length_le n h0 h1
theorem name_len {p : ByteArray} (h : nameB p = true) : p.data.toList.length ≤ 21 := by
  unfold nameB nameL at h
  split at h
  · rename_i e
    rw [e]
    simp
  · rw [Bool.and_eq_true, decide_eq_true_eq] at h
    exact Nat.le_trans h.2 (by omega)
theorem ptAt_len {s : ShR} (hg : Good s) (i : Int) : (ptAt s i).data.toList.length ≤ 21 := by
  unfold ptAt
  cases h : s.pts[i.toNat]? with
  | none => simp
  | some p => exact name_len (hg.names p (List.mem_of_getElem? h))
theorem lineW_len {ws : List ByteArray} (hn : ws.length ≤ 5) (h : ∀ x ∈ ws, x.data.toList.length ≤ 21) : (lineW ws).length ≤ 200 := by
  have := lineB_len (ws := ws.map (·.data.toList)) (m := 21) (fun x hx => by
    obtain ⟨y, hy, rfl⟩ := List.mem_map.1 hx
    exact h y hy)
  unfold lineW
  rw [List.length_map] at this
  have : ws.length * 22 ≤ 5 * 22 := Nat.mul_le_mul_right _ hn
  omega
theorem noteOK_int {np : Nat} {iv : Int} {x : NoteR} (h : NoteOK np iv x) (hiv : 1 ≤ iv) : (-9000 ≤ x.lo ∧ x.lo ≤ 9000) ∧ -9000 ≤ x.hi ∧ x.hi ≤ 9000 := by
  have hle := h.le
  rcases (show x.kind = 1 ∨ x.kind = 2 ∨ x.kind = 3 ∨ x.kind = 4 by have := h.kind; omega) with k | k | k | k
  · have := h.spot k; omega
  · obtain ⟨h1, h2, h3⟩ := h.band k
    have : x.hi * 1 ≤ x.hi * iv := Int.mul_le_mul_of_nonneg_left hiv (by omega)
    omega
  · have := h.lake k; omega
  · have := h.slope k; omega
theorem noteW_len {s : ShR} (hg : Good s) {x : NoteR} (hx : x ∈ s.notes) : (lineW (noteW s x)).length ≤ 200 := by
  obtain ⟨⟨h1, h2⟩, h3, h4⟩ := noteOK_int (hg.notes x hx) hg.iv.1
  have p1 := ptAt_len hg x.a
  have p2 := ptAt_len hg x.b
  have l1 := itB_len (n := x.lo) (by omega) (by omega)
  have l2 := itB_len (n := x.hi) (by omega) (by omega)
  unfold noteW
  split
  · exact lineW_len (by simp) (by simp only [List.mem_cons, List.not_mem_nil, or_false]; rintro y (rfl | rfl | rfl | rfl) <;> first | assumption | decide)
  · split
    · exact lineW_len (by simp) (by simp only [List.mem_cons, List.not_mem_nil, or_false]; rintro y (rfl | rfl | rfl | rfl) <;> first | assumption | decide)
    · split
      · exact lineW_len (by simp) (by simp only [List.mem_cons, List.not_mem_nil, or_false]; rintro y (rfl | rfl | rfl) <;> first | assumption | decide)
      · exact lineW_len (by simp) (by simp only [List.mem_cons, List.not_mem_nil, or_false]; rintro y (rfl | rfl | rfl | rfl | rfl) <;> first | assumption | decide)
theorem headB_len {s : ShR} (hg : Good s) : (headB s).length ≤ 200 :=
  lineW_len (by simp) (by
    have l1 := itB_len (n := s.iv) (by have := hg.iv; omega) (by have := hg.iv; omega)
    simp only [List.mem_cons, List.not_mem_nil, or_false]
    rintro y (rfl | rfl) <;> first | assumption | decide)
theorem ptsB_len {s : ShR} (hg : Good s) {l : List ByteArray} (hl : ∀ p ∈ l, p ∈ s.pts) : (ptsB l).length ≤ l.length * 200 :=
  flatB_len fun p hp => lineW_len (by simp) (by
    have l1 := name_len (hg.names p (hl p hp))
    simp only [List.mem_cons, List.not_mem_nil, or_false]
    rintro y (rfl | rfl) <;> first | assumption | decide)
theorem notesB_len {s : ShR} (hg : Good s) {l : List NoteR} (hl : ∀ p ∈ l, p ∈ s.notes) : (notesB s l).length ≤ l.length * 200 :=
  flatB_len fun p hp => noteW_len hg (hl p hp)
end Go.Proofs.YtajdgdelhlfniaaGreatDoor
