/- Parts of the proof of TpP: QTail, Big, RvK, RvK2. -/
import Derived.Test.YthnimhnlnddnoaaGreatDoorH2
import Derived.StillTail
import Derived.Deep.Quiet
import Derived.Deep.RegionHeld3
import Derived.Laws.EntriesVeiled
import Derived.Test.YthnimhnlnddnoaaGreatDoorH6
import Derived.Test.YthnimhnlnddnoaaGreatDoorH3
import Derived.WalkKit
import Derived.Shelf.Abstract
set_option linter.unusedSimpArgs false
set_option linter.unusedVariables false
set_option maxRecDepth 100000
set_option maxHeartbeats 8000000
namespace Go.Proofs.YthnimhnlnddnoaaGreatDoor
open Go.RowKit
section
variable {P : Program} {ops : Array Oper} {md : Region.Mode} {C : World → Prop}
def headQ (P : Program) (md : Region.Mode) (ops : Array Oper) (C : World → Prop) (n : Nat) (L : Array Bool → Act → Prop) : Nat → Array Bool → Act → Prop
 | 0, listed, a => L listed a
 | f + 1, listed, a => Region.ready md ops listed ≠ [] ∧ ∀ i ∈ Region.ready md ops listed, i < n ∧ qOp P ops C i (headQ P md ops C n L f (listed.setIfInBounds i true)) a
theorem any_of_headQ {n g : Nat} {L : Array Bool → Act → Prop} {Q' : Exit → Act → World → Prop} (hL : ∀ listed a w, C w → L listed a → wpAny P md ops Q' g listed a w) :
  ∀ (f : Nat) (listed : Array Bool) (a : Act) (w : World), C w → headQ P md ops C n L f listed a → wpAny P md ops Q' (f + g) listed a w := by
 intro f
 induction f with
 | zero => intro listed a w hw h; rw [Nat.zero_add]; exact hL _ _ _ hw h
 | succ f ih =>
  intro listed a w hw h
  rw [show f + 1 + g = (f + g) + 1 by omega]
  exact ⟨fun h0 => absurd h0 h.1, fun i hi => wpOp_of_qOp hw (fun a' w' hw' h' => ih _ a' w' hw' h') (h.2 i hi).2⟩
def sinkFrom (md : Region.Mode) (ops : Array Oper) (k0 n : Nat) : Bool :=
 (List.range n).all fun i => decide (i < k0) || (List.range (n + 1)).any fun j => decide (i < j) && Region.waitsFor md ops j i
theorem tail_later {k0 n : Nat} {listed : Array Bool} (hs : sinkFrom md ops k0 n = true) (hc : Region.chainB md ops n = true) (hn : n < ops.size) (inv : HeadInv md ops n listed) :
  ∀ (d i : Nat), n - i = d → k0 ≤ i → i < n → listed.getD i true = false → ∀ t, n ≤ t → t ∉ Region.ready md ops listed := by
 intro d
 induction d using Nat.strongRecOn with
 | _ d ih =>
  intro i hd hk hi hun t ht hr
  obtain ⟨_, ot, hot, hall⟩ := mem_ready.1 hr
  have htlt : t < ops.size := (Array.getElem?_eq_some_iff.1 hot).1
  by_cases htn : t = n
  ·subst htn
   have h1 := List.all_eq_true.1 hs i (List.mem_range.2 hi)
   simp only [Bool.or_eq_true, decide_eq_true_eq] at h1
   obtain ⟨j, hj, hj2⟩ := List.any_eq_true.1 (h1.resolve_left (by omega))
   simp only [Bool.and_eq_true, decide_eq_true_eq] at hj2
   obtain ⟨oj, hoj, e, he, hb, hon⟩ := Region.waitsFor_spec hj2.2
   have hjle : j ≤ t := by have := List.mem_range.1 hj; omega
   by_cases hjt : j = t
   ·subst hjt
    obtain rfl : oj = ot := Option.some.inj (hoj.symm.trans hot)
    have h2 := hall e he hb
    rw [hon, getD_both hun] at h2
    cases h2
   ·cases hl : listed.getD j false with
    | true =>
     have h2 := inv.closed j oj hoj hl e he hb
     rw [hon, getD_both hun] at h2
     cases h2
    | false => exact ih (t - j) (by omega) j rfl (by omega) (by omega) (getD_in (by rw [inv.size]; omega) hl) t (Nat.le_refl _) hr
  ·have h1 := List.all_eq_true.1 hc t (List.mem_range.2 htlt)
   simp only [Bool.or_eq_true, decide_eq_true_eq] at h1
   obtain ⟨o', ho', e, he, hb, hon⟩ := Region.waitsFor_spec (h1.resolve_left (by omega))
   obtain rfl : o' = ot := Option.some.inj (ho'.symm.trans hot)
   have h2 := hall e he hb
   rw [hon, getD_both (inv.tail (t - 1) (by omega) (by omega))] at h2
   cases h2
theorem headQ_first {k0 n i : Nat} {oi : Oper} {v : Value} {L : Array Bool → Act → Prop} (hi : ops[i]? = some oi) (hsel : ∀ (j : Nat) (o : Oper) cs b, ops[j]? = some o → o.op ≠ .select cs b)
  (hs : sinkFrom md ops k0 n = true) (hc : Region.chainB md ops n = true) (hn : n < ops.size) (hki : k0 ≤ i) (hin : i < n) (hdone : ∀ listed a, L listed a → ∀ j ∈ Region.ready md ops listed, n ≤ j) :
  ∀ (f : Nat) (listed : Array Bool) (a : Act), HeadInv md ops n listed →
   (∀ j oj, ops[j]? = some oj → j ≠ i → listed.getD j true = false → (∀ e ∈ oj.after, Region.binds md e = true → e.on ≠ i) → oi.apart ops oj = true) →
   i ∈ Region.ready md ops listed → YieldsIn P ops C oi v a →
   headQ P md ops C n L f (listed.setIfInBounds i true) (a.put oi.dst v) → headQ P md ops C n L (f + 1) listed a := by
 intro f
 induction f with
 | zero =>
  intro listed a inv _ hr hy H
  have hun := (mem_ready.1 hr).1
  refine ⟨fun h => (by rw [h] at hr; cases hr), fun j hj => ?_⟩
  have hjn : j < n := Nat.lt_of_not_le fun h => absurd hj (tail_later hs hc hn inv _ i rfl hki hin hun j h)
  refine ⟨hjn, ?_⟩
  by_cases hji : j = i
  ·subst hji; exact hy.qOp hi H
  ·have := hdone _ _ H j (ready_mono hj hji)
   omega
 | succ f ih =>
  intro listed a inv hfree hr hy H
  have hun := (mem_ready.1 hr).1
  refine ⟨fun h => (by rw [h] at hr; cases hr), fun j hj => ?_⟩
  have hjn : j < n := Nat.lt_of_not_le fun h => absurd hj (tail_later hs hc hn inv _ i rfl hki hin hun j h)
  refine ⟨hjn, ?_⟩
  by_cases hji : j = i
  ·subst hji; exact hy.qOp hi H
  ·obtain ⟨hjun, oj, hoj, hall⟩ := mem_ready.1 hj
   have hnot : ∀ e ∈ oj.after, Region.binds md e = true → e.on ≠ i := fun e he hb heq => by
    have h1 := hall e he hb
    rw [heq, getD_both hun] at h1
    cases h1
   have h2 := qOp_put hoj (hfree j oj hoj hji hjun hnot) (fun cs b => hsel i oi cs b hi) (fun cs b => hsel j oj cs b hoj) hy (H.2 j (ready_mono hj hji)).2
   refine qOp_mono (fun a' h3 => ih (listed.setIfInBounds j true) a' (inv.set hj hjn) (fun k ok hk hki2 hun hno => ?_) (ready_mono hr (Ne.symm hji)) h3.1 ?_) h2
   ·refine hfree k ok hk hki2 ?_ hno
    by_cases hjk : j = k
    ·subst hjk; exact hjun
    ·rwa [getD_set_ne true hjk] at hun
   ·rw [Array.setIfInBounds_comm _ _ hji]
    exact h3.2
theorem headQ_lex {k0 n g : Nat} {Lq : Act → Prop} (hsel : Region.noSelect ops = true) (hs : sinkFrom md ops k0 n = true) (hc : Region.chainB md ops n = true) (hn : n < ops.size) :
  ∀ (l : List Oper) (k : Nat) (listed : Array Bool) (a : Act), (∀ j, j < l.length → l[j]? = ops[k + j]?) → k0 ≤ k → k + l.length = n → HeadInv md ops n listed →
  Region.lexHead md ops g l.length k listed = true → wpQuiet P ops C Lq l a →
  headQ P md ops C n (fun listed' a' => Region.seqB md ops g n listed' = true ∧ Lq a') l.length listed a := by
 intro l
 induction l with
 | nil =>
  intro k listed a _ _ hk _ hB h
  obtain rfl : k = n := by simpa using hk
  exact ⟨by simpa [Region.lexHead] using hB, h⟩
 | cons o l ih =>
  intro k listed a hl hk0 hk inv hB h
  have h0 : ops[k]? = some o := by simpa using (hl 0 (by simp)).symm
  simp only [List.length_cons, Region.lexHead, Bool.and_eq_true] at hB
  obtain ⟨⟨hr, hf⟩, hB'⟩ := hB
  simp only [List.length_cons] at hk
  have hr' : k ∈ Region.ready md ops listed := by simpa using hr
  obtain ⟨v, hy, hK⟩ := yieldsIn_of_qOp (K := wpQuiet P ops C Lq l) h0 (by unfold qOp; simp only [h0]; exact h)
  exact headQ_first h0 (Region.noSelect_spec hsel) hs hc hn hk0 (by omega) (fun listed' a' hL => seqB_ready hL.1) l.length listed a inv (Region.free_spec h0 hf) hr' hy
   (ih (k + 1) _ _ (fun j hj => by have := hl (j + 1) (by simp; omega); simpa [Nat.add_assoc, Nat.add_comm 1 j] using this) (by omega) (by omega) (inv.set hr' (by omega)) hB' hK)
end
theorem sinkFrom_zero {md : Region.Mode} {ops : Array Oper} {n : Nat} (h : Region.sinkB md ops n = true) : sinkFrom md ops 0 n = true := by
 unfold sinkFrom
 unfold Region.sinkB at h
 rw [List.all_eq_true] at h ⊢
 intro i hi
 rw [h i hi]
 simp
theorem region_quiet_tail {P : Program} {C : World → Prop} {id : Nat} {Q : Exit → Act → World → Prop} {a : Act} {w : World} {l : List Oper} (n : Nat) (hm : P.follows .mixedOrders = true) (hB : Region.lexTailB .any l.toArray n = true) (hC : C w.drew)
  (h : wpQuiet P l.toArray C (fun a' => ∀ w', C w' → wpList P l.toArray Q (l.drop n) a' w') (l.take n) a) : (Code.region id l.toArray true).wp P Q a w := by
 simp only [Region.lexTailB, Bool.and_eq_true, decide_eq_true_eq] at hB
 obtain ⟨⟨⟨⟨hsel, hn⟩, hs⟩, hc⟩, hlex⟩ := hB
 have hn' : n < l.length := by simpa using hn
 have htl : (l.take n).length = n := by simp; omega
 have hdl : (l.drop n).length = l.toArray.size - n := by simp
 have H := headQ_lex (C := C) (md := .any) (k0 := 0) (g := l.toArray.size - n) hsel (sinkFrom_zero hs) hc hn (l.take n) 0 (Array.replicate l.toArray.size false) a (fun j hj => by
   rw [htl] at hj
   simp [hj]) (Nat.zero_le _) (by simpa using htl)
  ⟨by simp, fun j oj _ hl => (by rw [getD_replicate_false] at hl; cases hl), fun t _ ht => getD_in (by simpa using ht) (getD_replicate_false _ _)⟩ (by rw [htl]; exact hlex) h
 refine wp_region_any hm ?_
 have := any_of_headQ (Q' := Q) (g := l.toArray.size - n) (fun listed a' w' hw' hL => by
  have := wpAny_of_seq (md := .any) (Q' := Q) (l.drop n) n listed a' w' (fun j => by simp [List.getElem?_drop]) (by rw [hdl]; exact hL.1) (hL.2 w' hw')
  rwa [hdl] at this) _ _ _ _ hC H
 rwa [htl, show n + (l.toArray.size - n) = l.toArray.size by omega] at this
def moveTailB (ops : Array Oper) (n : Nat) : Bool :=
 Region.noSelect ops && decide (1 ≤ n) && decide (n < ops.size) && sinkFrom .any ops 1 n && Region.chainB .any ops n && Region.free .any ops (Array.replicate ops.size false) 0 && (Region.ready .any ops (Array.replicate ops.size false)).contains 0 &&
  Region.lexHead .any ops (ops.size - n) (n - 1) 1 ((Array.replicate ops.size false).setIfInBounds 0 true)
theorem region_move_quiet_tail {P : Program} {C : World → Prop} {id : Nat} {Q : Exit → Act → World → Prop} {a : Act} {w : World} {o : Oper} {l : List Oper} (n : Nat) (x : Operand) (ho : o.op = .move x) (hgd : o.guard = none)
  (hm : P.follows .mixedOrders = true) (hB : moveTailB (o :: l).toArray n = true)
  (hQ2 : ∀ c v a w, Q (.panic c) (a.put o.dst v) w → Q (.panic c) a w) (hC : C w.drew)
  (h : wpQuiet P (o :: l).toArray C (fun a' => ∀ w', C w' → wpList P (o :: l).toArray Q (l.drop (n - 1)) a' w') (l.take (n - 1)) (a.put o.dst (a.eval x))) : (Code.region id (o :: l).toArray true).wp P Q a w := by
 simp only [moveTailB, Bool.and_eq_true, decide_eq_true_eq] at hB
 obtain ⟨⟨⟨⟨⟨⟨⟨hsel, hn1⟩, hn⟩, hs⟩, hc⟩, hfree⟩, hready⟩, hlex⟩ := hB
 have hn' : n < l.length + 1 := by simpa using hn
 have hsz : (o :: l).toArray.size = l.length + 1 := by simp
 have htl : (l.take (n - 1)).length = n - 1 := by simp; omega
 have hdl : (l.drop (n - 1)).length = (o :: l).toArray.size - n := by simp; omega
 have h0 : (o :: l).toArray[0]? = some o := by simp
 refine wp_region_any hm ?_
 rw [show (o :: l).toArray.size = l.length + 1 from hsz]
 rw [hsz] at hfree hready hlex
 refine wpAny_take (v := a.eval x) h0 hsel hfree hready (fun c a w h => hQ2 c _ a w h) (.inl ⟨by simp [Region.wanted, hgd], fun w => by unfold execOp; rw [ho]; rfl⟩) ?_
 have hr0 : 0 ∈ Region.ready .any (o :: l).toArray (Array.replicate (l.length + 1) false) := by simpa using hready
 have inv0 : HeadInv .any (o :: l).toArray n (Array.replicate (l.length + 1) false) :=
  ⟨by simp, fun j oj _ hl => (by rw [getD_replicate_false] at hl; cases hl), fun t _ ht => getD_in (by simpa using ht) (getD_replicate_false _ _)⟩
 have H := headQ_lex (C := C) (md := .any) (k0 := 1) (g := l.length + 1 - n) hsel hs hc hn (l.take (n - 1)) 1 _ _ (fun j hj => by
   rw [htl] at hj
   rw [List.getElem?_take]
   simp [hj, Nat.add_comm 1 j]) (Nat.le_refl _) (by rw [htl]; omega) (inv0.set hr0 (by omega)) (by rw [htl]; exact hlex) h
 have := any_of_headQ (Q' := Q) (g := l.length + 1 - n) (fun listed a' w' hw' hL => by
  have := wpAny_of_seq (md := .any) (Q' := Q) (l.drop (n - 1)) n listed a' w' (fun j => by
   rw [List.getElem?_drop]
   obtain ⟨m, rfl⟩ : ∃ m, n = m + 1 := ⟨n - 1, by omega⟩
   rw [List.getElem?_toArray, Nat.add_sub_cancel, show m + 1 + j = (m + j) + 1 by omega, List.getElem?_cons_succ]) (by rw [hdl, hsz]; exact hL.1) (hL.2 w' hw')
  rwa [hdl, hsz] at this) _ _ _ _ hC H
 rwa [htl, show n - 1 + (l.length + 1 - n) = l.length by omega] at this
theorem region_move_quiet_tail2 {P : Program} {C : World → Prop} {id : Nat} {Q : Exit → Act → World → Prop} {a : Act} {w : World} {o : Oper} {l : List Oper} (n : Nat) (x : Operand) (ho : o.op = .move x) (hgd : o.guard = none)
  (hm : P.follows .mixedOrders = true) (hB : moveTailB (o :: l).toArray n = true) (hC : C w.drew)
  (h : wpQuiet P (o :: l).toArray C (fun a' => ∀ w', C w' → wpList P (o :: l).toArray (NoPanic Q) (l.drop (n - 1)) a' w') (l.take (n - 1)) (a.put o.dst (a.eval x))) : (Code.region id (o :: l).toArray true).wp P Q a w :=
 wp_region_noPanic (region_move_quiet_tail n x ho hgd hm hB (fun _ _ _ _ h => h.elim) hC h)
end Go.Proofs.YthnimhnlnddnoaaGreatDoor
namespace Go.Proofs.YthnimhnlnddnoaaGreatDoor
open Go.RowKit
theorem wpList_want {P : Program} {ops : Array Oper} {rest : List Oper} {o : Oper} {a : Act} {w : World} {Q : Exit → Act → World → Prop} (hw : Region.wanted o (yielded ops a.tmps) = true)
  (h : ∀ K : Act → World → Prop, (∀ a w, wpList P ops Q rest a w → K a w) → o.wp P a w K Q) : wpList P ops Q (o :: rest) a w :=
 wpList_step fun K hK => by rw [if_pos hw]; exact h K hK
theorem run_mkfn {P : Program} (f : FuncId) (cs : Array Value) (w : World) : (Instr.makeFunc (.func f) #[] cs).run P w = .ok (.func (.func f) #[] cs) w := by
 unfold Instr.makeFunc
 rfl
theorem wpList_mkfn {P : Program} {ops : Array Oper} {rest : List Oper} {o : Oper} {a : Act} {w : World} {Q : Exit → Act → World → Prop} (hgd : o.guard = none) (f : FuncId) (x : Operand) (ho : o.op = .makeFunc (.func f) #[] #[x])
  {v : Value} (hv : a.eval x = v) (h : wpList P ops Q rest (a.put o.dst (.func (.func f) #[] #[v])) w) : wpList P ops Q (o :: rest) a w := by
 refine wpList_plain hgd fun K hK => ?_
 unfold Oper.wp execOp
 rw [ho]
 have e : (#[x] : Array Operand).map a.eval = #[v] := by simp [hv]
 have e0 : (#[] : Array Operand).map a.eval = #[] := by simp
 simp only [Sem.run_bind, Sem.run_pure, e, e0, run_mkfn, Result.andThen_ok]
 exact hK _ _ h
theorem run_mkfnB {P : Program} (f : FuncId) (bs cs : Array Value) (w : World) : (Instr.makeFunc (.func f) bs cs).run P w = .ok (.func (.func f) bs cs) w := by
 unfold Instr.makeFunc
 rfl
theorem wpList_mkfnB {P : Program} {ops : Array Oper} {rest : List Oper} {o : Oper} {a : Act} {w : World} {Q : Exit → Act → World → Prop} (hgd : Region.wanted o (yielded ops a.tmps) = true) (f : FuncId) (xs ys : Array Operand) (ho : o.op = .makeFunc (.func f) xs ys)
  {bs cs : Array Value} (hb : xs.toList.map a.eval = bs.toList) (hv : ys.toList.map a.eval = cs.toList) (h : wpList P ops Q rest (a.put o.dst (.func (.func f) bs cs)) w) : wpList P ops Q (o :: rest) a w := by
 refine wpList_want hgd fun K hK => ?_
 unfold Oper.wp execOp
 rw [ho]
 have e : ys.map a.eval = cs := by rw [← Array.toList_inj, Array.toList_map]; exact hv
 have e0 : xs.map a.eval = bs := by rw [← Array.toList_inj, Array.toList_map]; exact hb
 simp only [Sem.run_bind, Sem.run_pure, e, e0, run_mkfnB, Result.andThen_ok]
 exact hK _ _ h
theorem wpList_call_clo {P : Program} {ops : Array Oper} {rest : List Oper} {o : Oper} {a : Act} {w : World} {Q : Exit → Act → World → Prop} (hgd : o.guard = none) (x : Operand) (args : Array Operand) (ts : Array TypeId) (ho : o.op = .call { callee := .value x, args := args, argTypes := ts })
  {f : FuncId} {c ws : Array Value} {v : Value} {R : World → Prop} (hx : a.eval x = .func (.func f) #[] c) (he : ∀ args w, (callFunc f args).run P w = .ok (.enter f args) w)
  (hc : Calls P f ws w fun e w' => e = .returned v ∧ R w') (hv : args.toList.map a.eval ++ c.toList = ws.toList) (h : ∀ w', R w' → wpList P ops Q rest (a.put o.dst v) w') : wpList P ops Q (o :: rest) a w := by
 refine wpList_plain hgd fun K hK => ?_
 unfold Oper.wp execOp
 rw [ho]
 have hv : args.map a.eval ++ c = ws := by
  rw [← Array.toList_inj, Array.toList_append, Array.toList_map]
  exact hv
 simp only [resolve, hx, Deferred.ofValue, Sem.run_bind, Sem.run_pure, Result.andThen_ok, invoke, Array.empty_append, hv, he]
 rw [Oper.upon_enter]
 refine hc.mono ?_
 rintro e w' ⟨rfl, hr⟩
 exact hK _ _ (h w' hr)
theorem wpList_call_bnd {P : Program} {ops : Array Oper} {rest : List Oper} {o : Oper} {a : Act} {w : World} {Q : Exit → Act → World → Prop} (hgd : Region.wanted o (yielded ops a.tmps) = true) (x : Operand) (args : Array Operand) (ts : Array TypeId) (ho : o.op = .call { callee := .value x, args := args, argTypes := ts })
  {f : FuncId} {b ws : Array Value} {v : Value} {R : World → Prop} (hx : a.eval x = .func (.func f) b #[]) (he : ∀ args w, (callFunc f args).run P w = .ok (.enter f args) w)
  (hc : Calls P f ws w fun e w' => e = .returned v ∧ R w') (hv : b.toList ++ args.toList.map a.eval = ws.toList) (h : ∀ w', R w' → wpList P ops Q rest (a.put o.dst v) w') : wpList P ops Q (o :: rest) a w := by
 refine wpList_want hgd fun K hK => ?_
 unfold Oper.wp execOp
 rw [ho]
 have hv : b ++ args.map a.eval = ws := by
  rw [← Array.toList_inj, Array.toList_append, Array.toList_map]
  exact hv
 simp only [resolve, hx, Deferred.ofValue, Sem.run_bind, Sem.run_pure, Result.andThen_ok, invoke, Array.append_empty, hv, he]
 rw [Oper.upon_enter]
 refine hc.mono ?_
 rintro e w' ⟨rfl, hr⟩
 exact hK _ _ (h w' hr)
theorem region_move_tail3 {P : Program} {C : World → Prop} {id : Nat} {Q : Exit → Act → World → Prop} {a : Act} {w : World} {o : Oper} {l : List Oper} (n : Nat) (x : Operand) (ho : o.op = .move x) (hgd : o.guard = none)
  (hm : P.follows .mixedOrders = true) (hB : moveTailB (o :: l).toArray n = true) (hC : C w.drew) {v : Value} (hv : a.eval x = v)
  (h : wpQuiet P (o :: l).toArray C (fun a' => ∀ w', C w' → wpList P (o :: l).toArray (NoPanic Q) (l.drop (n - 1)) a' w') (l.take (n - 1)) (a.put o.dst v)) : (Code.region id (o :: l).toArray true).wp P Q a w := by
 subst hv
 exact region_move_quiet_tail2 n x ho hgd hm hB hC h
theorem run_exec_bsB {P : Program} {o : Oper} {a : Act} {w w' : World} (T : TypeId) (n : Nat) (parts : Array (Nat × Operand)) (ho : o.op = .buildSlice T n parts) {vs : Array (Nat × Value)}
  (hv : parts.toList.map (fun (i, x) => (i, a.eval x)) = vs.toList) {v : Value} (hr : (Instr.buildSlice T n vs).run P w = .ok v w') : (execOp a.eval o).run P w = .ok (.value v) w' := by
 unfold execOp
 rw [ho]
 have hv : parts.map (fun (i, x) => (i, a.eval x)) = vs := by
  rw [← Array.toList_inj, Array.toList_map]
  exact hv
 simp only [Sem.run_bind, Sem.run_pure, hv, hr, Result.andThen_ok]
theorem wpList_bsB {P : Program} {ops : Array Oper} {rest : List Oper} {o : Oper} {a : Act} {w w' : World} {Q : Exit → Act → World → Prop} (hgd : Region.wanted o (yielded ops a.tmps) = true) (T : TypeId) (n : Nat) (parts : Array (Nat × Operand)) (ho : o.op = .buildSlice T n parts)
  {vs : Array (Nat × Value)} (hv : parts.toList.map (fun (i, x) => (i, a.eval x)) = vs.toList) {v : Value} (hr : (Instr.buildSlice T n vs).run P w = .ok v w') (h : wpList P ops Q rest (a.put o.dst v) w') : wpList P ops Q (o :: rest) a w := by
 refine wpList_want hgd fun K hK => ?_
 unfold Oper.wp
 rw [run_exec_bsB T n parts ho hv hr]
 exact hK _ _ h
end Go.Proofs.YthnimhnlnddnoaaGreatDoor
namespace Go.Proofs.YthnimhnlnddnoaaGreatDoor
open Go.RowKit
structure RLoc (r : List RvR) : Prop where
 len : 1 ≤ r.length ∧ r.length ≤ 9
 down : ∀ i, i < r.length → -1 ≤ rvD r i ∧ rvD r i < r.length ∧ rvD r i ≠ (i : Int)
 least : ∀ i, i < r.length → 0 ≤ rvL r i ∧ rvL r i ≤ 500
 lmouth : ∀ i, i < r.length → rvD r i = -1 → rvL r i = 0
 hgt : ∀ i, i < r.length → 0 ≤ rvH r i ∧ rvH r i ≤ 9000
 names : ∀ i, i < r.length → nameB (rvN r i) = true
 fresh : ∀ i, i < r.length → ∀ j, j < i → rvN r j ≠ rvN r i
 one : ∀ i k, i < r.length → k < r.length → rvD r i = -1 → rvD r k = -1 → i = k
theorem RGood.loc {r : List RvR} (h : RGood r) : RLoc r := ⟨h.len, h.down, h.least, h.lmouth, h.hgt, h.names, h.fresh, h.mouth⟩
def mouR (r : List RvR) (k : Nat) : Nat := ((List.range k).filter fun i => decide (rvD r i = -1)).length
theorem mouR_succ (r : List RvR) (k : Nat) : mouR r (k + 1) = if rvD r k = -1 then mouR r k + 1 else mouR r k := by
 unfold mouR
 rw [List.range_succ, List.filter_append]
 by_cases h : rvD r k = -1
 ·rw [if_pos h]; simp [h]
 ·rw [if_neg h]; simp [h]
theorem mouR_zero {r : List RvR} : ∀ {k : Nat}, (∀ i, i < k → rvD r i ≠ -1) → mouR r k = 0
 | 0, _ => rfl
 | k + 1, h => by rw [mouR_succ, if_neg (h k (by omega))]; exact mouR_zero fun i hi => h i (by omega)
theorem mouR_one {r : List RvR} (hl : RLoc r) {k : Nat} (hk : k < r.length) (hm : rvD r k = -1) : mouR r k = 0 :=
 mouR_zero fun i hi h => by have := hl.one i k (by omega) hk h hm; omega
theorem mouR_pos {r : List RvR} {i : Nat} (hm : rvD r i = -1) : ∀ {k : Nat}, i < k → 1 ≤ mouR r k
 | 0, h => absurd h (by omega)
 | k + 1, h => by
  rw [mouR_succ]
  split
  ·omega
  ·rename_i hn
   exact mouR_pos hm (Nat.lt_of_le_of_ne (by omega) fun e => hn (by rw [← e]; exact hm))
theorem mouR_le {r : List RvR} (hl : RLoc r) : ∀ {k : Nat}, k ≤ r.length → mouR r k ≤ 1
 | 0, _ => by simp [mouR]
 | k + 1, h => by
  rw [mouR_succ]
  split
  ·rename_i hm
   rw [mouR_one hl (by omega) hm]
   exact Nat.le_refl _
  ·exact mouR_le hl (by omega)
def rnmR (r : List RvR) (k : Nat) : List ByteArray := (r.take k).map (·.name)
theorem rnm_succ {r : List RvR} {k : Nat} (hk : k < r.length) : rnmR r (k + 1) = rnmR r k ++ [rvN r k] := by
 unfold rnmR rvN
 rw [take_succ_getD hk default, List.map_append]
 rfl
theorem rnm_fresh {r : List RvR} (hl : RLoc r) {k : Nat} (hk : k < r.length) : cnt (rnmR r k) (rvN r k) = 0 := by
 rw [cnt_zero, List.any_eq_false]
 intro x hx
 obtain ⟨y, hy, rfl⟩ := List.mem_map.1 hx
 obtain ⟨j, hj, rfl⟩ := List.mem_iff_getElem.1 hy
 rw [List.length_take] at hj
 have hf := hl.fresh k hk j (by omega)
 rw [List.getElem_take]
 intro e
 have e3 : (r[j].name).toList = (rvN r k).toList := by simpa using e
 rw [ByteArray.toList_eq, ByteArray.toList_eq] at e3
 apply hf
 unfold rvN at e3 ⊢
 rw [getD_at (by omega : j < r.length)]
 exact ByteArray.ext (Array.toList_inj.1 e3)
theorem name_size {s : ByteArray} (h : nameB s = true) : s.size ≤ 16 := by
 have h : nameL s.data.toList = true := h
 have hs : s.size = s.data.toList.length := (Array.length_toList (xs := s.data)).symm
 rw [hs]
 revert h
 generalize s.data.toList = l
 intro h
 cases l with
 | nil => simp
 | cons c t =>
  simp only [nameL, Bool.and_eq_true, decide_eq_true_eq] at h
  exact h.2
theorem walk_next (r : List RvR) : ∀ (k i : Nat), walkR r (k + 1) i = stepR r (walkR r k i)
 | 0, _ => rfl
 | k + 1, i => walk_next r k (stepR r i)
theorem loc_walk {r : List RvR} (hl : RLoc r) : ∀ (k : Nat) {i : Nat}, i < r.length → walkR r k i < r.length
 | 0, _, h => h
 | k + 1, i, h => by
  show walkR r k (stepR r i) < r.length
  refine loc_walk hl k ?_
  have := hl.down i h
  unfold stepR
  split <;> omega
def ckP (m : Nat) : Int := if m = 0 then 3 else 0
def ckE (m : Nat) : Int := if m = 0 then 8 else 0
end Go.Proofs.YthnimhnlnddnoaaGreatDoor
namespace Go.Proofs.YthnimhnlnddnoaaGreatDoor
open Go.RowKit Go.Shelf
theorem run_bs30 (a : Int) (w : World) : (Instr.buildSlice 30 1 #[(0, .int .i64 a)]).run Tryz.prog w = .ok (.slice (some ⟨w.heap.size, 0, none⟩) 1 1) (w.alloc (.cells #[.int .i64 a] 3)) := by kernel_rfl
theorem rout1 (w : World) (lo hi x : Int) (h : lo ≤ x ∧ x ≤ hi) : Calls Tryz.prog 72 #[.int .i64 lo, .int .i64 hi, .slice (some ⟨w.heap.size, 0, none⟩) 1 1] (w.alloc (.cells #[.int .i64 x] 3)) fun e w' => e = .returned (.bool false) ∧ Below w.heap.size w w' := by
 have e : outB lo hi [x] = false := by simp [outB]; omega
 have := rout_any (xs := [x]) lo hi (Rd.one w x) (by simp)
 rw [e] at this
 refine this.mono fun e w' ⟨h1, h2⟩ => ⟨h1, ?_⟩
 exact ((Below.refl w.heap.size w).alloc (Nat.le_refl _) _).trans (h2.mono (by simp))
theorem name_true (s : ByteArray) (w : World) (h : nameB s = true) : Calls Tryz.prog 35 #[.string s] w fun e w' => e = .returned (.bool true) ∧ Below w.heap.size w w' := by
 have := name_any s w (by have := name_size h; omega)
 rwa [h] at this
theorem met_one {w : World} {b : Nat} {l : List ByteArray} (s : ByteArray) (h : CntAt w b l) (hs : s.size ≤ 16) (hl : l.length ≤ 1000) (h0 : cnt l s = 0) :
  Calls Tryz.prog 84 #[.map (some b), .string s] w fun e w' => e = .returned (.int .i64 1) ∧ CntAt w' b (l ++ [s]) ∧ w.grownBy w' (some b) := by
 have := met_any s h (by unfold maxLen; omega) hl
 rw [h0] at this
 exact this
theorem enter84 : ∀ args w, (callFunc 84 args).run Tryz.prog w = .ok (.enter 84 args) w := enters_of Tryz.func84 (by kernel_rfl) rfl
theorem rvcheck_any {B : Nat} {w : World} {v : Value} {r : List RvR} (hs : Rd RvAt 4 B w v r) (hl : RLoc r) (he : mouR r r.length ≠ 0 → ∀ i, i < r.length → rvD r (walkR r r.length i) = -1) (hB : B ≤ w.heap.size) :
  Calls Tryz.prog 41 #[v] w fun e w' => e = .returned (.tuple #[.int .i64 (ckP (mouR r r.length)), .int .i64 0, .int .i64 (ckE (mouR r r.length))]) ∧ Below w.heap.size w w' := by
 obtain ⟨A, cap, rfl, h5, h6, _⟩ := id hs
 have hlen := hl.len
 have HS := Lib.hid hs
 have HL := Lib.hid hl
 have HE := Lib.hid he
 clear hs hl he h5 h6
 go_enter Tryz.func41, Tryz.ntmps41
 go_upto_region 3 with (first | (refine wpList_bsB rfl 30 1 _ rfl (vs := #[(0, .int .i64 r.length)]) rfl (run_bs30 _ _) ?_) | (go_at_call 72; refine (rout1 _ _ _ _ (by omega)).mono ?_; rintro e w1 ⟨rfl, hb1⟩))
 have hmm := @run_makeMap Tryz.prog
 go_upto_region 4 with (refine wpList_mkfnB rfl 84 _ _ rfl (bs := #[.map (some w1.heap.size)]) (cs := #[]) rfl rfl ?_)
 obtain ⟨W1, hW1⟩ : ∃ W1, w1.alloc (.map #[] 0) = W1 := ⟨_, rfl⟩
 have hc1 : CntAt W1 w1.heap.size (rnmR r 0) := by rw [← hW1]; exact CntAt.made w1
 have hb2 : Below w.heap.size w W1 := by rw [← hW1]; exact hb1.alloc hb1.size _
 rw [hW1]
 have HC1 := Lib.hid hc1
 have HB1 := Lib.hid hb2
 have hmw := hb1.size
 clear hmm hW1 hc1 hb2 hb1
 generalize w1.heap.size = mb at *
 go_wp2
 go_loopw [6, 20] (fun m i wr => ∃ k : Nat, k ≤ r.length ∧ i = .int .i64 k ∧ m = .int .i64 (mouR r k) ∧ CntAt wr mb (rnmR r k) ∧ Below w.heap.size w wr) (fun _ i _ => r.length - (intOf i).toNat)
 case atStart => exact ⟨0, Nat.zero_le _, rfl, rfl, HC1.out, HB1.out⟩
 case round =>
  clear HC1 HB1
  obtain ⟨k, hk, rfl, rfl, hc, hb⟩ := hrel
  by_cases hlt : k < r.length
  ·obtain ⟨ad, rfl, _, n0, n1, n2, n3⟩ := (HS.out.below (hb.mono hB)).rv hlt
   have hd := HL.out.down k hlt
   have hls := HL.out.least k hlt
   have hlm := HL.out.lmouth k hlt
   have hhg := HL.out.hgt k hlt
   have hnm := HL.out.names k hlt
   have hsz := name_size hnm
   have hfr := rnm_fresh HL.out hlt
   have HMS := Lib.hid (mouR_succ r k)
   have hm1 := fun h => mouR_one HL.out hlt h
   have hns := Lib.hid (rnm_succ hlt)
   have hnl : (rnmR r k).length ≤ 1000 := by unfold rnmR; simp; omega
   have hmb := hc.lt
   generalize rnmR r k = ns at *
   generalize mouR r k = m at *
   rw [show rvD r k = (r.getD k default).down from rfl] at hd hlm hm1 HMS
   rw [show rvL r k = (r.getD k default).least from rfl] at hls hlm
   rw [show rvH r k = (r.getD k default).hgt from rfl] at hhg
   rw [show rvN r k = (r.getD k default).name from rfl] at hnm hsz hfr hns
   generalize r.getD k default = x at *
   obtain ⟨nm, dn, ls, hg⟩ := x
   simp only at *
   obtain ⟨W2, hW2, r2, z2, b2⟩ := box_any wr #[.string nm, .int .i64 dn, .int .i64 ls, .int .i64 hg] 51
   have hmbw := hc.lt
   have HC2 := Lib.hid (hc.grown (below_grown b2 none) (by simp))
   have HB2 := Lib.hid (hb.trans (b2.mono hb.size))
   have HR2 := Lib.hid r2
   have HNM := Lib.hid hnm
   have HFR := Lib.hid hfr
   have HM1 := Lib.hid hm1
   have HLM := Lib.hid hlm
   have hgm : wr.heap.size ≠ mb := by omega
   clear hc hb r2 z2 b2 hnm hfr hm1 hlm
   go_upto_region 9 with (fail)
   rw [← hW2]
   clear hW2
   generalize wr.heap.size = g at *
   have c0 := cellOf HR2.out 0 (v := .string nm) rfl
   go_upto_region 11 with (go_at_call 35; refine (name_true _ _ HNM.out).mono ?_; rintro e w3 ⟨rfl, hb3⟩)
   have hc3 : CntAt w3 mb ns := HC2.out.grown (below_grown hb3 none) (by simp)
   have hk3 := (hb3.block _ (lt_of_block HR2.out)).trans HR2.out
   have hb3' := HB2.out.trans (hb3.mono HB2.out.size)
   have c0 := cellOf hk3 0 (v := .string nm) rfl
   have hmt := met_one nm hc3 hsz hnl HFR.out
   have HK3 := Lib.hid hk3
   have HB3 := Lib.hid hb3'
   have HMT := Lib.hid hmt
   clear hc3 hk3 hb3' hmt hb3
   go_upto_region 13 with (refine wpList_call_bnd rfl (.tmp 32) _ _ rfl (v := .int .i64 1) (ws := #[.map (some mb), .string nm]) (R := fun w' => CntAt w' mb (ns ++ [nm]) ∧ w3.grownBy w' (some mb)) rfl enter84 (HMT.out.mono fun e w' h => ⟨h.1, h.2⟩) rfl ?_; rintro w4 ⟨hc4, hg4⟩)
   have hk4 : w4.heap[g]? = some (.cells #[.string nm, .int .i64 dn, .int .i64 ls, .int .i64 hg] 51) := (hg4.block g (lt_of_block HK3.out) (by simpa using hgm)).trans HK3.out
   have HC4 := Lib.hid hc4
   have hb4 : Below w.heap.size w w4 := HB3.out.trans (grown_below hg4 hmw HB3.out.size)
   have c2 := cellOf hk4 2 (v := .int .i64 ls) rfl
   have c3 := cellOf hk4 3 (v := .int .i64 hg) rfl
   have HK4 := Lib.hid hk4
   have HB4 := Lib.hid hb4
   have hz4 := lt_of_block hk4
   have hbx : Below w4.heap.size w4 w4 := Below.refl _ _
   clear hc4 hg4 hk4 hb4 c0
   go_upto_region 15 with (first | (refine wpList_bsB rfl 30 1 _ rfl (vs := #[(0, .int .i64 ls)]) rfl (run_bs30 _ _) ?_) | (refine wpList_bsB rfl 30 1 _ rfl (vs := #[(0, .int .i64 hg)]) rfl (run_bs30 _ _) ?_) | (go_at_call 72; refine (rout1 _ _ _ _ (by omega)).mono ?_; rintro e w5 ⟨rfl, hb5⟩; replace c3 := (hb5.cell (cell_lt c3)).trans c3; replace hbx := hbx.trans (hb5.mono hbx.size)))
   have hk5 := (hbx.block g hz4).trans HK4.out
   have c1 := cellOf hk5 1 (v := .int .i64 dn) rfl
   have HK5 := Lib.hid hk5
   have HB5 := Lib.hid (HB4.out.trans (hbx.mono HB4.out.size))
   have HC5 := Lib.hid (HC4.out.grown (below_grown hbx none) (by simp))
   have hbx : Below w5.heap.size w5 w5 := Below.refl _ _
   clear c2 c3 hk5
   go_upto_region 17 with (first | (refine wpList_bsB rfl 30 1 _ rfl (vs := #[(0, .int .i64 dn)]) rfl (run_bs30 _ _) ?_) | (go_at_call 72; refine (rout1 _ _ _ _ (by omega)).mono ?_; rintro e w6 ⟨rfl, hb6⟩; replace hbx := hbx.trans (hb6.mono hbx.size)))
   have hk6 := (hbx.block g (lt_of_block HK5.out)).trans HK5.out
   have HB6 := Lib.hid (HB5.out.trans (hbx.mono HB5.out.size))
   have HC6 := Lib.hid (HC5.out.grown (below_grown hbx none) (by simp))
   clear hbx c1
   have HK6 := Lib.hid hk6
   clear hk6
   by_cases hdm : dn = -1
   ·have hl0 := HLM.out hdm
    subst hdm hl0
    have c1 := cellOf HK6.out 1 (v := .int .i64 (-1)) rfl
    have c2 := cellOf HK6.out 2 (v := .int .i64 0) rfl
    have t1 : ((-1 : Int) == (k : Int)) = false := by simp
    have hm0 := HM1.out rfl
    have HM0 := Lib.hid hm0
    have hmm := HMS.out
    rw [if_pos rfl] at hmm
    have HM2 := Lib.hid hmm
    have t2 : (((m : Int) + 1) == 2) = false := by simp; omega
    have t3 : m < 5 := by omega
    clear hm0 hmm
    go_wp2
    go_roundw
    case rel => exact ⟨k + 1, by omega, by go_num, by rw [HM2.out]; rfl, by rw [hns.out]; exact HC6.out, HB6.out⟩
    case measure => simp [intOf]; omega
   ·have c1 := cellOf HK6.out 1 (v := .int .i64 dn) rfl
    have t1 : (dn == (k : Int)) = false := by simp; omega
    have t2 : (dn == -1) = false := by simpa using hdm
    have hmm := HMS.out
    rw [if_neg hdm] at hmm
    have HM2 := Lib.hid hmm
    clear hmm hdm
    go_wp2
    go_roundw
    case rel => exact ⟨k + 1, by omega, by go_num, by rw [HM2.out], by rw [hns.out]; exact HC6.out, HB6.out⟩
    case measure => simp [intOf]; omega
  ·have hkn : k = r.length := by omega
   subst hkn
   have hm1 := mouR_le HL.out (Nat.le_refl r.length)
   have HB := Lib.hid hb
   clear hc hb
   by_cases hm0 : mouR r r.length = 0
   ·have HZ := Lib.hid (show ckP (mouR r r.length) = 3 ∧ ckE (mouR r r.length) = 8 by rw [hm0]; exact ⟨rfl, rfl⟩)
    have tz : ((mouR r r.length : Int) == 0) = true := by rw [hm0]; rfl
    clear HE
    obtain ⟨m, hm⟩ : ∃ m, m = mouR r r.length := ⟨_, rfl⟩
    rw [← hm] at tz hm1 ⊢
    clear hm0 hm
    go_wp2
    go_ret3
    exact ⟨by rw [HZ.out.1, HZ.out.2]; rfl, HB.out⟩
   ·have HZ := Lib.hid (show ckP (mouR r r.length) = 0 ∧ ckE (mouR r r.length) = 0 by unfold ckP ckE; rw [if_neg hm0, if_neg hm0]; exact ⟨rfl, rfl⟩)
    have hend := Lib.hid (HE.out hm0)
    have tz : ((mouR r r.length : Int) == 0) = false := by simp; omega
    clear HE
    obtain ⟨m, hm⟩ : ∃ m, m = mouR r r.length := ⟨_, rfl⟩
    rw [← hm] at tz hm1 ⊢
    clear hm0 hm
    go_wp2
    go_loopw [93] (fun i wr => ∃ k : Nat, k ≤ r.length ∧ i = .int .i64 k ∧ Below w.heap.size w wr) (fun i _ => r.length - (intOf i).toNat)
    case atStart => exact ⟨0, Nat.zero_le _, rfl, HB.out⟩
    case round =>
     clear HB
     obtain ⟨k, hk, rfl, hb⟩ := hrel
     have HB := Lib.hid hb
     clear hb
     by_cases hlt : k < r.length
     ·go_wp2
      go_loopw [11, 99] (fun t j wi => ∃ q : Nat, q ≤ r.length ∧ j = .int .i64 q ∧ t = .int .i64 (walkR r q k) ∧ Below w.heap.size w wi) (fun _ j _ => r.length - (intOf j).toNat)
      case atStart => exact ⟨0, Nat.zero_le _, rfl, rfl, HB.out⟩
      case round =>
       clear HB
       obtain ⟨q, hq, rfl, rfl, hb⟩ := hrel
       have hwl := loc_walk HL.out q hlt
       have HN := Lib.hid (walk_next r q k)
       have hdn := HL.out.down _ hwl
       obtain ⟨ad, rfl, _, _, n1, _, _⟩ := (HS.out.below (hb.mono hB)).rv hwl
       have HB := Lib.hid hb
       have HF := Lib.hid (fun (e : q = r.length) => show rvD r (walkR r q k) = -1 by rw [e]; exact hend.out k hlt)
       clear hb
       generalize walkR r q k = p at *
       have HE2 := Lib.hid (show rvD r p = (r.getD p default).down from rfl)
       rw [show rvD r p = (r.getD p default).down from rfl] at hdn
       generalize (r.getD p default).down = dn at *
       by_cases hlq : q < r.length
       ·by_cases hdm : dn = -1
        ·have HM := Lib.hid (show stepR r p = p by unfold stepR; rw [HE2.out, if_pos hdm])
         subst hdm
         go_wp2
         go_roundw
         case rel => exact ⟨q + 1, by omega, by go_num, by rw [HN.out, HM.out], HB.out⟩
         case measure => simp [intOf]; omega
        ·have HM := Lib.hid (show (stepR r p : Int) = dn by unfold stepR; rw [HE2.out, if_neg hdm]; omega)
         have t2 : (dn == -1) = false := by simpa using hdm
         clear hdm
         go_wp2
         go_roundw
         case rel => exact ⟨q + 1, by omega, by go_num, by rw [HN.out, HM.out], HB.out⟩
         case measure => simp [intOf]; omega
       ·have hdm : dn = -1 := HE2.out.symm.trans (HF.out (by omega))
        subst hdm
        go_wp2
        go_roundw
        case rel => exact ⟨k + 1, by omega, by go_num, HB.out⟩
        case measure => simp [intOf]; omega
     ·go_wp2
      go_ret3
      exact ⟨by rw [HZ.out.1, HZ.out.2]; rfl, HB.out⟩
end Go.Proofs.YthnimhnlnddnoaaGreatDoor
