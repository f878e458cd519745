/- Parts of the proof of TpP: Ghost, Iter2. -/
import Derived.Test.YthnimhnlnddnoaaGreatDoorH2
import Derived.Deep.RegionHeld3
import Derived.Test.YthnimhnlnddnoaaGreatDoorH9
set_option linter.unusedSimpArgs false
set_option linter.unusedVariables false
set_option maxRecDepth 100000
set_option maxHeartbeats 8000000
namespace Go.Proofs.YthnimhnlnddnoaaGreatDoor
open Go.RowKit
section
variable {P : Program} {ops : Array Oper}
def slotOf (ops : Array Oper) (k : Nat) : Option Tmp := (ops[k]?).bind (·.dst)
def fill (ops : Array Oper) (L : Nat → Bool) (vs : Nat → Value) (a : Act) : Nat → Act
 | 0 => a
 | k + 1 => if L k = true then (fill ops L vs a k).put (slotOf ops k) (vs k) else fill ops L vs a k
def updB (L : Nat → Bool) (i : Nat) : Nat → Bool := fun j => if j = i then true else L j
def updV (vs : Nat → Value) (i : Nat) (v : Value) : Nat → Value := fun j => if j = i then v else vs j
theorem updB_self (L : Nat → Bool) (i : Nat) : updB L i i = true := by simp [updB]
theorem updB_other (L : Nat → Bool) {i j : Nat} (h : j ≠ i) : updB L i j = L j := by simp [updB, h]
theorem updV_self (vs : Nat → Value) (i : Nat) (v : Value) : updV vs i v i = v := by simp [updV]
theorem updV_other (vs : Nat → Value) {i j : Nat} (v : Value) (h : j ≠ i) : updV vs i v j = vs j := by simp [updV, h]
def ownSlots (ops : Array Oper) : Bool :=
 (List.range ops.size).all fun i => (match ops[i]? with | some o => o.guard.isNone && o.after.all fun e => !Region.binds .any e || decide (e.on < i) | none => true) &&
  (List.range ops.size).all fun j => i == j || match slotOf ops i, slotOf ops j with | some d, some e => d != e | _, _ => true
theorem ownSlots_ne (h : ownSlots ops = true) {i j : Nat} (hi : i < ops.size) (hj : j < ops.size) (hij : i ≠ j) : ∀ d, slotOf ops i = some d → slotOf ops j ≠ some d := by
 intro d h1 h2
 have h3 := List.all_eq_true.1 h i (List.mem_range.2 hi)
 rw [Bool.and_eq_true] at h3
 have h4 := List.all_eq_true.1 h3.2 j (List.mem_range.2 hj)
 simp [h1, h2, hij] at h4
theorem ownSlots_guard (h : ownSlots ops = true) {i : Nat} {o : Oper} (hi : ops[i]? = some o) : o.guard = none ∧ ∀ e ∈ o.after, Region.binds .any e = true → e.on < i := by
 have h3 := List.all_eq_true.1 h i (List.mem_range.2 (Array.getElem?_eq_some_iff.1 hi).1)
 rw [Bool.and_eq_true] at h3
 have h4 := h3.1
 simp only [hi, Bool.and_eq_true, Option.isNone_iff_eq_none, Array.all_eq_true_iff_forall_mem, Bool.or_eq_true, Bool.not_eq_true', decide_eq_true_eq] at h4
 exact ⟨h4.1, fun e he hb => (h4.2 e he).resolve_left (by simp [hb])⟩
theorem fill_set (hs : ownSlots ops = true) {L : Nat → Bool} {vs : Nat → Value} {a : Act} {i : Nat} (hL : L i = false) (hi : i < ops.size) (v : Value) :
  ∀ n, n ≤ ops.size → fill ops (updB L i) (updV vs i v) a n = if i < n then (fill ops L vs a n).put (slotOf ops i) v else fill ops L vs a n := by
 intro n
 induction n with
 | zero => intro _; simp [fill]
 | succ k ih =>
  intro hk
  have h1 := ih (by omega)
  unfold fill
  by_cases hki : k = i
  ·subst hki
   rw [updB_self, if_pos rfl, updV_self, h1, if_neg (by omega), if_pos (by omega), hL]
   simp
  ·rw [updB_other L hki, updV_other vs v hki, h1]
   by_cases hlt : i < k
   ·rw [if_pos hlt]
    have hlt' : i < k + 1 := by omega
    cases hLk : L k with
    | false => simp [hlt']
    | true =>
     simp only [if_true, hlt']
     rw [Act.put_comm _ _ _ (ownSlots_ne hs hi (by omega) (Ne.symm hki))]
   ·have hlt' : ¬ i < k + 1 := by omega
    rw [if_neg hlt, if_neg hlt']
theorem fill_congr {L L' : Nat → Bool} {vs : Nat → Value} {a : Act} : ∀ n, (∀ i, i < n → L i = L' i) → fill ops L vs a n = fill ops L' vs a n := by
 intro n
 induction n with
 | zero => intro _; rfl
 | succ k ih =>
  intro h
  unfold fill
  rw [ih fun i hi => h i (by omega), h k (by omega)]
theorem put_size (a : Act) (d : Option Tmp) (v : Value) : (a.put d v).tmps.size = a.tmps.size := by
 cases d <;> simp [Act.put]
theorem fill_size {L : Nat → Bool} {vs : Nat → Value} {a : Act} (n : Nat) : (fill ops L vs a n).tmps.size = a.tmps.size := by
 induction n with
 | zero => rfl
 | succ k ih =>
  unfold fill
  split
  ·rw [put_size, ih]
  ·exact ih
theorem put_defers (a : Act) (d : Option Tmp) (v : Value) : (a.put d v).defers = a.defers := by
 cases d <;> simp [Act.put]
theorem fill_defers {L : Nat → Bool} {vs : Nat → Value} {a : Act} (n : Nat) : (fill ops L vs a n).defers = a.defers := by
 induction n with
 | zero => rfl
 | succ k ih =>
  unfold fill
  split
  ·rw [put_defers, ih]
  ·exact ih
theorem fill_old {L : Nat → Bool} {vs : Nat → Value} {a : Act} {x : Operand} : ∀ n, (∀ k, k < n → L k = true → ∀ d, slotOf ops k = some d → x ≠ .tmp d) → (fill ops L vs a n).eval x = a.eval x := by
 intro n
 induction n with
 | zero => intro _; rfl
 | succ k ih =>
  intro h
  unfold fill
  split
  ·rename_i hL
   rw [Act.eval_put fun d hd => h k (by omega) hL d hd, ih fun j hj => h j (by omega)]
  ·exact ih fun j hj => h j (by omega)
theorem fill_new (hs : ownSlots ops = true) {L : Nat → Bool} {vs : Nat → Value} {a : Act} {k : Nat} {d : Tmp} (hd : slotOf ops k = some d) (hk : L k = true) (hsz : d < a.tmps.size) : ∀ n, n ≤ ops.size → k < n → (fill ops L vs a n).eval (.tmp d) = vs k := by
 intro n
 induction n with
 | zero => intro _ h; omega
 | succ j ih =>
  intro hn hkj
  have hko : k < ops.size := by omega
  unfold fill
  by_cases hjk : j = k
  ·subst hjk
   rw [hk, if_pos rfl, hd]
   have : d < (fill ops L vs a j).tmps.size := by rw [fill_size]; exact hsz
   simp [Act.eval, Act.put, this]
  ·have h1 := ih (by omega) (by omega)
   split
   ·rw [Act.eval_put (fun e he => by
     intro h2
     cases h2
     exact ownSlots_ne hs hko (by omega) (Ne.symm hjk) d hd he), h1]
   ·exact h1
def waits (o : Oper) : List Nat := (o.after.toList.filter fun e => Region.binds .any e).map (·.on)
def oneSlot (ops : Array Oper) (d : Tmp) (k : Nat) : Bool := (List.range ops.size).all fun i => slotOf ops i != some d || i == k
def noSlot (ops : Array Oper) (d : Tmp) : Bool := (List.range ops.size).all fun k => slotOf ops k != some d
structure Filled (ops : Array Oper) (L : Nat → Bool) (vs : Nat → Value) (a b : Act) : Prop where
 new : ∀ (i : Nat) (d : Tmp), slotOf ops i = some d → L i = true → d < a.tmps.size → b.tmps[d]?.getD undef = vs i
 old : ∀ d : Tmp, noSlot ops d = true → b.tmps[d]?.getD undef = a.tmps[d]?.getD undef
 yet : ∀ (d : Tmp) (k : Nat), oneSlot ops d k = true → L k = false → b.tmps[d]?.getD undef = a.tmps[d]?.getD undef
 dfr : b.defers = a.defers
theorem fill_filled (hs : ownSlots ops = true) (L : Nat → Bool) (vs : Nat → Value) (a : Act) : Filled ops L vs a (fill ops L vs a ops.size) := by
 constructor
 ·intro i d hd hi hsz
  have hlt : i < ops.size := by
   rcases Nat.lt_or_ge i ops.size with h | h
   ·exact h
   ·simp [slotOf, Array.getElem?_eq_none h] at hd
  have := fill_new hs (vs := vs) (a := a) hd hi hsz ops.size (Nat.le_refl _) hlt
  simpa [Act.eval] using this
 ·intro d hd
  have := fill_old (ops := ops) (L := L) (vs := vs) (a := a) (x := .tmp d) ops.size fun k hk _ e he h => by
   cases h
   have := List.all_eq_true.1 hd k (List.mem_range.2 hk)
   simp [he] at this
  simpa [Act.eval] using this
 ·intro d j hd hj
  have := fill_old (ops := ops) (L := L) (vs := vs) (a := a) (x := .tmp d) ops.size fun k hk hLk e he h => by
   cases h
   have := List.all_eq_true.1 hd k (List.mem_range.2 hk)
   simp [he] at this
   subst this
   rw [hj] at hLk
   cases hLk
  simpa [Act.eval] using this
 ·exact fill_defers _
def EachStep (P : Program) (ops : Array Oper) (Q : Exit → Act → World → Prop) (a : Act) (I : (Nat → Bool) → (Nat → Value) → World → Prop) : List Oper → Nat → Prop
 | [], _ => True
 | o :: l, k => (∀ L vs w b, L k = false → (∀ j ∈ waits o, L j = true) → (∀ (j : Nat) oj, ops[j]? = some oj → L j = true → ∀ i ∈ waits oj, L i = true) → I L vs w → Filled ops L vs a b →
   o.wp P b w (fun a' w' => ∃ v, a' = b.put o.dst v ∧ I (updB L k) (updV vs k v) w') Q) ∧ EachStep P ops Q a I l (k + 1)
theorem EachStep.at_ {Q : Exit → Act → World → Prop} {a : Act} {I : (Nat → Bool) → (Nat → Value) → World → Prop} : ∀ (l : List Oper) (k : Nat), EachStep P ops Q a I l k → ∀ i o, l[i]? = some o →
  ∀ L vs w b, L (k + i) = false → (∀ j ∈ waits o, L j = true) → (∀ (j : Nat) oj, ops[j]? = some oj → L j = true → ∀ i ∈ waits oj, L i = true) → I L vs w → Filled ops L vs a b →
   o.wp P b w (fun a' w' => ∃ v, a' = b.put o.dst v ∧ I (updB L (k + i)) (updV vs (k + i) v) w') Q := by
 intro l
 induction l with
 | nil => intro k _ i o hi; simp at hi
 | cons x l ih =>
  intro k h i o hi
  cases i with
  | zero =>
   simp at hi
   subst hi
   exact h.1
  | succ i =>
   have := ih (k + 1) h.2 i o (by simpa using hi)
   rwa [show k + 1 + i = k + (i + 1) by omega] at this
theorem wp_of_run {Q : Exit → Act → World → Prop} {o : Oper} {a : Act} {w w' : World} {K : Value → World → Prop} {v : Value} (hr : (execOp a.eval o).run P w = .ok (.value v) w') (h : K v w') : o.wp P a w (fun a' w' => ∃ v, a' = a.put o.dst v ∧ K v w') Q := by
 unfold Oper.wp
 rw [hr]
 exact ⟨v, rfl, h⟩
theorem wp_of_skip {Q : Exit → Act → World → Prop} {o : Oper} {a : Act} {w w' : World} {K : Value → World → Prop} (hr : (execOp a.eval o).run P w = .ok .skip w') (h : K undef w') : o.wp P a w (fun a' w' => ∃ v, a' = a.put o.dst v ∧ K v w') Q := by
 unfold Oper.wp
 rw [hr]
 exact ⟨_, rfl, h⟩
theorem wp_of_call {P : Program} {Q : Exit → Act → World → Prop} {o : Oper} {a : Act} {w : World} {K : Value → World → Prop} {f : FuncId} {args : Array Value} (hr : (execOp a.eval o).run P w = .ok (.enter f args) w)
  (h : Calls P f args w fun e w' => ∃ v, e = .returned v ∧ K v w') : o.wp P a w (fun a' w' => ∃ v, a' = a.put o.dst v ∧ K v w') Q := by
 unfold Oper.wp
 rw [hr]
 refine Calls.mono h ?_
 rintro e w' ⟨v, rfl, hk⟩
 exact ⟨v, rfl, hk⟩
theorem wp_of_call2 {P : Program} {Q : Exit → Act → World → Prop} {o : Oper} {a : Act} {w : World} {K : Value → World → Prop} {f : FuncId} {args : Array Value} (hr : (execOp a.eval o).run P w = .ok (.enter f args) w)
  (h : Calls P f args w fun e w' => (∃ v, e = .returned v ∧ K v w') ∨ (∃ c, e = .panicked c ∧ Q (.panic c) a w')) : o.wp P a w (fun a' w' => ∃ v, a' = a.put o.dst v ∧ K v w') Q := by
 unfold Oper.wp
 rw [hr]
 refine Calls.mono h ?_
 rintro e w' (⟨v, rfl, hk⟩ | ⟨c, rfl, hq⟩)
 ·exact ⟨v, rfl, hk⟩
 ·exact hq
theorem rd_step {P : Nat → Prop} {val vs : Nat → Value} {L : Nat → Bool} (h : ∀ k, P k → L k = true → vs k = val k) {i : Nat} {v : Value} (hv : P i → v = val i) : ∀ k, P k → updB L i k = true → updV vs i v k = val k := by
 intro k hk hu
 by_cases e : k = i
 ·subst e; rw [updV_self]; exact hv hk
 ·rw [updV_other _ _ e]; exact h k hk (by rwa [updB_other _ e] at hu)
theorem not_yet {L : Nat → Bool} (hcl : ∀ (j : Nat) oj, ops[j]? = some oj → L j = true → ∀ i ∈ waits oj, L i = true) (j : Nat) {i : Nat} (hi : L i = false) {oj : Oper} (hj : ops[j]? = some oj) (h : (waits oj).contains i = true) : L j = false := by
 cases hL : L j with
 | false => rfl
 | true =>
  have := hcl j oj hj hL i (by simpa using h)
  rw [hi] at this
  cases this
theorem done_of {L : Nat → Bool} {o : Oper} (hw : ∀ j ∈ waits o, L j = true) (i : Nat) (h : (waits o).contains i = true) : L i = true := hw i (by simpa using h)
theorem Filled.got {ops : Array Oper} {L : Nat → Bool} {vs : Nat → Value} {a b : Act} (hf : Filled ops L vs a b) {o : Oper} (hw : ∀ j ∈ waits o, L j = true) (i : Nat) (d : Tmp) (v : Value) (hd : slotOf ops i = some d) (h : (waits o).contains i = true) (hz : d < a.tmps.size) (hv : L i = true → vs i = v) : b.tmps[d]?.getD undef = v :=
 (hf.new i d hd (done_of hw i h) hz).trans (hv (done_of hw i h))
theorem unlisted {listed : Array Bool} {j : Nat} (h : listed.getD j true = false) : j < listed.size := by
 rcases Nat.lt_or_ge j listed.size with h' | h'
 ·exact h'
 ·simp [Array.getElem?_eq_none h'] at h
def cntG (listed : Array Bool) : Nat := (listed.toList.filter fun b => !b).length
theorem cntG_set {listed : Array Bool} {i : Nat} (h : listed.getD i true = false) : cntG (listed.setIfInBounds i true) + 1 = cntG listed := by
 have hi := unlisted h
 have h' : listed.toList[i]? = some false := by
  simp [hi] at h
  simp [hi, h]
 unfold cntG
 rw [Array.toList_setIfInBounds]
 generalize listed.toList = l at *
 clear h hi
 induction l generalizing i with
 | nil => simp at h'
 | cons b l ih =>
  cases i with
  | zero => simp at h'; subst h'; simp
  | succ i =>
   have := ih (by simpa using h')
   cases b <;> simp_all
theorem cntG_zero {listed : Array Bool} (h : cntG listed = 0) (j : Nat) : listed.getD j true = true := by
 cases hj : listed.getD j true with
 | true => rfl
 | false => have := cntG_set hj; omega
theorem any_ghost {Q : Exit → Act → World → Prop} {a : Act} {I : (Nat → Bool) → (Nat → Value) → World → Prop} (hs : ownSlots ops = true) (hstep : EachStep P ops Q a I ops.toList 0)
  (hend : ∀ vs w, I (fun i => decide (i < ops.size)) vs w → Q .normal (fill ops (fun _ => true) vs a ops.size) w) :
  ∀ (f : Nat) (listed : Array Bool) (vs : Nat → Value) (w : World), listed.size = ops.size → cntG listed = f → (∀ (j : Nat) oj, ops[j]? = some oj → listed.getD j false = true → ∀ i ∈ waits oj, listed.getD i false = true) →
   I (fun i => listed.getD i false) vs w → wpAny P .any ops Q f listed (fill ops (fun i => listed.getD i false) vs a ops.size) w := by
 intro f
 induction f with
 | zero =>
  intro listed vs w hsz hc hcl hI
  have hall := cntG_zero hc
  have hL : ∀ i, i < ops.size → listed.getD i false = true := fun i hi => by
   have := hall i
   simp [hsz, hi] at this ⊢
   exact this
  refine ⟨?_, ?_⟩
  ·rw [List.eq_nil_iff_forall_not_mem]
   intro j hj
   have := (mem_ready.1 hj).1
   rw [hall j] at this
   cases this
  ·rw [fill_congr (L' := fun _ => true) ops.size hL]
   refine hend vs w ?_
   have : (fun i => listed.getD i false) = fun i => decide (i < ops.size) := by
    funext i
    by_cases hi : i < ops.size
    ·rw [hL i hi]; simp [hi]
    ·simp [hi, hsz]
   rw [this] at hI
   exact hI
 | succ f ih =>
  intro listed vs w hsz hc hcl hI
  have hex : ∃ j, listed.getD j true = false := by
   refine Classical.byContradiction fun h => ?_
   have hno : ∀ b ∈ listed.toList, b = true := fun b hb => by
    obtain ⟨j, hj, rfl⟩ := List.getElem_of_mem hb
    cases hx : listed.toList[j] with
    | true => rfl
    | false =>
     refine absurd ⟨j, ?_⟩ h
     simp at hj
     simp at hx
     simp [hj, hx]
   have : cntG listed = 0 := by
    unfold cntG
    rw [List.length_eq_zero_iff, List.filter_eq_nil_iff]
    intro b hb
    simp [hno b hb]
   omega
  have hready : Region.ready .any ops listed ≠ [] := by
   have key : ∀ n j, j ≤ n → listed.getD j true = false → Region.ready .any ops listed ≠ [] := by
    intro n
    induction n with
    | zero =>
     intro j hj hun hnil
     have hlt := unlisted hun
     rw [hsz] at hlt
     obtain ⟨o, ho⟩ : ∃ o, ops[j]? = some o := ⟨_, Array.getElem?_eq_getElem hlt⟩
     have : j ∈ Region.ready .any ops listed := mem_ready.2 ⟨hun, o, ho, fun e he hb => by have := (ownSlots_guard hs ho).2 e he hb; omega⟩
     rw [hnil] at this
     cases this
    | succ n ihn =>
     intro j hj hun hnil
     have hlt := unlisted hun
     rw [hsz] at hlt
     obtain ⟨o, ho⟩ : ∃ o, ops[j]? = some o := ⟨_, Array.getElem?_eq_getElem hlt⟩
     have : j ∈ Region.ready .any ops listed := mem_ready.2 ⟨hun, o, ho, fun e he hb => by
      have h1 := (ownSlots_guard hs ho).2 e he hb
      cases hx : listed.getD e.on true with
      | true =>
       have : e.on < listed.size := by omega
       simp [this] at hx ⊢
       exact hx
      | false => exact absurd hnil (ihn e.on (by omega) hx)⟩
     rw [hnil] at this
     cases this
   obtain ⟨j, hj⟩ := hex
   exact key j j (Nat.le_refl _) hj
  refine ⟨fun h => absurd h hready, fun i hi => ?_⟩
  obtain ⟨hun, o, ho, hall⟩ := mem_ready.1 hi
  have hlt := unlisted hun
  have hL : listed.getD i false = false := by simp [hlt] at hun ⊢; exact hun
  have hw : ∀ j ∈ waits o, listed.getD j false = true := fun j hj => by
   unfold waits at hj
   obtain ⟨e, he, rfl⟩ := List.mem_map.1 hj
   rw [List.mem_filter] at he
   exact hall e (by simpa using he.1) he.2
  have h1 := EachStep.at_ ops.toList 0 hstep i o (by simpa using ho) (fun i => listed.getD i false) vs w _ (by rw [Nat.zero_add]; exact hL) hw hcl hI (fill_filled hs _ _ _)
  rw [Nat.zero_add] at h1
  unfold wpOp
  simp only [ho]
  rw [if_pos (by simp [Region.wanted, (ownSlots_guard hs ho).1])]
  refine .inl (Oper.wp_mono ?_ h1)
  rintro a' w' ⟨v, rfl, hI'⟩
  have hsl : o.dst = slotOf ops i := by unfold slotOf; rw [ho]; rfl
  have hfun : (fun j => (listed.setIfInBounds i true).getD j false) = updB (fun j => listed.getD j false) i := by
   funext j
   unfold updB
   by_cases hji : j = i
   ·subst hji; simp [hlt]
   ·rw [if_neg hji, getD_set_ne false (Ne.symm hji)]
  have hput : (fill ops (fun i => listed.getD i false) vs a ops.size).put o.dst v = fill ops (fun j => (listed.setIfInBounds i true).getD j false) (updV vs i v) a ops.size := by
   rw [hfun, fill_set hs hL (by rw [← hsz]; exact hlt) v ops.size (Nat.le_refl _), if_pos (by rw [← hsz]; exact hlt), hsl]
  rw [hput]
  refine ih _ _ _ (by simpa using hsz) (by have := cntG_set hun; omega) ?_ (by rw [hfun]; exact hI')
  intro j oj hoj hj k hk
  by_cases hji : j = i
  ·subst hji
   obtain rfl : o = oj := Option.some.inj (ho.symm.trans hoj)
   exact getD_set_true (hw k hk)
  ·rw [getD_set_ne false (Ne.symm hji)] at hj
   exact getD_set_true (hcl j oj hoj hj k hk)
end
theorem wp_region_ghost {P : Program} {id : Nat} {Q : Exit → Act → World → Prop} {a : Act} {w : World} {l : List Oper} (I : (Nat → Bool) → (Nat → Value) → World → Prop) (hm : P.follows .mixedOrders = true) (hs : ownSlots l.toArray = true)
  (h0 : I (fun _ => false) (fun _ => undef) w.drew) (hstep : EachStep P l.toArray Q a I l 0)
  (hend : ∀ vs w, I (fun i => decide (i < l.length)) vs w → Q .normal (fill l.toArray (fun _ => true) vs a l.length) w) : (Code.region id l.toArray true).wp P Q a w := by
 refine wp_region_any hm ?_
 have hf : ∀ n, fill l.toArray (fun _ => false) (fun _ => undef) a n = a := by
  intro n
  induction n with
  | zero => rfl
  | succ n ih => unfold fill; simp [ih]
 have hfun : (fun i => (Array.replicate l.toArray.size false).getD i false) = fun _ => false := by
  funext i
  by_cases h : i < l.length <;> simp [h]
 have hcnt : cntG (Array.replicate l.toArray.size false) = l.toArray.size := by
  unfold cntG
  simp [List.filter_replicate]
 have := any_ghost (P := P) (Q := Q) (a := a) (I := I) hs (by simpa using hstep) (by simpa using hend) l.toArray.size (Array.replicate l.toArray.size false) (fun _ => undef) w.drew (by simp) hcnt
  (fun j oj _ hj => by
   have := congrFun hfun j
   rw [this] at hj
   cases hj) (by rw [hfun]; exact h0)
 rw [hfun, hf] at this
 exact this
end Go.Proofs.YthnimhnlnddnoaaGreatDoor
namespace Go.Proofs.YthnimhnlnddnoaaGreatDoor
open Go.RowKit Go.Shelf
section
variable {F : Fence} {n : Nat} {P : Program}
theorem step_up_died {b c : Frame} {a : Act} {ops : Array Oper} {l : List Nat} {k : List Item} {cs : List Frame} {w : World} {chain : List PanicEntry} (hd : a.defers = []) :
  step P (lone { b.atR a (.inRegion ops l :: k) with mode := .panicking chain } (c :: cs) w) = .next (lone (c.raise chain) cs w) :=
 step_lone_go (by
  have hd' : ({ b.atR a (.inRegion ops l :: k) with mode := .panicking chain } : Frame).defers = [] := hd
  have ht : ({ b.atR a (.inRegion ops l :: k) with mode := .panicking chain } : Frame).todo = .inRegion ops l :: k := rfl
  have hm : ({ b.atR a (.inRegion ops l :: k) with mode := .panicking chain } : Frame).mode = .panicking chain := rfl
  generalize ({ b.atR a (.inRegion ops l :: k) with mode := .panicking chain } : Frame) = fr at *
  cases hf : P.funcs[fr.fn]? <;> simp [stepG, unwind, Frame.catches, hm, hd', hf, ht])
def OpsTo (F : Fence) (n : Nat) (P : Program) (ops : Array Oper) (l : List Nat) (a : Act) (w : World) (N : Act → World → Prop) (D : List PanicEntry → World → Prop) : Prop :=
 ∀ (b : Frame) (k : List Item) (cs : List Frame), b.roundOf = F.round → F.fn b.fn → F.room (cs.length + 1 + n) →
  (∃ a' w', N a' w' ∧ StepsIn (Machine.fenced P F) P (lone (b.atR a (.inRegion ops l :: k)) cs w) (lone (b.atR a' k) cs w')) ∨
  (∃ c a' w' l', D c w' ∧ a'.defers = [] ∧ StepsIn (Machine.fenced P F) P (lone (b.atR a (.inRegion ops l :: k)) cs w) (lone { b.atR a' (.inRegion ops l' :: k) with mode := .panicking c } cs w'))
variable {ops : Array Oper} {a : Act} {w : World} {N : Act → World → Prop} {D : List PanicEntry → World → Prop}
theorem opsTo_nil (h : N a w) : OpsTo F n P ops [] a w N D := fun _ _ _ _ hb hr => .inl ⟨a, w, h, .one (fenced_calm hb hr rfl) stepR_region_end⟩
theorem about_none {o : Oper} {v : Value} {w' : World} (hr : (execOp a.eval o).run P w = .ok (.value v) w') (hd : ∀ c, o.op ≠ .call c) : o.about P w a.eval = none := by
 unfold Oper.about
 split
 ·rename_i c hc
  exact absurd hc (hd c)
 ·rfl
theorem opsTo_value {i : Nat} {rest : List Nat} {o : Oper} {v : Value} {w' : World} (ho : ops[i]? = some o) (hg : o.guard = none) (hdf : ∀ c, o.op ≠ .defer c) (hcl : ∀ c, o.op ≠ .call c) (hr : (execOp a.eval o).run P w = .ok (.value v) w')
  (h : OpsTo F n P ops rest (a.put o.dst v) w' N D) : OpsTo F n P ops (i :: rest) a w N D := by
 intro b k cs hro hb hroom
 have hw : Region.wanted o (yielded ops a.tmps) = true := by simp [Region.wanted, hg]
 have hs := stepGR_op (P := P) (b := b) (k := k) (cs := cs) (w := w) (rest := rest) ho hw
 rw [Oper.semAt_eq _ _ _ hdf] at hs
 have hfin : (b.atR a (.inRegion ops (i :: rest) :: k)).finish v = b.atR (a.put o.dst v) (.inRegion ops rest :: k) := by rw [Frame.finish_atR, ho]; rfl
 have h0 : (lone (b.atR a (.inRegion ops (i :: rest) :: k)) cs w).fenced P F := fenced_oper hb hroom ho (fun f hf => by rw [about_none hr hcl] at hf; cases hf)
 have s1 : StepsIn (Machine.fenced P F) P (lone (b.atR a (.inRegion ops (i :: rest) :: k)) cs w) (lone (b.atR (a.put o.dst v) (.inRegion ops rest :: k)) cs w') :=
  .one h0 (step_lone_go (by rw [hs, ← hfin]; simp [stepG.apply, hr]))
 rcases h b k cs hro hb hroom with ⟨a', w2, hN, hst⟩ | ⟨c, a', w2, l', hD, hdef, hst⟩
 ·exact .inl ⟨a', w2, hN, s1.trans hst⟩
 ·exact .inr ⟨c, a', w2, l', hD, hdef, s1.trans hst⟩
theorem opsTo_call {i : Nat} {rest : List Nat} {o : Oper} {f : FuncId} {args : Array Value} {w' : World} (ho : ops[i]? = some o) (hg : o.guard = none) (hdf : ∀ c, o.op ≠ .defer c) (hr : (execOp a.eval o).run P w = .ok (.enter f args) w')
  (hab : ∀ f, o.about P w a.eval = some f → F.fn f) (hn : F.depth.isSome = true → 1 ≤ n) (had : a.defers = [])
  (h : CallsIn F (n - 1) P f args w' fun e w2 => (∃ v, e = .returned v ∧ OpsTo F n P ops rest (a.put o.dst v) w2 N D) ∨ (∃ c, e = .panicked c ∧ D c w2)) : OpsTo F n P ops (i :: rest) a w N D := by
 intro b k cs hro hb hroom
 have hw : Region.wanted o (yielded ops a.tmps) = true := by simp [Region.wanted, hg]
 have hs := stepGR_op (P := P) (b := b) (k := k) (cs := cs) (w := w) (rest := rest) ho hw
 rw [Oper.semAt_eq _ _ _ hdf] at hs
 obtain ⟨hF, h⟩ := h
 have hroom2 : F.room ((b.atR a (.inRegion ops (i :: rest) :: k) :: cs).length + 1 + (n - 1)) := Fence.room_enter hroom hn
 obtain ⟨e, w2, fr, hR, hsteps, hfn, hleave⟩ := h (b.atR a (.inRegion ops (i :: rest) :: k) :: cs) hroom2
 have h0 : (lone (b.atR a (.inRegion ops (i :: rest) :: k)) cs w).fenced P F := fenced_oper hb hroom ho hab
 have henter : step P (lone (b.atR a (.inRegion ops (i :: rest) :: k)) cs w) = .next (lone (Frame.enter P f args .normal) (b.atR a (.inRegion ops (i :: rest) :: k) :: cs) w') :=
  step_lone_go (by rw [hs]; simp [stepG.apply, hr, Frame.atR])
 rcases hR with ⟨v, rfl, hR⟩ | ⟨c, rfl, hD⟩
 ·have hl : (lone fr (b.atR a (.inRegion ops (i :: rest) :: k) :: cs) w2).fenced P F := fenced_leaving (hfn ▸ hF) hroom2 hleave
  have hfin : (b.atR a (.inRegion ops (i :: rest) :: k)).finish v = b.atR (a.put o.dst v) (.inRegion ops rest :: k) := by rw [Frame.finish_atR, ho]; rfl
  have s1 : StepsIn (Machine.fenced P F) P (lone (b.atR a (.inRegion ops (i :: rest) :: k)) cs w) (lone (b.atR (a.put o.dst v) (.inRegion ops rest :: k)) cs w2) :=
   .head h0 henter (StepsIn.trans hsteps (.one hl (by rw [← hfin]; exact step_leave_returned hleave)))
  rcases hR b k cs hro hb hroom with ⟨a', w3, hN, hst⟩ | ⟨c, a', w3, l', hD, hdef, hst⟩
  ·exact .inl ⟨a', w3, hN, s1.trans hst⟩
  ·exact .inr ⟨c, a', w3, l', hD, hdef, s1.trans hst⟩
 ·have hl : (lone fr (b.atR a (.inRegion ops (i :: rest) :: k) :: cs) w2).fenced P F := fenced_leaving (hfn ▸ hF) hroom2 hleave
  exact .inr ⟨c, a, w2, i :: rest, hD, had, .head h0 henter (StepsIn.trans hsteps (.one hl (by rw [← Frame.raise_atR]; exact step_leave_panicked hleave)))⟩
theorem roundIn_died {l : Nat} {f : FuncId} {tmps : Array Value} {assign : Code} {id bid : Nat} {w : World} {R : Ending → World → Prop} (hF : F.fn f)
  (h : assign.wpIn (F.inRound l) n P (Exit.then (fun a₁ w₁ => ∃ w₂, (Instr.beginRound l).run P w₁ = .ok () w₂ ∧
   OpsTo (F.inRound l) n P ops (List.range ops.size) a₁ w₂ (fun _ w' => ∃ v w3, (Instr.endRound l none).run P w' = .ok v w3 ∧ R (.returned v) w3) (fun c w' => R (.panicked c) w')) (fun _ _ _ => False))
   { tmps := tmps, defers := [] } w) :
  RoundIn F n P l f tmps assign (.block bid (.region id ops false)) w R := by
 refine ⟨hF, fun c cs hr => ?_⟩
 let b : Frame := { (default : Frame) with fn := f, kind := .normal, roundOf := some l }
 have hb0 : Frame.round l f tmps assign (.block bid (.region id ops false)) .normal = b.atR { tmps := tmps, defers := [] } [.code assign, .beginRound, .code (.block bid (.region id ops false))] := by
  simp [Frame.round, Frame.atR, b]
 have hr' : (F.inRound l).room ((c :: cs).length + 1 + n) := hr
 have hF' : (F.inRound l).fn b.fn := hF
 obtain ⟨e, a₁, w₁, hq, harr⟩ := h b [.beginRound, .code (.block bid (.region id ops false))] (c :: cs) rfl hF' hr'
 rw [← hb0] at harr
 cases e with
 | normal =>
  obtain ⟨w₂, hbr, hbody⟩ := hq
  have s1 : StepsIn (Machine.fenced P (F.inRound l)) P (lone (b.atR a₁ [.beginRound, .code (.block bid (.region id ops false))]) (c :: cs) w₁) (lone (b.atR a₁ [.code (.block bid (.region id ops false))]) (c :: cs) w₂) :=
   .one (fenced_calm (fr := b.atR a₁ [.beginRound, .code (.block bid (.region id ops false))]) hF' hr' rfl) (stepR_beginRound rfl hbr)
  have s2 : StepsIn (Machine.fenced P (F.inRound l)) P (lone (b.atR a₁ [.code (.block bid (.region id ops false))]) (c :: cs) w₂) (lone (b.atR a₁ [.code (.region id ops false), .inBlock bid]) (c :: cs) w₂) :=
   .one (fenced_calm (fr := b.atR a₁ [.code (.block bid (.region id ops false))]) hF' hr' rfl) stepR_block
  have s3 : StepsIn (Machine.fenced P (F.inRound l)) P (lone (b.atR a₁ [.code (.region id ops false), .inBlock bid]) (c :: cs) w₂) (lone (b.atR a₁ [.inRegion ops (List.range ops.size), .inBlock bid]) (c :: cs) w₂) :=
   .one (fenced_calm (fr := b.atR a₁ [.code (.region id ops false), .inBlock bid]) hF' hr' rfl) stepR_region
  have s12 := ((StepsIn.trans harr s1).trans s2).trans s3
  rcases hbody b [.inBlock bid] (c :: cs) rfl hF' hr' with ⟨a', w3, ⟨v, w4, hend, hR⟩, hst⟩ | ⟨ch, a', w3, l', hR, hdef, hst⟩
  ·exact ⟨.returned v, w4, hR, (s12.trans (StepsIn.trans hst (.one (fenced_calm (fr := b.atR a' [.inBlock bid]) hF' hr' rfl) stepR_inBlock))).trans (.one (fenced_calm (fr := b.atR a' []) hF' hr' rfl) (stepR_round_end rfl rfl hend))⟩
  ·have ha : ({ b.atR a' (.inRegion ops l' :: [.inBlock bid]) with mode := .panicking ch } : Frame).about P w3 = none := by simp [Frame.about, Frame.atR, hdef]
   exact ⟨.panicked ch, w3, hR, s12.trans (StepsIn.trans hst (.one (fenced_calm (fr := { b.atR a' (.inRegion ops l' :: [.inBlock bid]) with mode := .panicking ch }) hF' hr' ha) (step_up_died hdef)))⟩
 | exit id => exact hq.elim
 | goto t => exact hq.elim
 | ret => exact hq.elim
 | panic chain => exact hq.elim
 | outgrown => exact hq.elim
end
theorem OpsTo.mono {F : Fence} {n : Nat} {P : Program} {ops : Array Oper} {l : List Nat} {a : Act} {w : World} {N N' : Act → World → Prop} {D D' : List PanicEntry → World → Prop} (h : OpsTo F n P ops l a w N D) (hN : ∀ a w, N a w → N' a w) (hD : ∀ c w, D c w → D' c w) : OpsTo F n P ops l a w N' D' := by
 intro b k cs hro hb hr
 rcases h b k cs hro hb hr with ⟨a', w', hn, hs⟩ | ⟨c, a', w', l', hd, hdf, hs⟩
 ·exact .inl ⟨a', w', hN _ _ hn, hs⟩
 ·exact .inr ⟨c, a', w', l', hD _ _ hd, hdf, hs⟩
def IterP (P : Program) (gf : FuncId) (lb : Array Value) (D : Nat) (el : Nat → Array Value) (Kp S : World → World → Prop) (St : World → Prop) : Prop :=
 ∀ (l : Nat) (Y : Nat → World → Prop) (ZP : List PanicEntry → World → Prop) (W : World),
  (∀ k A B, Y k A → S A B → Y k B) →
  (∀ k A, k < D → Y k A → YieldAt Fence.wide 0 P l (el k) A fun e B => (e = .returned (.bool true) ∧ Y (k + 1) B ∧ Kp A B) ∨ (∃ c, e = .panicked c ∧ ZP c B)) →
  Y 0 W → St W → CallsIn Fence.wide 0 P gf (#[.func (.yield l) #[] #[]] ++ lb) W fun e B => (∃ v, e = .returned v ∧ Y D B) ∨ (∃ c, e = .panicked c ∧ ZP c B)
theorem range_law_dies {P : Program} {g : Operand} {ps : Array Tmp} {assign : Code} {id bid : Nat} {ops : Array Oper} {Q : Exit → Act → World → Prop} {a : Act} {w : World} {gf : FuncId} {lb : Array Value}
  (hg : a.eval g = .func (.func gf) #[] lb) (eg : ∀ args w, (callFunc gf args).run P w = .ok (.enter gf args) w)
  {D : Nat} {el : Nat → Array Value} (hps : ∀ k, (el k).size = ps.size)
  {Kp S : World → World → Prop} {St : World → Prop} (hiter : IterP P gf lb D el Kp S St) (hst : St w) (hSt : ∀ A B, St A → Book w.heap.size A B → St B)
  (hKp : ∀ A B C, Kp A B → (∀ (b : Nat) (o : Obj), B.heap[b]? = some o → isData o = true → C.heap[b]? = some o) → Kp A C)
  (hSN : ∀ A B, S A B → NC A B)
  (J : Nat → World → Prop) (XP : List PanicEntry → World → Prop)
  (hJb : ∀ k A B, J k A → Book w.heap.size A B → J k B)
  (hJS : ∀ k A B, J k A → S A B → J k B) (h0 : J 0 w)
  (hround : ∀ (l k : Nat) (W : World), k < D → J k W → w.heap.size < l → l < W.heap.size →
   assign.wpIn (Fence.wide.inRound l) 0 P (Exit.then (fun a₁ W₁ => NC W W₁ ∧ ∀ W₂, Book w.heap.size W₁ W₂ → W₂.heap.size = W₁.heap.size →
    OpsTo (Fence.wide.inRound l) 0 P ops (List.range ops.size) a₁ W₂ (fun _ W' => NC W₂ W' ∧ J (k + 1) W' ∧ Kp W W') (fun c W' => NC W₂ W' ∧ XP c W')) (fun _ _ _ => False))
    { tmps := (ps.zip (el k)).foldl (fun t (p, v) => t.setIfInBounds p v) a.tmps, defers := [] } W)
  (hdone : ∀ (d : Nat) (W : World), w.heap.size ≤ d → J D W → W.heap[d]? = some (.deferred (some [])) → Q .normal { a with defers := { target := .collected d, args := #[] } :: a.defers } W)
  (hdies : ∀ (d : Nat) (c : List PanicEntry) (W : World), w.heap.size ≤ d → XP c W → W.heap[d]? = some (.deferred (some [])) → Q (.panic c) { a with defers := { target := .collected d, args := #[] } :: a.defers } W) :
  (Code.rangeFunc g ps assign (.block bid (.region id ops false))).wp P Q a w := by
 refine (wpIn_wide (n := 0)).1 (wpIn_rangeFunc ?_)
 intro fn hfn
 rw [show Fence.wide.round = none from rfl]
 obtain ⟨rec, hrec⟩ : ∃ rec : LoopState → Option Code → Loop, rec = fun st pe => { state := st, pending := pe, fn, tmps := a.tmps, params := ps, assign, body := .block bid (.region id ops false), defers := w.heap.size } := ⟨_, rfl⟩
 obtain ⟨W1, hW1⟩ : ∃ W1, (w.alloc (.deferred (some []))).alloc (.loop (rec .ready none)) = W1 := ⟨_, rfl⟩
 have hz1 : W1.heap.size = w.heap.size + 2 := by rw [← hW1]; simp
 have hL1 : W1.heap[w.heap.size + 1]? = some (.loop (rec .ready none)) := by
  rw [← hW1]; have := World.alloc_heap_new (w.alloc (.deferred (some []))) (.loop (rec .ready none)); rwa [World.size_alloc] at this
 have hK1 : W1.heap[w.heap.size]? = some (.deferred (some [])) := by
  rw [← hW1]; exact (Below.heap_alloc _ _ _ (by simp)).trans (World.alloc_heap_new w _)
 have hbk1 : Book w.heap.size w W1 := by rw [← hW1]; exact ((Book.refl _ w).alloc (Nat.le_refl _) _).alloc (by simp) _
 have hJ1 : J 0 W1 := hJb _ _ _ h0 (by rw [← hW1]; exact ((Book.refl _ w).alloc (Nat.le_refl _) _).alloc (by simp) _)
 refine ⟨w.heap.size + 1, [{ target := .collected w.heap.size, args := #[] }], W1, { target := .fn (.func gf) lb, args := #[.func (.yield (w.heap.size + 1)) #[] #[]] }, W1, gf,
  #[.func (.yield (w.heap.size + 1)) #[] #[]] ++ lb, W1, ?_, ?_, ?_, ?_, fun h => by simp [Fence.wide] at h, ?_⟩
 ·rw [← hW1, hrec]; exact run_enterLoop_outer _ _ _ _ _
 ·simp only [resolve, hg]
  simp [go_sem]
 ·intro f' _; trivial
 ·simp [invoke, go_sem, eg]
 ·refine (hiter (w.heap.size + 1)
   (fun k W => J k W ∧ W.heap[w.heap.size + 1]? = some (.loop (rec .ready none)) ∧ W.heap[w.heap.size]? = some (.deferred (some [])))
   (fun c W => XP c W ∧ W.heap[w.heap.size]? = some (.deferred (some [])))
   W1 (fun k A B h hs => ⟨hJS _ _ _ h.1 hs, hSN _ _ hs _ _ h.2.1 rfl, hSN _ _ hs _ _ h.2.2 rfl⟩) ?_ ⟨hJ1, hL1, hK1⟩ (hSt _ _ hst hbk1)).mono ?_
  ·rintro k W hk ⟨hj, hl, hd⟩
   have hlt : w.heap.size + 1 < W.heap.size := (Array.getElem?_eq_some_iff.1 hl).1
   have hy := run_yield (P := P) (args := el k) hl (by rw [hrec]; simp [hps])
   rw [hrec] at hy
   refine ⟨fn, _, assign, .block bid (.region id ops false), hy, roundIn_died hfn ?_⟩
   refine wpIn_mono (hround _ k W hk hj (by omega) hlt) ?_
   rintro e a₁ W₁ hp
   cases e with
   | normal =>
    obtain ⟨hnc, hb⟩ := hp
    have hl1 := hnc _ _ hl rfl
    have hd1 := hnc _ _ hd rfl
    have hlt1 : w.heap.size + 1 < W₁.heap.size := (Array.getElem?_eq_some_iff.1 hl1).1
    refine ⟨_, run_beginRound hl1 (by rw [hrec]), ?_⟩
    have hl2 : (W₁.putObj (w.heap.size + 1) (.loop { rec .ready none with state := .busy })).heap[w.heap.size + 1]? = some (.loop { rec .ready none with state := .busy }) := World.putObj_heap_same hlt1
    have hd2 : (W₁.putObj (w.heap.size + 1) (.loop { rec .ready none with state := .busy })).heap[w.heap.size]? = some (.deferred (some [])) := (World.putObj_heap_other (by omega)).trans hd1
    refine OpsTo.mono (hb _ ((Book.refl _ W₁).put (by omega) hl1 rfl _) (by simp)) ?_ ?_
    ·rintro a3 W3 ⟨hk3, hi3, hkp⟩
     have hl3 := hk3 _ _ hl2 rfl
     have hr := run_endRound (P := P) none hl3
     have hb3 : Book w.heap.size W3 (W3.putObj (w.heap.size + 1) (.loop (rec .ready none))) := by rw [hrec] at hl3 ⊢; exact (Book.refl _ W3).put (by omega) hl3 rfl _
     rw [hrec] at hr
     refine ⟨_, _, hr, .inl ⟨rfl, ⟨?_, ?_, ?_⟩, ?_⟩⟩
     ·have := hJb _ _ _ hi3 hb3
      rwa [hrec] at this
     ·rw [hrec]; exact World.putObj_heap_same (Array.getElem?_eq_some_iff.1 hl3).1
     ·exact (World.putObj_heap_other (by omega)).trans (hk3 _ _ hd2 rfl)
     ·have := hKp _ _ _ hkp hb3.data
      rwa [hrec] at this
    ·rintro c W3 ⟨hk3, hx⟩
     exact .inr ⟨c, rfl, hx, hk3 _ _ hd2 rfl⟩
   | ret => exact hp.elim
   | exit id => exact hp.elim
   | goto t => exact hp.elim
   | panic ch => exact hp.elim
   | outgrown => exact hp.elim
  ·rintro e W2 (⟨v, rfl, hj, hl, hk⟩ | ⟨c, rfl, hx, hk⟩)
   ·exact ⟨none, _, by have := run_endLoop (P := P) hl (by rw [hrec]; simp); rw [hrec] at this; exact this,
     hdone _ _ (Nat.le_refl _) (hJb _ _ _ hj ((Book.refl _ _).put (by omega) hl rfl _)) ((World.putObj_heap_other (by omega)).trans hk)⟩
   ·exact hdies _ c _ (Nat.le_refl _) hx hk
end Go.Proofs.YthnimhnlnddnoaaGreatDoor
