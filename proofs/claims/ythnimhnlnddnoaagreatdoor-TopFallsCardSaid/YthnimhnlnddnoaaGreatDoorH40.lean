/- Parts of the proof of TpP: GhostG, Aw2, GhostH. -/
import Derived.Test.YthnimhnlnddnoaaGreatDoorH21
import Derived.Test.YthnimhnlnddnoaaGreatDoorH39
import Derived.WalkKit
import Derived.Deep.Quiet
set_option linter.unusedSimpArgs false
set_option linter.unusedVariables false
set_option maxRecDepth 100000
set_option maxHeartbeats 8000000
namespace Go.Proofs.YthnimhnlnddnoaaGreatDoor
open Go.RowKit
section
variable {P : Program} {ops : Array Oper}
def ownSlotsG (ops : Array Oper) : Bool :=
 (List.range ops.size).all fun i => (match ops[i]? with | some o => o.after.all fun e => !Region.binds .any e || decide (e.on < i) | none => true) &&
  (List.range ops.size).all fun j => i == j || match slotOf ops i, slotOf ops j with | some d, some e => d != e | _, _ => true
theorem ownSlotsG_ne (h : ownSlotsG ops = true) {i j : Nat} (hi : i < ops.size) (hj : j < ops.size) (hij : i ≠ j) : ∀ d, slotOf ops i = some d → slotOf ops j ≠ some d := by
 intro d h1 h2
 have h3 := List.all_eq_true.1 h i (List.mem_range.2 hi)
 rw [Bool.and_eq_true] at h3
 have h4 := List.all_eq_true.1 h3.2 j (List.mem_range.2 hj)
 simp [h1, h2, hij] at h4
theorem ownSlotsG_guard (h : ownSlotsG ops = true) {i : Nat} {o : Oper} (hi : ops[i]? = some o) : ∀ e ∈ o.after, Region.binds .any e = true → e.on < i := by
 have h3 := List.all_eq_true.1 h i (List.mem_range.2 (Array.getElem?_eq_some_iff.1 hi).1)
 rw [Bool.and_eq_true] at h3
 have h4 := h3.1
 simp only [hi, Array.all_eq_true_iff_forall_mem, Bool.or_eq_true, Bool.not_eq_true', decide_eq_true_eq] at h4
 exact fun e he hb => (h4 e he).resolve_left (by simp [hb])
theorem fill_setG (hs : ownSlotsG ops = true) {L : Nat → Bool} {vs : Nat → Value} {a : Act} {i : Nat} (hL : L i = false) (hi : i < ops.size) (v : Value) :
  ∀ n, n ≤ ops.size → fill ops (updB L i) (updV vs i v) a n = if i < n then (fill ops L vs a n).put (slotOf ops i) v else fill ops L vs a n := by
 intro n
 induction n with
 | zero => intro _; simp [fill]
 | succ k ih =>
  intro hk
  have h1 := ih (by omega)
  unfold fill
  by_cases hki : k = i
  ·subst hki
   rw [updB_self, if_pos rfl, updV_self, h1, if_neg (by omega), if_pos (by omega), hL]
   simp
  ·rw [updB_other L hki, updV_other vs v hki, h1]
   by_cases hlt : i < k
   ·rw [if_pos hlt]
    have hlt' : i < k + 1 := by omega
    cases hLk : L k with
    | false => simp [hlt']
    | true =>
     simp only [if_true, hlt']
     rw [Act.put_comm _ _ _ (ownSlotsG_ne hs hi (by omega) (Ne.symm hki))]
   ·have hlt' : ¬ i < k + 1 := by omega
    rw [if_neg hlt, if_neg hlt']
theorem fill_newG (hs : ownSlotsG ops = true) {L : Nat → Bool} {vs : Nat → Value} {a : Act} {k : Nat} {d : Tmp} (hd : slotOf ops k = some d) (hk : L k = true) (hsz : d < a.tmps.size) : ∀ n, n ≤ ops.size → k < n → (fill ops L vs a n).eval (.tmp d) = vs k := by
 intro n
 induction n with
 | zero => intro _ h; omega
 | succ j ih =>
  intro hn hkj
  have hko : k < ops.size := by omega
  unfold fill
  by_cases hjk : j = k
  ·subst hjk
   rw [hk, if_pos rfl, hd]
   have : d < (fill ops L vs a j).tmps.size := by rw [fill_size]; exact hsz
   simp [Act.eval, Act.put, this]
  ·have h1 := ih (by omega) (by omega)
   split
   ·rw [Act.eval_put (fun e he => by
     intro h2
     cases h2
     exact ownSlotsG_ne hs hko (by omega) (Ne.symm hjk) d hd he), h1]
   ·exact h1
theorem fill_filledG (hs : ownSlotsG ops = true) (L : Nat → Bool) (vs : Nat → Value) (a : Act) : Filled ops L vs a (fill ops L vs a ops.size) := by
 constructor
 ·intro i d hd hi hsz
  have hlt : i < ops.size := by
   rcases Nat.lt_or_ge i ops.size with h | h
   ·exact h
   ·simp [slotOf, Array.getElem?_eq_none h] at hd
  have := fill_newG hs (vs := vs) (a := a) hd hi hsz ops.size (Nat.le_refl _) hlt
  simpa [Act.eval] using this
 ·intro d hd
  have := fill_old (ops := ops) (L := L) (vs := vs) (a := a) (x := .tmp d) ops.size fun k hk _ e he h => by
   cases h
   have := List.all_eq_true.1 hd k (List.mem_range.2 hk)
   simp [he] at this
  simpa [Act.eval] using this
 ·intro d j hd hj
  have := fill_old (ops := ops) (L := L) (vs := vs) (a := a) (x := .tmp d) ops.size fun k hk hLk e he h => by
   cases h
   have := List.all_eq_true.1 hd k (List.mem_range.2 hk)
   simp [he] at this
   subst this
   rw [hj] at hLk
   cases hLk
  simpa [Act.eval] using this
 ·exact fill_defers _
def EachStepG (P : Program) (ops : Array Oper) (Q : Exit → Act → World → Prop) (a : Act) (I : (Nat → Bool) → (Nat → Value) → World → Prop) : List Oper → Nat → Prop
 | [], _ => True
 | o :: l, k => (∀ L vs w b, L k = false → (∀ j ∈ waits o, L j = true) → (∀ (j : Nat) oj, ops[j]? = some oj → L j = true → ∀ i ∈ waits oj, L i = true) → I L vs w → Filled ops L vs a b →
   Region.wanted o (yielded ops b.tmps) = true ∧ o.wp P b w (fun a' w' => ∃ v, a' = b.put o.dst v ∧ I (updB L k) (updV vs k v) w') Q) ∧ EachStepG P ops Q a I l (k + 1)
theorem EachStepG.at_ {Q : Exit → Act → World → Prop} {a : Act} {I : (Nat → Bool) → (Nat → Value) → World → Prop} : ∀ (l : List Oper) (k : Nat), EachStepG P ops Q a I l k → ∀ i o, l[i]? = some o →
  ∀ L vs w b, L (k + i) = false → (∀ j ∈ waits o, L j = true) → (∀ (j : Nat) oj, ops[j]? = some oj → L j = true → ∀ i ∈ waits oj, L i = true) → I L vs w → Filled ops L vs a b →
   Region.wanted o (yielded ops b.tmps) = true ∧ o.wp P b w (fun a' w' => ∃ v, a' = b.put o.dst v ∧ I (updB L (k + i)) (updV vs (k + i) v) w') Q := by
 intro l
 induction l with
 | nil => intro k _ i o hi; simp at hi
 | cons x l ih =>
  intro k h i o hi
  cases i with
  | zero =>
   simp at hi
   subst hi
   exact h.1
  | succ i =>
   have := ih (k + 1) h.2 i o (by simpa using hi)
   rwa [show k + 1 + i = k + (i + 1) by omega] at this
theorem any_ghostG {Q : Exit → Act → World → Prop} {a : Act} {I : (Nat → Bool) → (Nat → Value) → World → Prop} (hs : ownSlotsG ops = true) (hstep : EachStepG P ops Q a I ops.toList 0)
  (hend : ∀ vs w, I (fun i => decide (i < ops.size)) vs w → Q .normal (fill ops (fun _ => true) vs a ops.size) w) :
  ∀ (f : Nat) (listed : Array Bool) (vs : Nat → Value) (w : World), listed.size = ops.size → cntG listed = f → (∀ (j : Nat) oj, ops[j]? = some oj → listed.getD j false = true → ∀ i ∈ waits oj, listed.getD i false = true) →
   I (fun i => listed.getD i false) vs w → wpAny P .any ops Q f listed (fill ops (fun i => listed.getD i false) vs a ops.size) w := by
 intro f
 induction f with
 | zero =>
  intro listed vs w hsz hc hcl hI
  have hall := cntG_zero hc
  have hL : ∀ i, i < ops.size → listed.getD i false = true := fun i hi => by
   have := hall i
   simp [hsz, hi] at this ⊢
   exact this
  refine ⟨?_, ?_⟩
  ·rw [List.eq_nil_iff_forall_not_mem]
   intro j hj
   have := (mem_ready.1 hj).1
   rw [hall j] at this
   cases this
  ·rw [fill_congr (L' := fun _ => true) ops.size hL]
   refine hend vs w ?_
   have : (fun i => listed.getD i false) = fun i => decide (i < ops.size) := by
    funext i
    by_cases hi : i < ops.size
    ·rw [hL i hi]; simp [hi]
    ·simp [hi, hsz]
   rw [this] at hI
   exact hI
 | succ f ih =>
  intro listed vs w hsz hc hcl hI
  have hex : ∃ j, listed.getD j true = false := by
   refine Classical.byContradiction fun h => ?_
   have hno : ∀ b ∈ listed.toList, b = true := fun b hb => by
    obtain ⟨j, hj, rfl⟩ := List.getElem_of_mem hb
    cases hx : listed.toList[j] with
    | true => rfl
    | false =>
     refine absurd ⟨j, ?_⟩ h
     simp at hj
     simp at hx
     simp [hj, hx]
   have : cntG listed = 0 := by
    unfold cntG
    rw [List.length_eq_zero_iff, List.filter_eq_nil_iff]
    intro b hb
    simp [hno b hb]
   omega
  have hready : Region.ready .any ops listed ≠ [] := by
   have key : ∀ n j, j ≤ n → listed.getD j true = false → Region.ready .any ops listed ≠ [] := by
    intro n
    induction n with
    | zero =>
     intro j hj hun hnil
     have hlt := unlisted hun
     rw [hsz] at hlt
     obtain ⟨o, ho⟩ : ∃ o, ops[j]? = some o := ⟨_, Array.getElem?_eq_getElem hlt⟩
     have : j ∈ Region.ready .any ops listed := mem_ready.2 ⟨hun, o, ho, fun e he hb => by have := ownSlotsG_guard hs ho e he hb; omega⟩
     rw [hnil] at this
     cases this
    | succ n ihn =>
     intro j hj hun hnil
     have hlt := unlisted hun
     rw [hsz] at hlt
     obtain ⟨o, ho⟩ : ∃ o, ops[j]? = some o := ⟨_, Array.getElem?_eq_getElem hlt⟩
     have : j ∈ Region.ready .any ops listed := mem_ready.2 ⟨hun, o, ho, fun e he hb => by
      have h1 := ownSlotsG_guard hs ho e he hb
      cases hx : listed.getD e.on true with
      | true =>
       have : e.on < listed.size := by omega
       simp [this] at hx ⊢
       exact hx
      | false => exact absurd hnil (ihn e.on (by omega) hx)⟩
     rw [hnil] at this
     cases this
   obtain ⟨j, hj⟩ := hex
   exact key j j (Nat.le_refl _) hj
  refine ⟨fun h => absurd h hready, fun i hi => ?_⟩
  obtain ⟨hun, o, ho, hall⟩ := mem_ready.1 hi
  have hlt := unlisted hun
  have hL : listed.getD i false = false := by simp [hlt] at hun ⊢; exact hun
  have hw : ∀ j ∈ waits o, listed.getD j false = true := fun j hj => by
   unfold waits at hj
   obtain ⟨e, he, rfl⟩ := List.mem_map.1 hj
   rw [List.mem_filter] at he
   exact hall e (by simpa using he.1) he.2
  have h1 := EachStepG.at_ ops.toList 0 hstep i o (by simpa using ho) (fun i => listed.getD i false) vs w _ (by rw [Nat.zero_add]; exact hL) hw hcl hI (fill_filledG hs _ _ _)
  rw [Nat.zero_add] at h1
  unfold wpOp
  simp only [ho]
  rw [if_pos h1.1]
  refine .inl (Oper.wp_mono ?_ h1.2)
  rintro a' w' ⟨v, rfl, hI'⟩
  have hsl : o.dst = slotOf ops i := by unfold slotOf; rw [ho]; rfl
  have hfun : (fun j => (listed.setIfInBounds i true).getD j false) = updB (fun j => listed.getD j false) i := by
   funext j
   unfold updB
   by_cases hji : j = i
   ·subst hji; simp [hlt]
   ·rw [if_neg hji, getD_set_ne false (Ne.symm hji)]
  have hput : (fill ops (fun i => listed.getD i false) vs a ops.size).put o.dst v = fill ops (fun j => (listed.setIfInBounds i true).getD j false) (updV vs i v) a ops.size := by
   rw [hfun, fill_setG hs hL (by rw [← hsz]; exact hlt) v ops.size (Nat.le_refl _), if_pos (by rw [← hsz]; exact hlt), hsl]
  rw [hput]
  refine ih _ _ _ (by simpa using hsz) (by have := cntG_set hun; omega) ?_ (by rw [hfun]; exact hI')
  intro j oj hoj hj k hk
  by_cases hji : j = i
  ·subst hji
   obtain rfl : o = oj := Option.some.inj (ho.symm.trans hoj)
   exact getD_set_true (hw k hk)
  ·rw [getD_set_ne false (Ne.symm hji)] at hj
   exact getD_set_true (hcl j oj hoj hj k hk)
end
theorem wp_region_ghostG {P : Program} {id : Nat} {Q : Exit → Act → World → Prop} {a : Act} {w : World} {l : List Oper} (I : (Nat → Bool) → (Nat → Value) → World → Prop) (hm : P.follows .mixedOrders = true) (hs : ownSlotsG l.toArray = true)
  (h0 : I (fun _ => false) (fun _ => undef) w.drew) (hstep : EachStepG P l.toArray Q a I l 0)
  (hend : ∀ vs w, I (fun i => decide (i < l.length)) vs w → Q .normal (fill l.toArray (fun _ => true) vs a l.length) w) : (Code.region id l.toArray true).wp P Q a w := by
 refine wp_region_any hm ?_
 have hf : ∀ n, fill l.toArray (fun _ => false) (fun _ => undef) a n = a := by
  intro n
  induction n with
  | zero => rfl
  | succ n ih => unfold fill; simp [ih]
 have hfun : (fun i => (Array.replicate l.toArray.size false).getD i false) = fun _ => false := by
  funext i
  by_cases h : i < l.length <;> simp [h]
 have hcnt : cntG (Array.replicate l.toArray.size false) = l.toArray.size := by
  unfold cntG
  simp [List.filter_replicate]
 have := any_ghostG (P := P) (Q := Q) (a := a) (I := I) hs (by simpa using hstep) (by simpa using hend) l.toArray.size (Array.replicate l.toArray.size false) (fun _ => undef) w.drew (by simp) hcnt
  (fun j oj _ hj => by
   have := congrFun hfun j
   rw [this] at hj
   cases hj) (by rw [hfun]; exact h0)
 rw [hfun, hf] at this
 exact this
end Go.Proofs.YthnimhnlnddnoaaGreatDoor
namespace Go.Proofs.YthnimhnlnddnoaaGreatDoor
open Go.RowKit
theorem gen_act {c : Code} {P : Program} {Q : Exit → Act → World → Prop} {a : Act} {w : World} (h : ∀ a0, a0 = a → c.wp P Q a0 w) : c.wp P Q a w := h a rfl
theorem wanted_plain {o : Oper} {f : Nat → Option Bool} (hg : o.guard = none) : Region.wanted o f = true := by simp [Region.wanted, hg]
theorem wanted_of {ops : Array Oper} {o : Oper} {k d : Nat} {t : Bool} {b : Act} (hg : o.guard = some (k, t)) (hd : slotOf ops k = some d) (he : b.tmps[d]?.getD undef = .bool t) : Region.wanted o (yielded ops b.tmps) = true := by
 unfold slotOf at hd
 have hy : yielded ops b.tmps k = some t := by
  unfold yielded
  rw [hd]
  cases hx : b.tmps[d]? with
  | none => rw [hx] at he; simp [undef] at he
  | some v => rw [hx] at he; simp at he; subst he; simp [hx]
 simp [Region.wanted, hg, hy]
structure AgI (W : World) (val : Nat → Value) (sn : Nat → Option (Nat × Array Value × TypeId)) (L : Nat → Bool) (vs : Nat → Value) (X : World) : Prop where
 bel : Below W.heap.size W X
 rd : ∀ k, sn k = none → L k = true → vs k = val k
 sl : ∀ k n cs T, sn k = some (n, cs, T) → L k = true → ∃ g, vs k = .slice (some ⟨g, 0, none⟩) n n ∧ X.heap[g]? = some (.cells cs T)
theorem AgI.next {W : World} {val : Nat → Value} {sn : Nat → Option (Nat × Array Value × TypeId)} {L : Nat → Bool} {vs : Nat → Value} {X X' : World} (h : AgI W val sn L vs X) {i : Nat} {v : Value} (hn : sn i = none) (hv : v = val i) (hb : Below X.heap.size X X') : AgI W val sn (updB L i) (updV vs i v) X' := by
 refine ⟨h.bel.trans (hb.mono h.bel.size), fun k hk hl => ?_, fun k n cs T hk hl => ?_⟩
 ·by_cases e : k = i
  ·subst e; rw [updV_self]; exact hv
  ·rw [updV_other _ _ e]; exact h.rd k hk (by rwa [updB_other _ e] at hl)
 ·by_cases e : k = i
  ·subst e; rw [hn] at hk; cases hk
  ·rw [updV_other _ _ e]
   obtain ⟨g, h1, h2⟩ := h.sl k n cs T hk (by rwa [updB_other _ e] at hl)
   exact ⟨g, h1, (hb.block _ (lt_of_block h2)).trans h2⟩
theorem AgI.made {W : World} {val : Nat → Value} {sn : Nat → Option (Nat × Array Value × TypeId)} {L : Nat → Bool} {vs : Nat → Value} {X : World} (h : AgI W val sn L vs X) {i n : Nat} {cs : Array Value} {T : TypeId} (hn : sn i = some (n, cs, T)) : AgI W val sn (updB L i) (updV vs i (.slice (some ⟨X.heap.size, 0, none⟩) n n)) (X.alloc (.cells cs T)) := by
 have hb : Below X.heap.size X (X.alloc (.cells cs T)) := (Below.refl _ _).alloc (Nat.le_refl _) _
 refine ⟨h.bel.trans (hb.mono h.bel.size), fun k hk hl => ?_, fun k n' cs' T' hk hl => ?_⟩
 ·by_cases e : k = i
  ·subst e; rw [hn] at hk; cases hk
  ·rw [updV_other _ _ e]; exact h.rd k hk (by rwa [updB_other _ e] at hl)
 ·by_cases e : k = i
  ·subst e
   rw [hn] at hk
   cases hk
   exact ⟨_, updV_self _ _ _, heap_alloc_new _ _⟩
  ·rw [updV_other _ _ e]
   obtain ⟨g, h1, h2⟩ := h.sl k n' cs' T' hk (by rwa [updB_other _ e] at hl)
   exact ⟨g, h1, (hb.block _ (lt_of_block h2)).trans h2⟩
theorem lit_rd {α : Type} {At : World → Addr → α → Prop} {sz : Nat} [E : Enc α At sz] {w : World} {g n : Nat} {e : TypeId} {cs : Array Value} (xs : List α) (hx : xs.length ≤ 1000) (hn : xs.length = n) (hcs : (xs.flatMap E.enc).toArray = cs) (h : w.heap[g]? = some (.cells cs e)) : Rd At sz w.heap.size w (.slice (some ⟨g, 0, none⟩) n n) xs := by
 subst hn hcs
 exact (own_lit xs hx h).rd
theorem ints_lit {X : World} {A : Option Addr} {c g n : Nat} {cs : Array Value} {l : List Int} (h : Rd IntAt 1 X.heap.size X (.slice A n c) l) (hn : l.length = n) (hx : l.length ≤ 1000) (hcs : (l.flatMap (Enc.enc (α := Int))).toArray = cs) (hg : X.heap[g]? = some (.cells cs 3)) :
  Calls Tryz.prog 16 #[.slice A n c, .slice (some ⟨g, 0, none⟩) n n] X fun e w' => e = .returned (.bool true) ∧ Below X.heap.size X w' := by
 refine (ints_any h (lit_rd l hx hn hcs hg) (by omega)).mono ?_
 rintro e w' ⟨rfl, hq⟩
 exact ⟨by simp, hq.below _⟩
theorem spans_lit {X : World} {A : Option Addr} {c g n : Nat} {cs : Array Value} {l : List (Int × Int)} (h : Rd SpanAt 2 X.heap.size X (.slice A n c) l) (hn : l.length = n) (hx : l.length ≤ 1000) (hcs : (l.flatMap (Enc.enc (α := Int × Int))).toArray = cs) (hg : X.heap[g]? = some (.cells cs 42)) :
  Calls Tryz.prog 32 #[.slice A n c, .slice (some ⟨g, 0, none⟩) n n] X fun e w' => e = .returned (.bool true) ∧ Below X.heap.size X w' := by
 refine (spans_any h (lit_rd l hx hn hcs hg) (by omega)).mono ?_
 rintro e w' ⟨rfl, hq⟩
 exact ⟨by simp, hq.below _⟩
theorem fill_end {l : List Oper} {vs : Nat → Value} {a : Act} {K : Act → Prop} (hs : ownSlotsG l.toArray = true) (k d : Nat) (hk : slotOf l.toArray k = some d) (hd : d < a.tmps.size) (h : ∀ a', a'.tmps[d]?.getD undef = vs k → a'.defers = a.defers → K a') : K (fill l.toArray (fun _ => true) vs a l.length) := by
 have hf := fill_filledG hs (fun _ => true) vs a
 exact h _ (hf.new k d hk rfl hd) hf.dfr
theorem rdX {α : Type} {At : World → Addr → α → Prop} [AtKeep At] {sz : Nat} {w w' : World} {v : Value} {xs : List α} (h : Rd At sz w.heap.size w v xs) (hb : Below w.heap.size w w') : Rd At sz w'.heap.size w' v xs := (h.below hb).mono hb.size
theorem rdsX {w w' : World} {v : Value} {s : ShR} (h : RdSh w.heap.size w v s) (hb : Below w.heap.size w w') : RdSh w'.heap.size w' v s := (h.below hb).mono hb.size
theorem rowX {w w' : World} {g : Nat} {o : Obj} (h : w.heap[g]? = some o) (hb : Below w.heap.size w w') : w'.heap[g]? = some o := (hb.block _ (lt_of_block h)).trans h
theorem enterA43 : ∀ args w, (callFunc 33 args).run Tryz.prog w = .ok (.enter 33 args) w := enters_of Tryz.func33 (by kernel_rfl) rfl
theorem enterA25 : ∀ args w, (callFunc 32 args).run Tryz.prog w = .ok (.enter 32 args) w := enters_of Tryz.func32 (by kernel_rfl) rfl
theorem enterA30 : ∀ args w, (callFunc 16 args).run Tryz.prog w = .ok (.enter 16 args) w := enters_of Tryz.func16 (by kernel_rfl) rfl
theorem enterA67 : ∀ args w, (callFunc 31 args).run Tryz.prog w = .ok (.enter 31 args) w := enters_of Tryz.func31 (by kernel_rfl) rfl
theorem enterA41 : ∀ args w, (callFunc 34 args).run Tryz.prog w = .ok (.enter 34 args) w := enters_of Tryz.func34 (by kernel_rfl) rfl
theorem enterA18 : ∀ args w, (callFunc 35 args).run Tryz.prog w = .ok (.enter 35 args) w := enters_of Tryz.func35 (by kernel_rfl) rfl
end Go.Proofs.YthnimhnlnddnoaaGreatDoor
namespace Go.Proofs.YthnimhnlnddnoaaGreatDoor
open Go.RowKit
section
variable {P : Program} {ops : Array Oper}
def EachStepH (P : Program) (ops : Array Oper) (Q : Exit → Act → World → Prop) (a : Act) (I : (Nat → Bool) → (Nat → Value) → World → Prop) : List Oper → Nat → Prop
 | [], _ => True
 | o :: l, k => (∀ L vs w b, L k = false → (∀ j ∈ waits o, L j = true) → (∀ (j : Nat) oj, ops[j]? = some oj → L j = true → ∀ i ∈ waits oj, L i = true) → I L vs w → Filled ops L vs a b →
   (Region.wanted o (yielded ops b.tmps) = true ∧ o.wp P b w (fun a' w' => ∃ v, a' = b.put o.dst v ∧ I (updB L k) (updV vs k v) w') Q) ∨ (Region.wanted o (yielded ops b.tmps) = false ∧ I (updB L k) (updV vs k undef) w)) ∧ EachStepH P ops Q a I l (k + 1)
theorem EachStepH.at_ {Q : Exit → Act → World → Prop} {a : Act} {I : (Nat → Bool) → (Nat → Value) → World → Prop} : ∀ (l : List Oper) (k : Nat), EachStepH P ops Q a I l k → ∀ i o, l[i]? = some o →
  ∀ L vs w b, L (k + i) = false → (∀ j ∈ waits o, L j = true) → (∀ (j : Nat) oj, ops[j]? = some oj → L j = true → ∀ i ∈ waits oj, L i = true) → I L vs w → Filled ops L vs a b →
   (Region.wanted o (yielded ops b.tmps) = true ∧ o.wp P b w (fun a' w' => ∃ v, a' = b.put o.dst v ∧ I (updB L (k + i)) (updV vs (k + i) v) w') Q) ∨ (Region.wanted o (yielded ops b.tmps) = false ∧ I (updB L (k + i)) (updV vs (k + i) undef) w) := by
 intro l
 induction l with
 | nil => intro k _ i o hi; simp at hi
 | cons x l ih =>
  intro k h i o hi
  cases i with
  | zero =>
   simp at hi
   subst hi
   exact h.1
  | succ i =>
   have := ih (k + 1) h.2 i o (by simpa using hi)
   rwa [show k + 1 + i = k + (i + 1) by omega] at this
theorem any_ghostH {Q : Exit → Act → World → Prop} {a : Act} {I : (Nat → Bool) → (Nat → Value) → World → Prop} (hs : ownSlotsG ops = true) (hstep : EachStepH P ops Q a I ops.toList 0)
  (hend : ∀ vs w, I (fun i => decide (i < ops.size)) vs w → Q .normal (fill ops (fun _ => true) vs a ops.size) w) :
  ∀ (f : Nat) (listed : Array Bool) (vs : Nat → Value) (w : World), listed.size = ops.size → cntG listed = f → (∀ (j : Nat) oj, ops[j]? = some oj → listed.getD j false = true → ∀ i ∈ waits oj, listed.getD i false = true) →
   I (fun i => listed.getD i false) vs w → wpAny P .any ops Q f listed (fill ops (fun i => listed.getD i false) vs a ops.size) w := by
 intro f
 induction f with
 | zero =>
  intro listed vs w hsz hc hcl hI
  have hall := cntG_zero hc
  have hL : ∀ i, i < ops.size → listed.getD i false = true := fun i hi => by
   have := hall i
   simp [hsz, hi] at this ⊢
   exact this
  refine ⟨?_, ?_⟩
  ·rw [List.eq_nil_iff_forall_not_mem]
   intro j hj
   have := (mem_ready.1 hj).1
   rw [hall j] at this
   cases this
  ·rw [fill_congr (L' := fun _ => true) ops.size hL]
   refine hend vs w ?_
   have : (fun i => listed.getD i false) = fun i => decide (i < ops.size) := by
    funext i
    by_cases hi : i < ops.size
    ·rw [hL i hi]; simp [hi]
    ·simp [hi, hsz]
   rw [this] at hI
   exact hI
 | succ f ih =>
  intro listed vs w hsz hc hcl hI
  have hex : ∃ j, listed.getD j true = false := by
   refine Classical.byContradiction fun h => ?_
   have hno : ∀ b ∈ listed.toList, b = true := fun b hb => by
    obtain ⟨j, hj, rfl⟩ := List.getElem_of_mem hb
    cases hx : listed.toList[j] with
    | true => rfl
    | false =>
     refine absurd ⟨j, ?_⟩ h
     simp at hj
     simp at hx
     simp [hj, hx]
   have : cntG listed = 0 := by
    unfold cntG
    rw [List.length_eq_zero_iff, List.filter_eq_nil_iff]
    intro b hb
    simp [hno b hb]
   omega
  have hready : Region.ready .any ops listed ≠ [] := by
   have key : ∀ n j, j ≤ n → listed.getD j true = false → Region.ready .any ops listed ≠ [] := by
    intro n
    induction n with
    | zero =>
     intro j hj hun hnil
     have hlt := unlisted hun
     rw [hsz] at hlt
     obtain ⟨o, ho⟩ : ∃ o, ops[j]? = some o := ⟨_, Array.getElem?_eq_getElem hlt⟩
     have : j ∈ Region.ready .any ops listed := mem_ready.2 ⟨hun, o, ho, fun e he hb => by have := ownSlotsG_guard hs ho e he hb; omega⟩
     rw [hnil] at this
     cases this
    | succ n ihn =>
     intro j hj hun hnil
     have hlt := unlisted hun
     rw [hsz] at hlt
     obtain ⟨o, ho⟩ : ∃ o, ops[j]? = some o := ⟨_, Array.getElem?_eq_getElem hlt⟩
     have : j ∈ Region.ready .any ops listed := mem_ready.2 ⟨hun, o, ho, fun e he hb => by
      have h1 := ownSlotsG_guard hs ho e he hb
      cases hx : listed.getD e.on true with
      | true =>
       have : e.on < listed.size := by omega
       simp [this] at hx ⊢
       exact hx
      | false => exact absurd hnil (ihn e.on (by omega) hx)⟩
     rw [hnil] at this
     cases this
   obtain ⟨j, hj⟩ := hex
   exact key j j (Nat.le_refl _) hj
  refine ⟨fun h => absurd h hready, fun i hi => ?_⟩
  obtain ⟨hun, o, ho, hall⟩ := mem_ready.1 hi
  have hlt := unlisted hun
  have hL : listed.getD i false = false := by simp [hlt] at hun ⊢; exact hun
  have hw : ∀ j ∈ waits o, listed.getD j false = true := fun j hj => by
   unfold waits at hj
   obtain ⟨e, he, rfl⟩ := List.mem_map.1 hj
   rw [List.mem_filter] at he
   exact hall e (by simpa using he.1) he.2
  have h1 := EachStepH.at_ ops.toList 0 hstep i o (by simpa using ho) (fun i => listed.getD i false) vs w _ (by rw [Nat.zero_add]; exact hL) hw hcl hI (fill_filledG hs _ _ _)
  rw [Nat.zero_add] at h1
  unfold wpOp
  simp only [ho]
  have key : ∀ v w', I (updB (fun i => listed.getD i false) i) (updV vs i v) w' → wpAny P .any ops Q f (listed.setIfInBounds i true) ((fill ops (fun i => listed.getD i false) vs a ops.size).put o.dst v) w' := by
   intro v w' hI'
   have hsl : o.dst = slotOf ops i := by unfold slotOf; rw [ho]; rfl
   have hfun : (fun j => (listed.setIfInBounds i true).getD j false) = updB (fun j => listed.getD j false) i := by
    funext j
    unfold updB
    by_cases hji : j = i
    ·subst hji; simp [hlt]
    ·rw [if_neg hji, getD_set_ne false (Ne.symm hji)]
   have hput : (fill ops (fun i => listed.getD i false) vs a ops.size).put o.dst v = fill ops (fun j => (listed.setIfInBounds i true).getD j false) (updV vs i v) a ops.size := by
    rw [hfun, fill_setG hs hL (by rw [← hsz]; exact hlt) v ops.size (Nat.le_refl _), if_pos (by rw [← hsz]; exact hlt), hsl]
   rw [hput]
   refine ih _ _ _ (by simpa using hsz) (by have := cntG_set hun; omega) ?_ (by rw [hfun]; exact hI')
   intro j oj hoj hj k hk
   by_cases hji : j = i
   ·subst hji
    obtain rfl : o = oj := Option.some.inj (ho.symm.trans hoj)
    exact getD_set_true (hw k hk)
   ·rw [getD_set_ne false (Ne.symm hji)] at hj
    exact getD_set_true (hcl j oj hoj hj k hk)
  rcases h1 with ⟨hwt, hwp⟩ | ⟨hwt, hI2⟩
  ·rw [if_pos hwt]
   refine .inl (Oper.wp_mono ?_ hwp)
   rintro a' w' ⟨v, rfl, hI'⟩
   exact key v w' hI'
  ·rw [if_neg (by rw [hwt]; simp)]
   exact key undef w hI2
end
theorem wp_region_ghostH {P : Program} {id : Nat} {Q : Exit → Act → World → Prop} {a : Act} {w : World} {l : List Oper} (I : (Nat → Bool) → (Nat → Value) → World → Prop) (hm : P.follows .mixedOrders = true) (hs : ownSlotsG l.toArray = true)
  (h0 : I (fun _ => false) (fun _ => undef) w.drew) (hstep : EachStepH P l.toArray Q a I l 0)
  (hend : ∀ vs w, I (fun i => decide (i < l.length)) vs w → Q .normal (fill l.toArray (fun _ => true) vs a l.length) w) : (Code.region id l.toArray true).wp P Q a w := by
 refine wp_region_any hm ?_
 have hf : ∀ n, fill l.toArray (fun _ => false) (fun _ => undef) a n = a := by
  intro n
  induction n with
  | zero => rfl
  | succ n ih => unfold fill; simp [ih]
 have hfun : (fun i => (Array.replicate l.toArray.size false).getD i false) = fun _ => false := by
  funext i
  by_cases h : i < l.length <;> simp [h]
 have hcnt : cntG (Array.replicate l.toArray.size false) = l.toArray.size := by
  unfold cntG
  simp [List.filter_replicate]
 have := any_ghostH (P := P) (Q := Q) (a := a) (I := I) hs (by simpa using hstep) (by simpa using hend) l.toArray.size (Array.replicate l.toArray.size false) (fun _ => undef) w.drew (by simp) hcnt
  (fun j oj _ hj => by
   have := congrFun hfun j
   rw [this] at hj
   cases hj) (by rw [hfun]; exact h0)
 rw [hfun, hf] at this
 exact this
theorem wanted_not {ops : Array Oper} {o : Oper} {k d : Nat} {t : Bool} {v : Value} {b : Act} (hg : o.guard = some (k, t)) (hd : slotOf ops k = some d) (he : b.tmps[d]?.getD undef = v) (hv : v ≠ .bool t) : Region.wanted o (yielded ops b.tmps) = false := by
 unfold slotOf at hd
 have hy : yielded ops b.tmps k ≠ some t := by
  unfold yielded
  rw [hd]
  cases hx : b.tmps[d]? with
  | none => simp [hx]
  | some u =>
   rw [hx] at he
   simp only [Option.getD_some] at he
   subst he
   intro h
   refine hv ?_
   simp only [Option.bind_some, hx] at h
   cases u <;> simp_all
 simp [Region.wanted, hg, hy]
theorem AgI.skip {W : World} {val : Nat → Value} {sn : Nat → Option (Nat × Array Value × TypeId)} {L : Nat → Bool} {vs : Nat → Value} {X : World} (h : AgI W val sn L vs X) {i : Nat} (hn : sn i = none) (hv : undef = val i) : AgI W val sn (updB L i) (updV vs i undef) X := h.next hn hv (Below.refl _ _)
end Go.Proofs.YthnimhnlnddnoaaGreatDoor
