/- The ghost law's bookkeeping of slices of the call's own: what each operation has laid stays until it is used up. The ghost law's bookkeeping where every operation leaves what there was: what each has yielded. The ghost law's bookkeeping of a region that reads, makes one block and fills it. -/
import Derived.Test.YtajdgdelhlfniaaGreatDoorH20
import Derived.Test.YtajdgdelhlfniaaGreatDoorH12
import Derived.Test.YtajdgdelhlfniaaGreatDoorH29
import Derived.Test.YtajdgdelhlfniaaGreatDoorH23
set_option linter.unusedSimpArgs false
set_option linter.unusedVariables false
namespace Go.Proofs.YtajdgdelhlfniaaGreatDoor
open Go.RowKit

section
variable {α : Type} {At : World → Addr → α → Prop} {sz : Nat} [E : Enc α At sz]

/-- values k with `own k` are slices of the call's own; k is used up by operation `con k` -/
def lv (own : Nat → Bool) (con : Nat → Nat) (L : Nat → Bool) (k : Nat) : Prop := own k = true ∧ L k = true ∧ L (con k) = false
structure GO (base : Nat) (T : TypeId) (W : World) (live : Nat → Prop) (xs : Nat → List α) (vs : Nat → Value) (X : World) : Prop where
  bel : Below base W X
  le : base ≤ X.heap.size
  own : ∀ k, live k → Own base T X (vs k) (xs k)
  sep : ∀ j k, live j → live k → j ≠ k → ∀ g, (vs j).ownBlock = some g → (vs k).ownBlock ≠ some g
theorem GO.mono {base : Nat} {T : TypeId} {W X : World} {live live' : Nat → Prop} {xs : Nat → List α} {vs vs' : Nat → Value} (h : GO base T W live xs vs X) (hl : ∀ k, live' k → live k ∧ vs' k = vs k) : GO base T W live' xs vs' X :=
  ⟨h.bel, h.le, fun k hk => by rw [(hl k hk).2]; exact h.own k (hl k hk).1, fun j k hj hk hne g hg => by
    rw [(hl j hj).2] at hg
    rw [(hl k hk).2]
    exact h.sep j k (hl j hj).1 (hl k hk).1 hne g hg⟩
theorem lv_other {own : Nat → Bool} {con : Nat → Nat} {L : Nat → Bool} {i k : Nat} (h : lv own con (updB L i) k) (hk : k ≠ i) : lv own con L k ∧ con k ≠ i := by
  obtain ⟨h1, h2, h3⟩ := h
  have hc : con k ≠ i := fun e => by rw [e, updB_self] at h3; cases h3
  exact ⟨⟨h1, by rwa [updB_other L hk] at h2, by rwa [updB_other L hc] at h3⟩, hc⟩
theorem GO.skip {base : Nat} {T : TypeId} {W X : World} {own : Nat → Bool} {con : Nat → Nat} {L : Nat → Bool} {xs : Nat → List α} {vs : Nat → Value} {i : Nat} (h : GO base T W (lv own con L) xs vs X) (hi : own i = false) (v : Value) : GO base T W (lv own con (updB L i)) xs (updV vs i v) X :=
  h.mono fun k hk => by
    have hne : k ≠ i := fun e => by
      have h1 := hk.1
      rw [e, hi] at h1
      cases h1
    exact ⟨(lv_other hk hne).1, updV_other _ _ hne⟩
/-- a call, or anything else that leaves what there was -/
theorem GO.below {base : Nat} {T : TypeId} {W X X' : World} {live : Nat → Prop} {xs : Nat → List α} {vs : Nat → Value} (h : GO base T W live xs vs X) (hb : Below X.heap.size X X') : GO base T W live xs vs X' :=
  ⟨h.bel.trans (hb.mono h.le), Nat.le_trans h.le hb.size, fun k hk => (h.own k hk).below hb, h.sep⟩
theorem own_block_lt {base : Nat} {T : TypeId} {X : World} {v : Value} {xs : List α} (h : Own base T X v xs) {g : Nat} (hg : v.ownBlock = some g) : g < X.heap.size := by
  rcases h with ⟨_, ⟨rfl, _⟩ | ⟨g', cap, cu, rfl, hle, hh, _⟩⟩
  · cases hg
  · simp only [Value.ownBlock, Option.some.injEq] at hg
    subst hg
    exact lt_of_block hh
/-- a literal slice -/
theorem GO.lit {base : Nat} {T : TypeId} {W X : World} {own : Nat → Bool} {con : Nat → Nat} {L : Nat → Bool} {xs : Nat → List α} {vs : Nat → Value} {i n : Nat} (h : GO base T W (lv own con L) xs vs X) (hn : n = (xs i).length) (hs : n ≤ 1000) {cs : Array Value} (hcs : cs = ((xs i).flatMap E.enc).toArray) :
    GO base T W (lv own con (updB L i)) xs (updV vs i (.slice (some ⟨X.heap.size, 0, none⟩) n n)) (X.alloc (.cells cs T)) := by
  subst hn hcs
  have hb : Below X.heap.size X (X.alloc (.cells ((xs i).flatMap E.enc).toArray T)) := (Below.refl _ _).alloc (Nat.le_refl _) _
  have h2 := h.below hb
  have hnew : Own base T (X.alloc (.cells ((xs i).flatMap E.enc).toArray T)) (.slice (some ⟨X.heap.size, 0, none⟩) (xs i).length (xs i).length) (xs i) := (own_lit (xs i) hs (heap_alloc_new X _)).mono h.le
  refine ⟨h2.bel, h2.le, fun k hk => ?_, fun j k hj hk hne g hg => ?_⟩
  · by_cases e : k = i
    · subst e; rw [updV_self]; exact hnew
    · rw [updV_other _ _ e]; exact h2.own k (lv_other hk e).1
  · by_cases e : k = i
    · subst e
      rw [updV_self]
      rw [updV_other _ _ hne] at hg
      have := own_block_lt (h.own j (lv_other hj hne).1) hg
      simp only [Value.ownBlock, ne_eq, Option.some.injEq]
      omega
    · rw [updV_other _ _ e]
      by_cases e2 : j = i
      · subst e2
        rw [updV_self] at hg
        simp only [Value.ownBlock, Option.some.injEq] at hg
        subst hg
        intro hk2
        have := own_block_lt (h.own k (lv_other hk e).1) hk2
        omega
      · rw [updV_other _ _ e2] at hg
        exact h2.sep j k (lv_other hj e2).1 (lv_other hk e).1 hne g hg
/-- an append -/
theorem GO.app {base : Nat} {T : TypeId} {W X X' : World} {own : Nat → Bool} {con : Nat → Nat} {L : Nat → Bool} {xs : Nat → List α} {vs : Nat → Value} {i j : Nat} {v' : Value} (h : GO base T W (lv own con L) xs vs X) (hj : lv own con L j) (hc : con j = i)
    (hown : Own base T X' v' (xs i)) (hg : X.grownBy X' (vs j).ownBlock) (hv : v'.ownBlock = (vs j).ownBlock ∨ v'.ownBlock = some X.heap.size) : GO base T W (lv own con (updB L i)) xs (updV vs i v') X' := by
  have hnj : ∀ k, lv own con (updB L i) k → k ≠ i → k ≠ j := fun k hk hki e => by subst e; exact (lv_other hk hki).2 hc
  have hbx : Below base X X' := ((h.own j hj).grown hg).resolve_right (by have := h.le; omega)
  have hsz : X.heap.size ≤ X'.heap.size := hg.size
  refine ⟨h.bel.trans hbx, Nat.le_trans h.le hsz, fun k hk => ?_, fun a b ha hb hne g hga => ?_⟩
  · by_cases e : k = i
    · subst e; rw [updV_self]; exact hown
    · rw [updV_other _ _ e]
      have hk0 := (lv_other hk e).1
      have ho := h.own k hk0
      refine (show Own base T X' (vs k) (xs k) from ?_)
      rcases id ho with ⟨hl, h0 | ⟨g, cap, cur, hvk, hbb, hh, r⟩⟩
      · exact ⟨hl, .inl h0⟩
      · refine ⟨hl, .inr ⟨g, cap, cur, hvk, hbb, (hg.block g (lt_of_block hh) fun e2 => ?_).trans hh, r⟩⟩
        exact h.sep j k hj hk0 (Ne.symm (hnj k hk e)) g e2.symm (by rw [hvk]; rfl)
  · have key : ∀ k, lv own con (updB L i) k → k ≠ i → ∀ g, (vs k).ownBlock = some g → v'.ownBlock ≠ some g := fun k hk hki g hgk => by
      have hk0 := (lv_other hk hki).1
      rcases hv with e | e
      · rw [e]
        exact fun e2 => h.sep j k hj hk0 (Ne.symm (hnj k hk hki)) g e2 hgk
      · rw [e]
        intro e2
        have := own_block_lt (h.own k hk0) hgk
        simp only [Option.some.injEq] at e2
        omega
    by_cases ea : a = i
    · subst ea
      rw [updV_self] at hga
      rw [updV_other _ _ (Ne.symm hne)]
      exact fun e => key b hb (Ne.symm hne) g e hga
    · rw [updV_other _ _ ea] at hga
      by_cases eb : b = i
      · subst eb
        rw [updV_self]
        exact key a ha ea g hga
      · rw [updV_other _ _ eb]
        exact h.sep a b (lv_other ha ea).1 (lv_other hb eb).1 hne g hga
end

/-- the cells of a slice that reads as notes -/
theorem append_gen {α : Type} {At : World → Addr → α → Prop} {sz : Nat} [E : Enc α At sz] {P : Program} {base : Nat} {t ty e : TypeId} {bytes : Nat} (ht : P.underlying t = some (.slice e)) (hinfo : (P.info? e).map (fun i => (i.size, i.bytes, i.zero.map (·.cells.size))) = some (sz, bytes, some sz)) (hsz : 0 < sz)
    (h1 : ∀ x, ∀ u ∈ E.enc x, u.oneCell' = true) {w : World} {v : Value} {xs ys : List α} {A : Option Addr} {m c : Nat} (hm : m = ys.length) (h : Own base e w v xs) (hA : A = none → ys = []) (hr : ∀ ad, A = some ad → ∀ j u, (ys.flatMap E.enc)[j]? = some u → w.cell? (ad.add j) = some u)
    (hn : xs.length + ys.length ≤ maxLen) (hb : (xs.length + ys.length) * bytes ≤ 140737488355328) (hbase : base ≤ w.heap.size) :
    ∃ v' w', (Builtin.append_ #[t, t] ty #[v, .slice A m c]).run P w = .ok v' w' ∧ Own base e w' v' (xs ++ ys) ∧ w.grownBy w' v.ownBlock ∧ (v'.ownBlock = v.ownBlock ∨ v'.ownBlock = some w.heap.size) := by
  subst hm
  obtain ⟨i, hi, hi2⟩ := Option.map_eq_some_iff.1 hinfo
  simp only [Prod.mk.injEq] at hi2
  obtain ⟨hsize, hby, hz0⟩ := hi2
  obtain ⟨z, hz, hzs⟩ := Option.map_eq_some_iff.1 hz0
  cases A with
  | none =>
    have hy := hA rfl
    subst hy
    have hrun := run_append_nil (ty := ty) ht hi h c
    exact ⟨v, w, hrun, by simpa using h, ⟨rfl, rfl, rfl, Nat.le_refl _, fun _ _ _ => rfl⟩, .inl rfl⟩
  | some ad =>
    obtain ⟨v', w', hrun, h2, h3, _, h5⟩ := run_append_own_at (P := P) w base t ty e i z sz bytes ht hi hz hsize hby hzs hsz v xs.length (xs.flatMap E.enc) h
      ad ys.length c (ys.flatMap E.enc) (by rw [flat_len]) (hr ad rfl)
      (fun u hu => by
        obtain ⟨o, _, ho⟩ := List.mem_flatMap.1 hu
        exact h1 o u ho) hn hb hbase
    exact ⟨v', w', hrun, Own.of_append rfl h2, h3, h5⟩
theorem rd_none {α : Type} {At : World → Addr → α → Prop} {sz B n c : Nat} {w : World} {ys : List α} (h : Rd At sz B w (.slice none n c) ys) : ys = [] := by
  obtain ⟨A, cap, e, _, _, hc⟩ := h
  cases e
  cases ys with
  | nil => rfl
  | cons y ys => obtain ⟨ad, e, _⟩ := hc 0 y rfl; cases e
set_option maxRecDepth 100000 in
/-- notes behind notes of the call's own -/
theorem append_notes2 {base B : Nat} {w : World} {v : Value} {xs ys : List NoteR} {A : Option Addr} {c m : Nat} (hm : m = ys.length) (h : Own base 69 w v xs) (hr : Rd NoteAt 5 B w (.slice A ys.length c) ys) (hn : (xs.length + ys.length) * 40 ≤ 140737488355328) (hbase : base ≤ w.heap.size) :
    ∃ v' w', (Builtin.append_ #[23, 23] 23 #[v, .slice A m c]).run Tryz.prog w = .ok v' w' ∧ Own base 69 w' v' (xs ++ ys) ∧ w.grownBy w' v.ownBlock ∧ (v'.ownBlock = v.ownBlock ∨ v'.ownBlock = some w.heap.size) :=
  append_gen (E := inferInstance) (bytes := 40) (by kernel_rfl) (by kernel_rfl) (by omega) (by simp [Enc.enc]; intros; refine ⟨?_, ?_, ?_, ?_, ?_⟩ <;> rfl) hm h (fun e => by subst e; exact rd_none hr) (fun ad e => flat_notes hr ad e) (by unfold maxLen; omega) hn hbase
theorem enc_cells_int {B : Nat} {w : World} {A : Option Addr} {n c : Nat} {ys : List Int} (h : Rd IntAt 1 B w (.slice A n c) ys) (ad : Addr) (hA : A = some ad) : ∀ j u, (ys.flatMap (Enc.enc (α := Int)))[j]? = some u → w.cell? (ad.add j) = some u := by
  intro j u hu
  rw [enc_ints, List.getElem?_map] at hu
  obtain ⟨y, hy, rfl⟩ := Option.map_eq_some_iff.1 hu
  obtain ⟨A0, c0, e0, _, _, hcell⟩ := h
  injection e0 with e1 e2 e3
  subst e1
  obtain ⟨ad', e, _, ha⟩ := hcell j y hy
  rw [hA] at e
  injection e with e
  subst e
  simpa [IntAt] using ha
set_option maxRecDepth 100000 in
theorem append_ints2 {base B : Nat} {w : World} {v : Value} {xs ys : List Int} {A : Option Addr} {c m : Nat} (hm : m = ys.length) (h : Own base 3 w v xs) (hr : Rd IntAt 1 B w (.slice A ys.length c) ys) (hn : (xs.length + ys.length) * 8 ≤ 140737488355328) (hbase : base ≤ w.heap.size) :
    ∃ v' w', (Builtin.append_ #[43, 43] 43 #[v, .slice A m c]).run Tryz.prog w = .ok v' w' ∧ Own base 3 w' v' (xs ++ ys) ∧ w.grownBy w' v.ownBlock ∧ (v'.ownBlock = v.ownBlock ∨ v'.ownBlock = some w.heap.size) :=
  append_gen (E := inferInstance) (bytes := 8) (by kernel_rfl) (by kernel_rfl) (by omega) (by simp [Enc.enc]; intros; rfl) hm h (fun e => by subst e; exact rd_none hr) (fun ad e => enc_cells_int hr ad e) (by unfold maxLen; omega) hn hbase
theorem run_exec_bs {P : Program} {o : Oper} {a : Act} {w w' : World} (T : TypeId) (n : Nat) (parts : Array (Nat × Operand)) (ho : o.op = .buildSlice T n parts) {vs : Array (Nat × Value)} (hv : parts.toList.map (fun (i, x) => (i, a.eval x)) = vs.toList) {v : Value}
    (hr : (Instr.buildSlice T n vs).run P w = .ok v w') : (execOp a.eval o).run P w = .ok (.value v) w' := by
  have hv : parts.map (fun (i, x) => (i, a.eval x)) = vs := by
    rw [← Array.toList_inj, Array.toList_map]
    exact hv
  unfold execOp
  rw [ho]
  simp only [Sem.run_bind, Sem.run_pure, hv, hr, Result.andThen_ok]
theorem run_exec_append {P : Program} {o : Oper} {a : Act} {w w' : World} (s x : Operand) (t : TypeId) (ho : o.op = .call { callee := .builtin .append, args := #[s, x], argTypes := #[t, t] }) {u1 u2 v : Value} (h1 : a.eval s = u1) (h2 : a.eval x = u2)
    (hrun : (Builtin.append_ #[t, t] o.type #[u1, u2]).run P w = .ok v w') : (execOp a.eval o).run P w = .ok (.value v) w' := by
  unfold execOp
  simp only [ho, resolve, invoke, builtin, Sem.run_bind, Sem.run_pure, Result.andThen_ok, List.map_toArray, List.map_cons, List.map_nil, h1, h2, hrun]
theorem run_bsN0 (w : World) : (Instr.buildSlice 23 0 #[]).run Tryz.prog w = .ok (.slice (some ⟨w.heap.size, 0, none⟩) 0 0) (w.alloc (.cells #[] 69)) := by kernel_rfl
theorem run_bsI0 (w : World) : (Instr.buildSlice 43 0 #[]).run Tryz.prog w = .ok (.slice (some ⟨w.heap.size, 0, none⟩) 0 0) (w.alloc (.cells #[] 3)) := by kernel_rfl
theorem run_bsN1 (x : NoteR) (w : World) : (Instr.buildSlice 23 1 #[(0, noteV x)]).run Tryz.prog w = .ok (.slice (some ⟨w.heap.size, 0, none⟩) 1 1) (w.alloc (.cells #[.int .i64 x.kind, .int .i64 x.a, .int .i64 x.b, .int .i64 x.lo, .int .i64 x.hi] 69)) := run_bsN _ w

/-! ### one element more, kept in a field -/
section
variable {α : Type} {At : World → Addr → α → Prop} {sz : Nat} [E : Enc α At sz]
/-- operation ib lays the element, ia appends it to the slice v0 of the call's own, it stores what comes of it in a cell; all others read -/
structure ApI (B0 : Nat) (T : TypeId) (W : World) (v0 : Value) (l : List α) (x : α) (ib ia it : Nat) (cell : Addr) (rdP : Nat → Bool) (val : Nat → Value) (L : Nat → Bool) (vs : Nat → Value) (X : World) : Prop where
  pre : L ia = false → L it = false → Below W.heap.size W X
  lit : L ib = true → L ia = false → L it = false → Own W.heap.size T X (vs ib) [x]
  post : L ia = true → L it = false → Below B0 W X ∧ Own B0 T X (vs ia) (l ++ [x])
  rd : ∀ k, rdP k = true → L k = true → vs k = val k
  st : L it = true → ∃ X0, Below B0 W X0 ∧ Own B0 T X0 (vs ia) (l ++ [x]) ∧ X = X0.setCell cell (vs ia)
variable {B0 : Nat} {T : TypeId} {W : World} {v0 : Value} {l : List α} {x : α} {ib ia it : Nat} {cell : Addr} {rdP : Nat → Bool} {val : Nat → Value} {L : Nat → Bool} {vs : Nat → Value} {X : World}
theorem ApI.start : ApI B0 T W v0 l x ib ia it cell rdP val (fun _ => false) (fun _ => undef) W.drew :=
  ⟨fun _ _ => (Below.refl _ _).drew, fun h => by (cases h), fun h => by (cases h), fun _ _ h => (by cases h), fun h => by (cases h)⟩
theorem ApI.read (h : ApI B0 T W v0 l x ib ia it cell rdP val L vs X) {i : Nat} (h1 : i ≠ ib) (h2 : i ≠ ia) (h3 : i ≠ it) : ApI B0 T W v0 l x ib ia it cell rdP val (updB L i) (updV vs i (val i)) X := by
  refine ⟨?_, ?_, ?_, rd_step h.rd (fun _ => rfl), ?_⟩
  · rw [updB_other _ (Ne.symm h2), updB_other _ (Ne.symm h3)]; exact h.pre
  · rw [updB_other _ (Ne.symm h1), updB_other _ (Ne.symm h2), updB_other _ (Ne.symm h3), updV_other _ _ (Ne.symm h1)]; exact h.lit
  · rw [updB_other _ (Ne.symm h2), updB_other _ (Ne.symm h3), updV_other _ _ (Ne.symm h2)]; exact h.post
  · rw [updB_other _ (Ne.symm h3), updV_other _ _ (Ne.symm h2)]; exact h.st
theorem ApI.build (h : ApI B0 T W v0 l x ib ia it cell rdP val L vs X) (h2 : ib ≠ ia) (h3 : ib ≠ it) (h4 : L ia = false) (h5 : L it = false) (h6 : rdP ib = false) {cs : Array Value} (hcs : cs = (E.enc x).toArray) :
    ApI B0 T W v0 l x ib ia it cell rdP val (updB L ib) (updV vs ib (.slice (some ⟨X.heap.size, 0, none⟩) 1 1)) (X.alloc (.cells cs T)) := by
  have hb := h.pre h4 h5
  refine ⟨fun _ _ => hb.alloc hb.size _, fun _ _ _ => ?_, fun h => ?_, rd_step h.rd (fun h => (by rw [h6] at h; cases h)), fun h => ?_⟩
  · rw [updV_self]
    exact (own_lit (e := T) [x] (by simp) (by rw [heap_alloc_new X _, hcs]; simp)).mono hb.size
  · rw [updB_other _ (Ne.symm h2), h4] at h; cases h
  · rw [updB_other _ (Ne.symm h3), h5] at h; cases h
theorem ApI.append_ (h : ApI B0 T W v0 l x ib ia it cell rdP val L vs X) (h2 : ia ≠ ib) (h3 : ia ≠ it) (h4 : L ia = false) (h5 : L it = false) (h6 : rdP ia = false) {v' : Value} {X' : World} (hv0 : Own B0 T W v0 l) (hB : B0 ≤ W.heap.size) (ho : Own B0 T X' v' (l ++ [x])) (hg : X.grownBy X' v0.ownBlock) :
    ApI B0 T W v0 l x ib ia it cell rdP val (updB L ia) (updV vs ia v') X' := by
  have hb := h.pre h4 h5
  have hb2 : Below B0 X X' := ((hv0.below hb).grown hg).resolve_right (by have := hb.size; omega)
  refine ⟨fun h => (by rw [updB_self] at h; cases h), fun _ h => (by rw [updB_self] at h; cases h), fun _ _ => ⟨(hb.mono hB).trans hb2, by rw [updV_self]; exact ho⟩, rd_step h.rd (fun h => (by rw [h6] at h; cases h)), fun h => ?_⟩
  rw [updB_other _ (Ne.symm h3), h5] at h; cases h
theorem ApI.store (h : ApI B0 T W v0 l x ib ia it cell rdP val L vs X) (h3 : it ≠ ia) (h4 : L ia = true) (h5 : L it = false) (h6 : rdP it = false) : ApI B0 T W v0 l x ib ia it cell rdP val (updB L it) (updV vs it undef) (X.setCell cell (vs ia)) := by
  obtain ⟨hb, ho⟩ := h.post h4 h5
  refine ⟨fun _ h => (by rw [updB_self] at h; cases h), fun _ _ h => (by rw [updB_self] at h; cases h), fun _ h => (by rw [updB_self] at h; cases h), rd_step h.rd (fun h => (by rw [h6] at h; cases h)), fun _ => ?_⟩
  rw [updV_other _ _ (Ne.symm h3)]
  exact ⟨X, hb, ho, rfl⟩
end
end Go.Proofs.YtajdgdelhlfniaaGreatDoor
namespace Go.Proofs.YtajdgdelhlfniaaGreatDoor
open Go.RowKit

structure BlI (W : World) (F : Nat → Value → World → Prop) (L : Nat → Bool) (vs : Nat → Value) (X : World) : Prop where
  bel : Below W.heap.size W X
  fs : ∀ k, L k = true → F k (vs k) X
/-- what is said of the values stays true -/
def Keeps (F : Nat → Value → World → Prop) : Prop := ∀ k v X X', F k v X → Below X.heap.size X X' → F k v X'
theorem BlI.start {W : World} {F : Nat → Value → World → Prop} : BlI W F (fun _ => false) (fun _ => undef) W.drew := ⟨(Below.refl _ _).drew, fun _ h => (by cases h)⟩
theorem BlI.step {W : World} {F : Nat → Value → World → Prop} {L : Nat → Bool} {vs : Nat → Value} {X X' : World} {i : Nat} {v : Value} (h : BlI W F L vs X) (hF : Keeps F) (hb : Below X.heap.size X X') (hv : F i v X') : BlI W F (updB L i) (updV vs i v) X' := by
  refine ⟨h.bel.trans (hb.mono h.bel.size), fun k hk => ?_⟩
  by_cases e : k = i
  · subst e; rw [updV_self]; exact hv
  · rw [updV_other _ _ e]
    rw [updB_other _ e] at hk
    exact hF _ _ _ _ (h.fs k hk) hb
theorem BlI.read {W : World} {F : Nat → Value → World → Prop} {L : Nat → Bool} {vs : Nat → Value} {X : World} {i : Nat} {v : Value} (h : BlI W F L vs X) (hF : Keeps F) (hv : F i v X) : BlI W F (updB L i) (updV vs i v) X := h.step hF (Below.refl _ _) hv
/-- some values read as a sheet, all others are known -/
def FS (sh : Nat → Bool) (t : ShR) (val : Nat → Value) (k : Nat) (v : Value) (X : World) : Prop := (sh k = true → RdSh X.heap.size X v t) ∧ (sh k = false → v = val k)
theorem FS.keeps (sh : Nat → Bool) (t : ShR) (val : Nat → Value) : Keeps (FS sh t val) := fun _ _ _ _ h hb => ⟨fun hs => ((h.1 hs).below hb).mono hb.size, h.2⟩
theorem FS.known {sh : Nat → Bool} {t : ShR} {val : Nat → Value} {k : Nat} {X : World} (hk : sh k = false) : FS sh t val k (val k) X := ⟨fun h => (by rw [hk] at h; cases h), fun _ => rfl⟩
/-- one more: some values read as numbers -/
def FI (ns : Nat → Option (List Int)) (val : Nat → Value) (k : Nat) (v : Value) (X : World) : Prop := (∀ l, ns k = some l → Rd IntAt 1 X.heap.size X v l) ∧ (ns k = none → v = val k)
theorem FI.keeps (ns : Nat → Option (List Int)) (val : Nat → Value) : Keeps (FI ns val) := fun _ _ _ _ h hb => ⟨fun l hs => ((h.1 l hs).below hb).mono hb.size, h.2⟩
theorem GO.move {α : Type} {At : World → Addr → α → Prop} {sz : Nat} [E : Enc α At sz] {base : Nat} {T : TypeId} {W X : World} {own : Nat → Bool} {con : Nat → Nat} {L : Nat → Bool} {xs : Nat → List α} {vs : Nat → Value} {i j : Nat} (h : GO base T W (lv own con L) xs vs X) (hj : lv own con L j) (hc : con j = i) (hx : xs i = xs j) :
    GO base T W (lv own con (updB L i)) xs (updV vs i (vs j)) X :=
  h.app hj hc (hx ▸ h.own j hj) ⟨rfl, rfl, rfl, Nat.le_refl _, fun _ _ _ => rfl⟩ (.inl rfl)
end Go.Proofs.YtajdgdelhlfniaaGreatDoor
namespace Go.Proofs.YtajdgdelhlfniaaGreatDoor
open Go.RowKit

structure AlI (W : World) (val : Nat → Value) (ia il : Nat) (cs0 cs1 : Array Value) (T : TypeId) (L : Nat → Bool) (vs : Nat → Value) (X : World) : Prop where
  bel : Below W.heap.size W X
  vals : ∀ k, k ≠ ia → k ≠ il → L k = true → vs k = val k
  al : L ia = true → ∃ g, vs ia = .pointer (some ⟨g, 0, none⟩) ∧ W.heap.size ≤ g ∧ X.heap[g]? = some (.cells (if L il = true then cs1 else cs0) T)
theorem AlI.start {W : World} {val : Nat → Value} {ia il : Nat} {cs0 cs1 : Array Value} {T : TypeId} : AlI W val ia il cs0 cs1 T (fun _ => false) (fun _ => undef) W.drew :=
  ⟨(Below.refl _ _).drew, fun _ _ _ h => (by cases h), fun h => (by cases h)⟩
theorem AlI.read {W : World} {val : Nat → Value} {ia il : Nat} {cs0 cs1 : Array Value} {T : TypeId} {L : Nat → Bool} {vs : Nat → Value} {X : World} {i : Nat} {v : Value} (h : AlI W val ia il cs0 cs1 T L vs X) (hia : i ≠ ia) (hil : i ≠ il) (hv : v = val i) :
    AlI W val ia il cs0 cs1 T (updB L i) (updV vs i v) X := by
  subst hv
  refine ⟨h.bel, fun k h1 h2 h3 => ?_, fun h1 => ?_⟩
  · by_cases e : k = i
    · subst e; rw [updV_self]
    · rw [updV_other _ _ e]
      rw [updB_other _ e] at h3
      exact h.vals k h1 h2 h3
  · rw [updB_other _ (Ne.symm hia)] at h1
    rw [updV_other _ _ (Ne.symm hia), updB_other _ (Ne.symm hil)]
    exact h.al h1
theorem AlI.alloc {W : World} {val : Nat → Value} {ia il : Nat} {cs0 cs1 : Array Value} {T : TypeId} {L : Nat → Bool} {vs : Nat → Value} {X : World} (h : AlI W val ia il cs0 cs1 T L vs X) (hne : ia ≠ il) (hl : L il = false) :
    AlI W val ia il cs0 cs1 T (updB L ia) (updV vs ia (.pointer (some ⟨X.heap.size, 0, none⟩))) (X.alloc (.cells cs0 T)) := by
  refine ⟨h.bel.trans (((Below.refl _ _).alloc (Nat.le_refl _) _).mono h.bel.size), fun k h1 h2 h3 => ?_, fun _ => ⟨X.heap.size, by rw [updV_self], h.bel.size, ?_⟩⟩
  · rw [updV_other _ _ h1]
    rw [updB_other _ h1] at h3
    exact h.vals k h1 h2 h3
  · rw [updB_other _ (Ne.symm hne), hl]
    exact heap_alloc_new X _
theorem AlI.store {W : World} {val : Nat → Value} {ia il : Nat} {cs0 cs1 : Array Value} {T : TypeId} {L : Nat → Bool} {vs : Nat → Value} {X : World} {g : Nat} {v : Value} (h : AlI W val ia il cs0 cs1 T L vs X) (hne : ia ≠ il) (hg : vs ia = .pointer (some ⟨g, 0, none⟩)) (hW : W.heap.size ≤ g) (hx : X.heap[g]? = some (.cells cs0 T)) :
    AlI W val ia il cs0 cs1 T (updB L il) (updV vs il v) (X.setRow g cs1) := by
  refine ⟨h.bel.trans (setRow_below _ hW), fun k h1 h2 h3 => ?_, fun _ => ⟨g, by rw [updV_other _ _ hne]; exact hg, hW, ?_⟩⟩
  · rw [updV_other _ _ h2]
    rw [updB_other _ h2] at h3
    exact h.vals k h1 h2 h3
  · rw [updB_self, if_pos rfl]
    exact setRow_heap _ _ _ _ _ _ hx
theorem AlI.unstored {W : World} {val : Nat → Value} {ia il : Nat} {cs0 cs1 : Array Value} {T : TypeId} {L : Nat → Bool} {vs : Nat → Value} {X : World} (h : AlI W val ia il cs0 cs1 T L vs X) (ha : L ia = true) (hl : L il = false) :
    ∃ g, vs ia = .pointer (some ⟨g, 0, none⟩) ∧ W.heap.size ≤ g ∧ X.heap[g]? = some (.cells cs0 T) := by
  obtain ⟨g, h1, h2, h3⟩ := h.al ha
  rw [hl] at h3
  exact ⟨g, h1, h2, h3⟩
end Go.Proofs.YtajdgdelhlfniaaGreatDoor
