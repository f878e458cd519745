/- The ghost law's bookkeeping of slices of the call's own: what each operation has laid stays until it is used up. Walks of the layer sheet: the law's with. Walks of the layer sheet: the law's some. -/
import Derived.Test.YtajdgdelhlfniaaGreatDoorGhost
import Derived.Test.YtajdgdelhlfniaaGreatDoorAppend
import Derived.Test.YtajdgdelhlfniaaGreatDoorHlp
import Derived.Test.YtajdgdelhlfniaaGreatDoorGTk4
import Derived.Test.YtajdgdelhlfniaaGreatDoorGPl
import Derived.Lib.SmallJoins
import Derived.WalkKit
import Derived.Deep.Quiet
set_option linter.unusedSimpArgs false
set_option linter.unusedVariables false
namespace Go.Proofs.YtajdgdelhlfniaaGreatDoor
open Go.RowKit

section
variable {α : Type} {At : World → Addr → α → Prop} {sz : Nat} [E : Enc α At sz]

/-- values k with `own k` are slices of the call's own; k is used up by operation `con k` -/
def lv (own : Nat → Bool) (con : Nat → Nat) (L : Nat → Bool) (k : Nat) : Prop := own k = true ∧ L k = true ∧ L (con k) = false
structure GO (base : Nat) (T : TypeId) (W : World) (live : Nat → Prop) (xs : Nat → List α) (vs : Nat → Value) (X : World) : Prop where
  bel : Below base W X
  le : base ≤ X.heap.size
  own : ∀ k, live k → Own base T X (vs k) (xs k)
  sep : ∀ j k, live j → live k → j ≠ k → ∀ g, (vs j).ownBlock = some g → (vs k).ownBlock ≠ some g
theorem GO.mono {base : Nat} {T : TypeId} {W X : World} {live live' : Nat → Prop} {xs : Nat → List α} {vs vs' : Nat → Value} (h : GO base T W live xs vs X) (hl : ∀ k, live' k → live k ∧ vs' k = vs k) : GO base T W live' xs vs' X :=
  ⟨h.bel, h.le, fun k hk => by rw [(hl k hk).2]; exact h.own k (hl k hk).1, fun j k hj hk hne g hg => by
    rw [(hl j hj).2] at hg
    rw [(hl k hk).2]
    exact h.sep j k (hl j hj).1 (hl k hk).1 hne g hg⟩
theorem lv_other {own : Nat → Bool} {con : Nat → Nat} {L : Nat → Bool} {i k : Nat} (h : lv own con (updB L i) k) (hk : k ≠ i) : lv own con L k ∧ con k ≠ i := by
  obtain ⟨h1, h2, h3⟩ := h
  have hc : con k ≠ i := fun e => by rw [e, updB_self] at h3; cases h3
  exact ⟨⟨h1, by rwa [updB_other L hk] at h2, by rwa [updB_other L hc] at h3⟩, hc⟩
theorem GO.skip {base : Nat} {T : TypeId} {W X : World} {own : Nat → Bool} {con : Nat → Nat} {L : Nat → Bool} {xs : Nat → List α} {vs : Nat → Value} {i : Nat} (h : GO base T W (lv own con L) xs vs X) (hi : own i = false) (v : Value) : GO base T W (lv own con (updB L i)) xs (updV vs i v) X :=
  h.mono fun k hk => by
    have hne : k ≠ i := fun e => by
      have h1 := hk.1
      rw [e, hi] at h1
      cases h1
    exact ⟨(lv_other hk hne).1, updV_other _ _ hne⟩
/-- a call, or anything else that leaves what there was -/
theorem GO.below {base : Nat} {T : TypeId} {W X X' : World} {live : Nat → Prop} {xs : Nat → List α} {vs : Nat → Value} (h : GO base T W live xs vs X) (hb : Below X.heap.size X X') : GO base T W live xs vs X' :=
  ⟨h.bel.trans (hb.mono h.le), Nat.le_trans h.le hb.size, fun k hk => (h.own k hk).below hb, h.sep⟩
theorem own_block_lt {base : Nat} {T : TypeId} {X : World} {v : Value} {xs : List α} (h : Own base T X v xs) {g : Nat} (hg : v.ownBlock = some g) : g < X.heap.size := by
  rcases h with ⟨_, ⟨rfl, _⟩ | ⟨g', cap, cu, rfl, hle, hh, _⟩⟩
  · cases hg
  · simp only [Value.ownBlock, Option.some.injEq] at hg
    subst hg
    exact lt_of_block hh
/-- a literal slice -/
theorem GO.lit {base : Nat} {T : TypeId} {W X : World} {own : Nat → Bool} {con : Nat → Nat} {L : Nat → Bool} {xs : Nat → List α} {vs : Nat → Value} {i n : Nat} (h : GO base T W (lv own con L) xs vs X) (hn : n = (xs i).length) (hs : n ≤ 1000) {cs : Array Value} (hcs : cs = ((xs i).flatMap E.enc).toArray) :
    GO base T W (lv own con (updB L i)) xs (updV vs i (.slice (some ⟨X.heap.size, 0, none⟩) n n)) (X.alloc (.cells cs T)) := by
  subst hn hcs
  have hb : Below X.heap.size X (X.alloc (.cells ((xs i).flatMap E.enc).toArray T)) := (Below.refl _ _).alloc (Nat.le_refl _) _
  have h2 := h.below hb
  have hnew : Own base T (X.alloc (.cells ((xs i).flatMap E.enc).toArray T)) (.slice (some ⟨X.heap.size, 0, none⟩) (xs i).length (xs i).length) (xs i) := (own_lit (xs i) hs (heap_alloc_new X _)).mono h.le
  refine ⟨h2.bel, h2.le, fun k hk => ?_, fun j k hj hk hne g hg => ?_⟩
  · by_cases e : k = i
    · subst e; rw [updV_self]; exact hnew
    · rw [updV_other _ _ e]; exact h2.own k (lv_other hk e).1
  · by_cases e : k = i
    · subst e
      rw [updV_self]
      rw [updV_other _ _ hne] at hg
      have := own_block_lt (h.own j (lv_other hj hne).1) hg
      simp only [Value.ownBlock, ne_eq, Option.some.injEq]
      omega
    · rw [updV_other _ _ e]
      by_cases e2 : j = i
      · subst e2
        rw [updV_self] at hg
        simp only [Value.ownBlock, Option.some.injEq] at hg
        subst hg
        intro hk2
        have := own_block_lt (h.own k (lv_other hk e).1) hk2
        omega
      · rw [updV_other _ _ e2] at hg
        exact h2.sep j k (lv_other hj e2).1 (lv_other hk e).1 hne g hg
/-- an append -/
theorem GO.app {base : Nat} {T : TypeId} {W X X' : World} {own : Nat → Bool} {con : Nat → Nat} {L : Nat → Bool} {xs : Nat → List α} {vs : Nat → Value} {i j : Nat} {v' : Value} (h : GO base T W (lv own con L) xs vs X) (hj : lv own con L j) (hc : con j = i)
    (hown : Own base T X' v' (xs i)) (hg : X.grownBy X' (vs j).ownBlock) (hv : v'.ownBlock = (vs j).ownBlock ∨ v'.ownBlock = some X.heap.size) : GO base T W (lv own con (updB L i)) xs (updV vs i v') X' := by
  have hnj : ∀ k, lv own con (updB L i) k → k ≠ i → k ≠ j := fun k hk hki e => by subst e; exact (lv_other hk hki).2 hc
  have hbx : Below base X X' := ((h.own j hj).grown hg).resolve_right (by have := h.le; omega)
  have hsz : X.heap.size ≤ X'.heap.size := hg.size
  refine ⟨h.bel.trans hbx, Nat.le_trans h.le hsz, fun k hk => ?_, fun a b ha hb hne g hga => ?_⟩
  · by_cases e : k = i
    · subst e; rw [updV_self]; exact hown
    · rw [updV_other _ _ e]
      have hk0 := (lv_other hk e).1
      have ho := h.own k hk0
      refine (show Own base T X' (vs k) (xs k) from ?_)
      rcases id ho with ⟨hl, h0 | ⟨g, cap, cur, hvk, hbb, hh, r⟩⟩
      · exact ⟨hl, .inl h0⟩
      · refine ⟨hl, .inr ⟨g, cap, cur, hvk, hbb, (hg.block g (lt_of_block hh) fun e2 => ?_).trans hh, r⟩⟩
        exact h.sep j k hj hk0 (Ne.symm (hnj k hk e)) g e2.symm (by rw [hvk]; rfl)
  · have key : ∀ k, lv own con (updB L i) k → k ≠ i → ∀ g, (vs k).ownBlock = some g → v'.ownBlock ≠ some g := fun k hk hki g hgk => by
      have hk0 := (lv_other hk hki).1
      rcases hv with e | e
      · rw [e]
        exact fun e2 => h.sep j k hj hk0 (Ne.symm (hnj k hk hki)) g e2 hgk
      · rw [e]
        intro e2
        have := own_block_lt (h.own k hk0) hgk
        simp only [Option.some.injEq] at e2
        omega
    by_cases ea : a = i
    · subst ea
      rw [updV_self] at hga
      rw [updV_other _ _ (Ne.symm hne)]
      exact fun e => key b hb (Ne.symm hne) g e hga
    · rw [updV_other _ _ ea] at hga
      by_cases eb : b = i
      · subst eb
        rw [updV_self]
        exact key a ha ea g hga
      · rw [updV_other _ _ eb]
        exact h.sep a b (lv_other ha ea).1 (lv_other hb eb).1 hne g hga
end

/-- the cells of a slice that reads as notes -/
theorem append_gen {α : Type} {At : World → Addr → α → Prop} {sz : Nat} [E : Enc α At sz] {P : Program} {base : Nat} {t ty e : TypeId} {bytes : Nat} (ht : P.underlying t = some (.slice e)) (hinfo : (P.info? e).map (fun i => (i.size, i.bytes, i.zero.map (·.cells.size))) = some (sz, bytes, some sz)) (hsz : 0 < sz)
    (h1 : ∀ x, ∀ u ∈ E.enc x, u.oneCell' = true) {w : World} {v : Value} {xs ys : List α} {A : Option Addr} {m c : Nat} (hm : m = ys.length) (h : Own base e w v xs) (hA : A = none → ys = []) (hr : ∀ ad, A = some ad → ∀ j u, (ys.flatMap E.enc)[j]? = some u → w.cell? (ad.add j) = some u)
    (hn : xs.length + ys.length ≤ maxLen) (hb : (xs.length + ys.length) * bytes ≤ 140737488355328) (hbase : base ≤ w.heap.size) :
    ∃ v' w', (Builtin.append_ #[t, t] ty #[v, .slice A m c]).run P w = .ok v' w' ∧ Own base e w' v' (xs ++ ys) ∧ w.grownBy w' v.ownBlock ∧ (v'.ownBlock = v.ownBlock ∨ v'.ownBlock = some w.heap.size) := by
  subst hm
  obtain ⟨i, hi, hi2⟩ := Option.map_eq_some_iff.1 hinfo
  simp only [Prod.mk.injEq] at hi2
  obtain ⟨hsize, hby, hz0⟩ := hi2
  obtain ⟨z, hz, hzs⟩ := Option.map_eq_some_iff.1 hz0
  cases A with
  | none =>
    have hy := hA rfl
    subst hy
    have hrun := run_append_nil (ty := ty) ht hi h c
    exact ⟨v, w, hrun, by simpa using h, ⟨rfl, rfl, rfl, Nat.le_refl _, fun _ _ _ => rfl⟩, .inl rfl⟩
  | some ad =>
    obtain ⟨v', w', hrun, h2, h3, _, h5⟩ := run_append_own_at (P := P) w base t ty e i z sz bytes ht hi hz hsize hby hzs hsz v xs.length (xs.flatMap E.enc) h
      ad ys.length c (ys.flatMap E.enc) (by rw [flat_len]) (hr ad rfl)
      (fun u hu => by
        obtain ⟨o, _, ho⟩ := List.mem_flatMap.1 hu
        exact h1 o u ho) hn hb hbase
    exact ⟨v', w', hrun, Own.of_append rfl h2, h3, h5⟩
theorem rd_none {α : Type} {At : World → Addr → α → Prop} {sz B n c : Nat} {w : World} {ys : List α} (h : Rd At sz B w (.slice none n c) ys) : ys = [] := by
  obtain ⟨A, cap, e, _, _, hc⟩ := h
  cases e
  cases ys with
  | nil => rfl
  | cons y ys => obtain ⟨ad, e, _⟩ := hc 0 y rfl; cases e
set_option maxRecDepth 100000 in
/-- notes behind notes of the call's own -/
theorem append_notes2 {base B : Nat} {w : World} {v : Value} {xs ys : List NoteR} {A : Option Addr} {c m : Nat} (hm : m = ys.length) (h : Own base 69 w v xs) (hr : Rd NoteAt 5 B w (.slice A ys.length c) ys) (hn : (xs.length + ys.length) * 40 ≤ 140737488355328) (hbase : base ≤ w.heap.size) :
    ∃ v' w', (Builtin.append_ #[23, 23] 23 #[v, .slice A m c]).run Tryz.prog w = .ok v' w' ∧ Own base 69 w' v' (xs ++ ys) ∧ w.grownBy w' v.ownBlock ∧ (v'.ownBlock = v.ownBlock ∨ v'.ownBlock = some w.heap.size) :=
  append_gen (E := inferInstance) (bytes := 40) (by kernel_rfl) (by kernel_rfl) (by omega) (by simp [Enc.enc]; intros; refine ⟨?_, ?_, ?_, ?_, ?_⟩ <;> rfl) hm h (fun e => by subst e; exact rd_none hr) (fun ad e => flat_notes hr ad e) (by unfold maxLen; omega) hn hbase
theorem enc_cells_int {B : Nat} {w : World} {A : Option Addr} {n c : Nat} {ys : List Int} (h : Rd IntAt 1 B w (.slice A n c) ys) (ad : Addr) (hA : A = some ad) : ∀ j u, (ys.flatMap (Enc.enc (α := Int)))[j]? = some u → w.cell? (ad.add j) = some u := by
  intro j u hu
  rw [enc_ints, List.getElem?_map] at hu
  obtain ⟨y, hy, rfl⟩ := Option.map_eq_some_iff.1 hu
  obtain ⟨A0, c0, e0, _, _, hcell⟩ := h
  injection e0 with e1 e2 e3
  subst e1
  obtain ⟨ad', e, _, ha⟩ := hcell j y hy
  rw [hA] at e
  injection e with e
  subst e
  simpa [IntAt] using ha
set_option maxRecDepth 100000 in
theorem append_ints2 {base B : Nat} {w : World} {v : Value} {xs ys : List Int} {A : Option Addr} {c m : Nat} (hm : m = ys.length) (h : Own base 3 w v xs) (hr : Rd IntAt 1 B w (.slice A ys.length c) ys) (hn : (xs.length + ys.length) * 8 ≤ 140737488355328) (hbase : base ≤ w.heap.size) :
    ∃ v' w', (Builtin.append_ #[43, 43] 43 #[v, .slice A m c]).run Tryz.prog w = .ok v' w' ∧ Own base 3 w' v' (xs ++ ys) ∧ w.grownBy w' v.ownBlock ∧ (v'.ownBlock = v.ownBlock ∨ v'.ownBlock = some w.heap.size) :=
  append_gen (E := inferInstance) (bytes := 8) (by kernel_rfl) (by kernel_rfl) (by omega) (by simp [Enc.enc]; intros; rfl) hm h (fun e => by subst e; exact rd_none hr) (fun ad e => enc_cells_int hr ad e) (by unfold maxLen; omega) hn hbase
theorem run_exec_bs {P : Program} {o : Oper} {a : Act} {w w' : World} (T : TypeId) (n : Nat) (parts : Array (Nat × Operand)) (ho : o.op = .buildSlice T n parts) {vs : Array (Nat × Value)} (hv : parts.toList.map (fun (i, x) => (i, a.eval x)) = vs.toList) {v : Value}
    (hr : (Instr.buildSlice T n vs).run P w = .ok v w') : (execOp a.eval o).run P w = .ok (.value v) w' := by
  have hv : parts.map (fun (i, x) => (i, a.eval x)) = vs := by
    rw [← Array.toList_inj, Array.toList_map]
    exact hv
  unfold execOp
  rw [ho]
  simp only [Sem.run_bind, Sem.run_pure, hv, hr, Result.andThen_ok]
theorem run_exec_append {P : Program} {o : Oper} {a : Act} {w w' : World} (s x : Operand) (t : TypeId) (ho : o.op = .call { callee := .builtin .append, args := #[s, x], argTypes := #[t, t] }) {u1 u2 v : Value} (h1 : a.eval s = u1) (h2 : a.eval x = u2)
    (hrun : (Builtin.append_ #[t, t] o.type #[u1, u2]).run P w = .ok v w') : (execOp a.eval o).run P w = .ok (.value v) w' := by
  unfold execOp
  simp only [ho, resolve, invoke, builtin, Sem.run_bind, Sem.run_pure, Result.andThen_ok, List.map_toArray, List.map_cons, List.map_nil, h1, h2, hrun]
theorem run_bsN0 (w : World) : (Instr.buildSlice 23 0 #[]).run Tryz.prog w = .ok (.slice (some ⟨w.heap.size, 0, none⟩) 0 0) (w.alloc (.cells #[] 69)) := by kernel_rfl
theorem run_bsI0 (w : World) : (Instr.buildSlice 43 0 #[]).run Tryz.prog w = .ok (.slice (some ⟨w.heap.size, 0, none⟩) 0 0) (w.alloc (.cells #[] 3)) := by kernel_rfl
theorem run_bsN1 (x : NoteR) (w : World) : (Instr.buildSlice 23 1 #[(0, noteV x)]).run Tryz.prog w = .ok (.slice (some ⟨w.heap.size, 0, none⟩) 1 1) (w.alloc (.cells #[.int .i64 x.kind, .int .i64 x.a, .int .i64 x.b, .int .i64 x.lo, .int .i64 x.hi] 69)) := run_bsN _ w

/-! ### one element more, kept in a field -/
section
variable {α : Type} {At : World → Addr → α → Prop} {sz : Nat} [E : Enc α At sz]
/-- operation ib lays the element, ia appends it to the slice v0 of the call's own, it stores what comes of it in a cell; all others read -/
structure ApI (B0 : Nat) (T : TypeId) (W : World) (v0 : Value) (l : List α) (x : α) (ib ia it : Nat) (cell : Addr) (rdP : Nat → Bool) (val : Nat → Value) (L : Nat → Bool) (vs : Nat → Value) (X : World) : Prop where
  pre : L ia = false → L it = false → Below W.heap.size W X
  lit : L ib = true → L ia = false → L it = false → Own W.heap.size T X (vs ib) [x]
  post : L ia = true → L it = false → Below B0 W X ∧ Own B0 T X (vs ia) (l ++ [x])
  rd : ∀ k, rdP k = true → L k = true → vs k = val k
  st : L it = true → ∃ X0, Below B0 W X0 ∧ Own B0 T X0 (vs ia) (l ++ [x]) ∧ X = X0.setCell cell (vs ia)
variable {B0 : Nat} {T : TypeId} {W : World} {v0 : Value} {l : List α} {x : α} {ib ia it : Nat} {cell : Addr} {rdP : Nat → Bool} {val : Nat → Value} {L : Nat → Bool} {vs : Nat → Value} {X : World}
theorem ApI.start : ApI B0 T W v0 l x ib ia it cell rdP val (fun _ => false) (fun _ => undef) W.drew :=
  ⟨fun _ _ => (Below.refl _ _).drew, fun h => by (cases h), fun h => by (cases h), fun _ _ h => (by cases h), fun h => by (cases h)⟩
theorem ApI.read (h : ApI B0 T W v0 l x ib ia it cell rdP val L vs X) {i : Nat} (h1 : i ≠ ib) (h2 : i ≠ ia) (h3 : i ≠ it) : ApI B0 T W v0 l x ib ia it cell rdP val (updB L i) (updV vs i (val i)) X := by
  refine ⟨?_, ?_, ?_, rd_step h.rd (fun _ => rfl), ?_⟩
  · rw [updB_other _ (Ne.symm h2), updB_other _ (Ne.symm h3)]; exact h.pre
  · rw [updB_other _ (Ne.symm h1), updB_other _ (Ne.symm h2), updB_other _ (Ne.symm h3), updV_other _ _ (Ne.symm h1)]; exact h.lit
  · rw [updB_other _ (Ne.symm h2), updB_other _ (Ne.symm h3), updV_other _ _ (Ne.symm h2)]; exact h.post
  · rw [updB_other _ (Ne.symm h3), updV_other _ _ (Ne.symm h2)]; exact h.st
theorem ApI.build (h : ApI B0 T W v0 l x ib ia it cell rdP val L vs X) (h2 : ib ≠ ia) (h3 : ib ≠ it) (h4 : L ia = false) (h5 : L it = false) (h6 : rdP ib = false) {cs : Array Value} (hcs : cs = (E.enc x).toArray) :
    ApI B0 T W v0 l x ib ia it cell rdP val (updB L ib) (updV vs ib (.slice (some ⟨X.heap.size, 0, none⟩) 1 1)) (X.alloc (.cells cs T)) := by
  have hb := h.pre h4 h5
  refine ⟨fun _ _ => hb.alloc hb.size _, fun _ _ _ => ?_, fun h => ?_, rd_step h.rd (fun h => (by rw [h6] at h; cases h)), fun h => ?_⟩
  · rw [updV_self]
    exact (own_lit (e := T) [x] (by simp) (by rw [heap_alloc_new X _, hcs]; simp)).mono hb.size
  · rw [updB_other _ (Ne.symm h2), h4] at h; cases h
  · rw [updB_other _ (Ne.symm h3), h5] at h; cases h
theorem ApI.append_ (h : ApI B0 T W v0 l x ib ia it cell rdP val L vs X) (h2 : ia ≠ ib) (h3 : ia ≠ it) (h4 : L ia = false) (h5 : L it = false) (h6 : rdP ia = false) {v' : Value} {X' : World} (hv0 : Own B0 T W v0 l) (hB : B0 ≤ W.heap.size) (ho : Own B0 T X' v' (l ++ [x])) (hg : X.grownBy X' v0.ownBlock) :
    ApI B0 T W v0 l x ib ia it cell rdP val (updB L ia) (updV vs ia v') X' := by
  have hb := h.pre h4 h5
  have hb2 : Below B0 X X' := ((hv0.below hb).grown hg).resolve_right (by have := hb.size; omega)
  refine ⟨fun h => (by rw [updB_self] at h; cases h), fun _ h => (by rw [updB_self] at h; cases h), fun _ _ => ⟨(hb.mono hB).trans hb2, by rw [updV_self]; exact ho⟩, rd_step h.rd (fun h => (by rw [h6] at h; cases h)), fun h => ?_⟩
  rw [updB_other _ (Ne.symm h3), h5] at h; cases h
theorem ApI.store (h : ApI B0 T W v0 l x ib ia it cell rdP val L vs X) (h3 : it ≠ ia) (h4 : L ia = true) (h5 : L it = false) (h6 : rdP it = false) : ApI B0 T W v0 l x ib ia it cell rdP val (updB L it) (updV vs it undef) (X.setCell cell (vs ia)) := by
  obtain ⟨hb, ho⟩ := h.post h4 h5
  refine ⟨fun _ h => (by rw [updB_self] at h; cases h), fun _ _ h => (by rw [updB_self] at h; cases h), fun _ h => (by rw [updB_self] at h; cases h), rd_step h.rd (fun h => (by rw [h6] at h; cases h)), fun _ => ?_⟩
  rw [updV_other _ _ (Ne.symm h3)]
  exact ⟨X, hb, ho, rfl⟩
end
end Go.Proofs.YtajdgdelhlfniaaGreatDoor
namespace Go.Proofs.YtajdgdelhlfniaaGreatDoor
open Go.RowKit

def own49 (k : Nat) : Bool := k == 0 || k == 3 || k == 5 || k == 6
def con49 (k : Nat) : Nat := if k = 0 then 3 else if k = 3 then 6 else if k = 5 then 6 else 8
def xs49 (l : List NoteR) (x : NoteR) (k : Nat) : List NoteR := if k = 0 then [] else if k = 3 then l else if k = 5 then [x] else l ++ [x]
def rd49 (k : Nat) : Bool := k == 1 || k == 2 || k == 4 || k == 7
structure WiI (W : World) (a : Nat) (l : List NoteR) (x : NoteR) (val : Nat → Value) (L : Nat → Bool) (vs : Nat → Value) (X : World) : Prop where
  go : L 8 = false → GO W.heap.size 69 W (lv own49 con49 L) (xs49 l x) vs X
  rd : ∀ k, rd49 k = true → L k = true → vs k = val k
  st : L 8 = true → ∃ X0, Below W.heap.size W X0 ∧ Own W.heap.size 69 X0 (vs 6) (l ++ [x]) ∧ X = X0.setCell ⟨a, 2, none⟩ (vs 6)
/-- a sheet of few enough notes for memory -/
def Small (s : ShR) : Prop := s.notes.length * 40 ≤ 140737488351232

set_option maxRecDepth 100000 in
set_option maxHeartbeats 1000000 in
theorem lwith_any {B : Nat} {w : World} {v : Value} {s : ShR} (x : NoteR) (hs : RdSh B w v s) (hsm : Small s) (hB : B ≤ w.heap.size) :
    Calls Tryz.prog 49 #[v, noteV x] w fun e w' => ∃ v', e = .returned v' ∧ RdSh w'.heap.size w' v' (withS s x) ∧ Below w.heap.size w w' := by
  obtain ⟨vp, vn, rfl, hp, hno⟩ := hs
  obtain ⟨A, c, rfl, _⟩ := id hno
  obtain ⟨Ap, cp, rfl, _⟩ := id hp
  obtain ⟨W1, hW1, r1, z1, b1⟩ := box_any w #[.int .i64 s.iv, .slice Ap s.pts.length cp, .slice A s.notes.length c] 25
  obtain ⟨W2, hW2, r2, z2, b2⟩ := box_any W1 #[.int .i64 x.kind, .int .i64 x.a, .int .i64 x.b, .int .i64 x.lo, .int .i64 x.hi] 69
  obtain ⟨W3, hW3, r3, z3, b3⟩ := box_any W2 #[.int .i64 0, .slice none 0 0, .slice none 0 0] 25
  have b12 := b1.trans (b2.mono b1.size)
  have b123 := b12.trans (b3.mono b12.size)
  have q1 := (b3.block _ (by omega)).trans ((b2.block _ (by omega)).trans r1)
  have q2 := (b3.block _ (by omega)).trans r2
  rw [z1] at q2
  rw [z2, z1] at r3
  have C2 := Lib.hid (cellOf q1 2 (v := .slice A s.notes.length c) rfl)
  have D0 := Lib.hid (cellOf q2 0 (v := .int .i64 x.kind) rfl)
  have D1 := Lib.hid (cellOf q2 1 (v := .int .i64 x.a) rfl)
  have D2 := Lib.hid (cellOf q2 2 (v := .int .i64 x.b) rfl)
  have D3 := Lib.hid (cellOf q2 3 (v := .int .i64 x.lo) rfl)
  have D4 := Lib.hid (cellOf q2 4 (v := .int .i64 x.hi) rfl)
  have R1 := Lib.hid q1
  have R3 := Lib.hid (show W3.heap[w.heap.size + 2]? = some (.cells #[.int .i64 0, .slice none 0 0, .slice none 0 0] 25) from r3)
  have HB := Lib.hid b123
  have HSm := Lib.hid hsm
  have HP := Lib.hid (fun (X : World) (h : Below W3.heap.size W3 X) => hp.below ((b123.trans (h.mono b123.size)).mono hB))
  have HR := Lib.hid (fun (X : World) (h : Below W3.heap.size W3 X) => hno.below ((b123.trans (h.mono b123.size)).mono hB))
  have HZ := Lib.hid (show W3.heap.size = w.heap.size + 3 by omega)
  unfold Small at HSm
  clear r1 r2 r3 z1 z2 z3 b1 b2 b3 b12 b123 q1 q2 hp hno hsm
  unfold noteV
  go_enter Tryz.func49, Tryz.ntmps49
  go_upto_region 1 with (fail)
  rw [← hW1, ← hW2, ← hW3]
  clear hW1 hW2 hW3
  refine wp_region_ghost (WiI W3 w.heap.size s.notes x (fun k => if k = 1 ∨ k = 7 then .pointer (some ⟨w.heap.size, 2, none⟩) else if k = 2 then .slice A s.notes.length c else noteV x)) (by kernel_rfl) (by kernel_rfl) ?_ ?_ ?_
  · exact ⟨fun _ => ⟨(Below.refl _ _).drew, Nat.le_refl _, fun k h => (by cases h.2.1), fun j k h => (by cases h.2.1)⟩, fun _ _ h => (by cases h), fun h => (by cases h)⟩
  · refine ⟨?_, ?_, ?_, ?_, ?_, ?_, ?_, ?_, ?_, trivial⟩
    all_goals
      intro L vs X b hL hw hcl hI hf
    · have n8 : L 8 = false := not_yet hcl 8 hL rfl (by kernel_rfl)
      have hG := hI.go n8
      have hb := hG.bel
      refine wp_of_run (run_exec_bs 23 0 #[] rfl (vs := #[]) rfl (run_bsN0 X)) ?_
      exact ⟨fun _ => hG.lit (i := 0) (n := 0) rfl (by omega) rfl, rd_step hI.rd (fun h => by cases h), fun h => absurd (n8.symm.trans h) (by simp)⟩
    · have n8 : L 8 = false := not_yet hcl 8 hL rfl (by kernel_rfl)
      have hG := hI.go n8
      have hb := hG.bel
      have e2 := hf.old 2 (by kernel_rfl)
      refine wp_of_run (v := .pointer (some ⟨w.heap.size, 2, none⟩)) (w' := X) (by unfold execOp; go_simp) ?_
      exact ⟨fun _ => hG.skip rfl _, rd_step hI.rd (fun _ => rfl), fun h => absurd (n8.symm.trans h) (by simp)⟩
    · have n8 : L 8 = false := not_yet hcl 8 hL rfl (by kernel_rfl)
      have hG := hI.go n8
      have hb := hG.bel
      have h1 : L 1 = true := done_of hw 1 (by kernel_rfl)
      have e6 : b.tmps[6]?.getD undef = .pointer (some ⟨w.heap.size, 2, none⟩) := (hf.new 1 6 rfl h1 (by simp)).trans (hI.rd 1 rfl h1)
      have a0 := (hb.cell (cell_lt C2.out)).trans C2.out
      refine wp_of_run (v := .slice A s.notes.length c) (w' := X) (by unfold execOp; go_simp) ?_
      exact ⟨fun _ => hG.skip rfl _, rd_step hI.rd (fun _ => rfl), fun h => absurd (n8.symm.trans h) (by simp)⟩
    · have n8 : L 8 = false := not_yet hcl 8 hL rfl (by kernel_rfl)
      have hG := hI.go n8
      have hb := hG.bel
      have h0 : L 0 = true := done_of hw 0 (by kernel_rfl)
      have e5 : b.tmps[5]?.getD undef = vs 0 := hf.new 0 5 rfl h0 (by simp)
      have h2 : L 2 = true := done_of hw 2 (by kernel_rfl)
      have e7 : b.tmps[7]?.getD undef = .slice A s.notes.length c := (hf.new 2 7 rfl h2 (by simp)).trans (hI.rd 2 rfl h2)
      have n3 : lv own49 con49 L 0 := ⟨rfl, h0, hL⟩
      obtain ⟨v', X', hrun, ho, hg, hv⟩ := append_notes2 rfl (hG.own 0 n3) (HR.out X hb) (by show (0 + s.notes.length) * 40 ≤ _; have := HSm.out; omega) hG.le
      refine wp_of_run (run_exec_append (.tmp 5) (.tmp 7) 23 rfl (eval_tmp e5) (eval_tmp e7) hrun) ?_
      exact ⟨fun _ => hG.app n3 rfl ho hg hv, rd_step hI.rd (fun h => by cases h), fun h => absurd (n8.symm.trans h) (by simp)⟩
    · have n8 : L 8 = false := not_yet hcl 8 hL rfl (by kernel_rfl)
      have hG := hI.go n8
      have hb := hG.bel
      have e3 := hf.old 3 (by kernel_rfl)
      have d0 := (hb.cell (cell_lt D0.out)).trans D0.out
      have d1 := (hb.cell (cell_lt D1.out)).trans D1.out
      have d2 := (hb.cell (cell_lt D2.out)).trans D2.out
      have d3 := (hb.cell (cell_lt D3.out)).trans D3.out
      have d4 := (hb.cell (cell_lt D4.out)).trans D4.out
      refine wp_of_run (v := noteV x) (w' := X) (by unfold execOp noteV; go_simp) ?_
      exact ⟨fun _ => hG.skip rfl _, rd_step hI.rd (fun _ => rfl), fun h => absurd (n8.symm.trans h) (by simp)⟩
    · have n8 : L 8 = false := not_yet hcl 8 hL rfl (by kernel_rfl)
      have hG := hI.go n8
      have hb := hG.bel
      have h4 : L 4 = true := done_of hw 4 (by kernel_rfl)
      have e9 : b.tmps[9]?.getD undef = noteV x := (hf.new 4 9 rfl h4 (by simp)).trans (hI.rd 4 rfl h4)
      refine wp_of_run (run_exec_bs 23 1 _ rfl (vs := #[(0, noteV x)]) (by simp [eval_tmp e9]) (run_bsN1 x X)) ?_
      exact ⟨fun _ => hG.lit (i := 5) (n := 1) rfl (by omega) rfl, rd_step hI.rd (fun h => by cases h), fun h => absurd (n8.symm.trans h) (by simp)⟩
    · have n8 : L 8 = false := not_yet hcl 8 hL rfl (by kernel_rfl)
      have hG := hI.go n8
      have hb := hG.bel
      have h3 : L 3 = true := done_of hw 3 (by kernel_rfl)
      have e8 : b.tmps[8]?.getD undef = vs 3 := hf.new 3 8 rfl h3 (by simp)
      have h5 : L 5 = true := done_of hw 5 (by kernel_rfl)
      have e10 : b.tmps[10]?.getD undef = vs 5 := hf.new 5 10 rfl h5 (by simp)
      have n3 : lv own49 con49 L 3 := ⟨rfl, h3, hL⟩
      have n5 : lv own49 con49 L 5 := ⟨rfl, h5, hL⟩
      have hr5 := (hG.own 5 n5).rd
      obtain ⟨A5, c5, e5, _, _⟩ := (hG.own 5 n5).form
      rw [e5] at hr5 e10
      obtain ⟨v', X', hrun, ho, hg, hv⟩ := append_notes2 rfl (hG.own 3 n3) hr5 (by show (s.notes.length + 1) * 40 ≤ _; have := HSm.out; omega) hG.le
      refine wp_of_run (run_exec_append (.tmp 8) (.tmp 10) 23 rfl (eval_tmp e8) (eval_tmp e10) hrun) ?_
      exact ⟨fun _ => hG.app n3 rfl ho hg hv, rd_step hI.rd (fun h => by cases h), fun h => absurd (n8.symm.trans h) (by simp)⟩
    · have n8 : L 8 = false := not_yet hcl 8 hL rfl (by kernel_rfl)
      have hG := hI.go n8
      have hb := hG.bel
      have e2 := hf.old 2 (by kernel_rfl)
      refine wp_of_run (v := .pointer (some ⟨w.heap.size, 2, none⟩)) (w' := X) (by unfold execOp; go_simp) ?_
      exact ⟨fun _ => hG.skip rfl _, rd_step hI.rd (fun _ => rfl), fun h => absurd (n8.symm.trans h) (by simp)⟩
    · have h6 : L 6 = true := done_of hw 6 (by kernel_rfl)
      have e11 : b.tmps[11]?.getD undef = vs 6 := hf.new 6 11 rfl h6 (by simp)
      have h7 : L 7 = true := done_of hw 7 (by kernel_rfl)
      have e12 : b.tmps[12]?.getD undef = .pointer (some ⟨w.heap.size, 2, none⟩) := (hf.new 7 12 rfl h7 (by simp)).trans (hI.rd 7 rfl h7)
      have hG := hI.go hL
      have hb := hG.bel
      have n6 : lv own49 con49 L 6 := ⟨rfl, h6, hL⟩
      have ho := hG.own 6 n6
      have rx := (hb.block _ (lt_of_block R1.out)).trans R1.out
      have q0 := cellOf rx 2 rfl
      have fx : X.frozen? ⟨w.heap.size, 2, none⟩ = false := by simp [World.frozen?, rx]
      obtain ⟨A6, c6, q6, _, _⟩ := ho.form
      rw [q6] at e11
      refine wp_of_skip (w' := X.setCell ⟨w.heap.size, 2, none⟩ (.slice A6 (xs49 s.notes x 6).length c6)) (by unfold execOp; go_simp) ?_
      exact ⟨fun h => (by cases h), rd_step hI.rd (fun h => by cases h), fun _ => ⟨X, hb, ho, by rw [← q6]; rfl⟩⟩
  · intro vs X hI
    obtain ⟨X0, hb, ho, rfl⟩ := hI.st rfl
    obtain ⟨A6, c6, q6, _, _⟩ := ho.form
    have rx := (hb.block _ (lt_of_block R1.out)).trans R1.out
    have k1 : (X0.setCell ⟨w.heap.size, 2, none⟩ (vs 6)).heap[w.heap.size]? = some (.cells #[.int .i64 s.iv, .slice Ap s.pts.length cp, vs 6] 25) := (Joins.block_setCell rx _).trans rfl
    have k3 : (X0.setCell ⟨w.heap.size, 2, none⟩ (vs 6)).heap[w.heap.size + 2]? = some (.cells #[.int .i64 0, .slice none 0 0, .slice none 0 0] 25) := (Below.heap_setCell _ _ _ _ (by show w.heap.size + 2 ≠ w.heap.size; omega)).trans ((hb.block _ (lt_of_block R3.out)).trans R3.out)
    have hbY : Below w.heap.size w (X0.setCell ⟨w.heap.size, 2, none⟩ (vs 6)) := (HB.out.trans (hb.mono HB.out.size)).setCell (Nat.le_refl _) _
    have hoY := ho.other (p := ⟨w.heap.size, 2, none⟩) (by show w.heap.size < W3.heap.size; rw [HZ.out]; omega) (vs 6)
    have hpY : Rd StrAt 1 B (X0.setCell ⟨w.heap.size, 2, none⟩ (vs 6)) (.slice Ap s.pts.length cp) s.pts := (HP.out X0 hb).setCell hB _
    clear hI ho hb rx
    simp [fill, slotOf, Act.put]
    simp only [Exit.inBlock, Exit.then]
    rw [q6] at *
    clear q6
    generalize (s.notes ++ [x]).length = n6 at *
    generalize X0.setCell ⟨w.heap.size, 2, none⟩ (.slice A6 n6 c6) = Y at *
    generalize vs 0 = u0
    generalize vs 1 = u1
    generalize vs 2 = u2
    generalize vs 3 = u3
    generalize vs 4 = u4
    generalize vs 5 = u5
    generalize vs 7 = u7
    generalize vs 8 = u8
    have K1 := Lib.hid k1
    have K3 := Lib.hid k3
    have HY := Lib.hid hbY
    have HO := Lib.hid hoY
    have HPY := Lib.hid hpY
    have p0 := cellOf k1 0 rfl
    have p1 := cellOf k1 1 rfl
    have p2 := cellOf k1 2 rfl
    clear k1 k3 hbY hoY hpY
    go_wp2_with (refine wpList_store_row rfl 25 (.tmp 4) (.tmp 13) rfl (w.heap.size + 2) #[.int .i64 s.iv, .slice Ap s.pts.length cp, .slice A6 n6 c6] rfl rfl 25 _ K3.out (by kernel_rfl) rfl (by simp [Value.oneCell']) ?_)
    have k4 := setRow_heap Y (w.heap.size + 2) _ #[.int .i64 s.iv, .slice Ap s.pts.length cp, .slice A6 n6 c6] 25 (0, 0) K3.out
    have hfin : Below w.heap.size w (Y.setRow (w.heap.size + 2) #[.int .i64 s.iv, .slice Ap s.pts.length cp, .slice A6 n6 c6]) := HY.out.trans (setRow_below _ (by omega))
    refine bodyPost_ret (v := .agg #[.int .i64 s.iv, .slice Ap s.pts.length cp, .slice A6 n6 c6]) (results_cell_row rfl _ _ (w.heap.size + 2) 25 #[.int .i64 s.iv, .slice Ap s.pts.length cp, .slice A6 n6 c6] (0, 0) _ rfl k4 Tryz.underlying25 rfl (by kernel_rfl)) rfl ⟨_, rfl, ⟨_, _, rfl, ?_, ?_⟩, hfin⟩
    · exact (HPY.out.keep fun p hp => World.cell?_of_block (setRow_other _ _ _ _ (by omega))).mono (Nat.le_trans hB hfin.size)
    · refine (Own.keepD HO.out fun b cs f hb hh => (setRow_other _ _ _ _ (by rw [HZ.out] at hb; omega)).trans hh).rd
end Go.Proofs.YtajdgdelhlfniaaGreatDoor
namespace Go.Proofs.YtajdgdelhlfniaaGreatDoor
open Go.RowKit

def rd52 (k : Nat) : Bool := decide (k < 7) || k == 9
theorem someL_yes {s : ShR} {l : List Int} {b : Bool} {k : Nat} (h : (decide ((k : Int) ∈ l) == b) = true) : someL s l b (k + 1) = someL s l b k ++ [s.notes.getD k default] := by
  conv => lhs; unfold someL
  rw [if_pos (by simpa using h)]
theorem someL_no {s : ShR} {l : List Int} {b : Bool} {k : Nat} (h : (decide ((k : Int) ∈ l) == b) = false) : someL s l b (k + 1) = someL s l b k := by
  conv => lhs; unfold someL
  rw [if_neg (by simpa using h)]
set_option maxRecDepth 100000 in
set_option maxHeartbeats 1000000 in
theorem some_any {B Bl : Nat} {w : World} {v vl : Value} {s : ShR} {l : List Int} (bo : Bool) (hs : RdSh B w v s) (hl : Rd IntAt 1 Bl w vl l) (hB : B ≤ w.heap.size) (hBl : Bl ≤ w.heap.size) (hn : s.notes.length ≤ 1000) (hll : l.length ≤ 1000) :
    Calls Tryz.prog 52 #[v, vl, .bool bo] w fun e w' => ∃ v', e = .returned v' ∧ RdSh w'.heap.size w' v' (someS s l bo) ∧ Below w.heap.size w w' := by
  obtain ⟨vp, vn, rfl, hp, hno⟩ := hs
  obtain ⟨An, cn, rfl, _⟩ := id hno
  obtain ⟨Al, cl, rfl, _⟩ := id hl
  obtain ⟨Ap, cp, rfl, _⟩ := id hp
  obtain ⟨W1, hW1, r1, z1, b1⟩ := box_any w #[.int .i64 s.iv, .slice Ap s.pts.length cp, .slice An s.notes.length cn] 25
  obtain ⟨W2, hW2, r2, z2, b2⟩ := box_any W1 #[.int .i64 0, .slice none 0 0, .slice none 0 0] 25
  have b12 := b1.trans (b2.mono b1.size)
  have q1 := (b2.block _ (by omega)).trans r1
  rw [z1] at r2
  have R2 := Lib.hid r2
  have R1 := Lib.hid q1
  have HB2 := Lib.hid b12
  have HZ := Lib.hid (show W2.heap.size = w.heap.size + 2 by omega)
  have C0 := cellOf q1 0 rfl
  have C1 := cellOf q1 1 rfl
  have C2 := cellOf q1 2 rfl
  have HP := Lib.hid (fun (X : World) (h : Below w.heap.size w X) => hp.below (h.mono hB))
  have HN := Lib.hid (fun (X : World) (h : Below w.heap.size w X) => hno.below (h.mono hB))
  have HL := Lib.hid (fun (X : World) (h : Below w.heap.size w X) => hl.below (h.mono hBl))
  have HSn := Lib.hid hn
  clear r1 r2 z1 z2 b1 b2 b12 q1 hp hno hl hn
  go_enter Tryz.func52, Tryz.ntmps52
  go_upto_region 1 with (fail)
  rw [← hW1, ← hW2]
  clear hW1 hW2
  go_upto_region 2 with (refine wpList_store_row rfl 25 (.tmp 7) (.tmp 9) rfl W2.heap.size #[.int .i64 s.iv, .slice Ap s.pts.length cp, .slice An s.notes.length cn] rfl rfl 25 _ (heap_alloc_new _ _) (by kernel_rfl) rfl (by simp [Value.oneCell']) ?_)
  obtain ⟨X1, hX1⟩ : ∃ X1, X1 = (W2.alloc (.cells #[.int .i64 0, .slice none 0 0, .slice none 0 0] 25)).setRow W2.heap.size #[.int .i64 s.iv, .slice Ap s.pts.length cp, .slice An s.notes.length cn] := ⟨_, rfl⟩
  rw [← hX1]
  have y1 : Below W2.heap.size W2 X1 := by rw [hX1]; exact ((Below.refl _ _).alloc (Nat.le_refl _) _).trans (setRow_below _ (Nat.le_refl _))
  have r1 : X1.heap[W2.heap.size]? = some (.cells #[.int .i64 s.iv, .slice Ap s.pts.length cp, .slice An s.notes.length cn] 25) := by rw [hX1]; exact setRow_heap _ _ _ _ _ _ (heap_alloc_new _ _)
  clear hX1 C0 C1 C2
  have o2 := cellOf r1 2 (v := .slice An s.notes.length cn) rfl
  have f2 : X1.frozen? ⟨W2.heap.size, 2, none⟩ = false := by simp [World.frozen?, r1]
  have Y1 := Lib.hid y1
  have S1 := Lib.hid r1
  clear y1 r1
  go_upto_region 3 with (fail)
  obtain ⟨X2, hX2⟩ : ∃ X2, X2 = X1.setCell ⟨W2.heap.size, 2, none⟩ (.slice none 0 0) := ⟨_, rfl⟩
  rw [← hX2]
  have y2 : Below W2.heap.size X1 X2 := by rw [hX2]; exact Below.setCell (p := ⟨W2.heap.size, 2, none⟩) (Below.refl _ X1) (Nat.le_refl _) _
  have r2 : X2.heap[W2.heap.size]? = some (.cells #[.int .i64 s.iv, .slice Ap s.pts.length cp, .slice none 0 0] 25) := by rw [hX2]; exact (Joins.block_setCell S1.out _).trans rfl
  have Y2 := Lib.hid (Y1.out.trans y2)
  have S2 := Lib.hid r2
  clear hX2 o2 f2 y2 r2
  go_wp2
  go_loopw [8] (fun i wr => ∃ (k len : Nat) (A : Option Addr) (c : Nat), k ≤ s.notes.length ∧ i = .int .i64 k ∧ len = (someL s l bo k).length ∧ wr.heap[W2.heap.size]? = some (.cells #[.int .i64 s.iv, .slice Ap s.pts.length cp, .slice A len c] 25) ∧ Own X2.heap.size 69 wr (.slice A len c) (someL s l bo k) ∧ Below W2.heap.size X2 wr ∧ X2.heap.size ≤ wr.heap.size) (fun i _ => s.notes.length - (intOf i).toNat)
  case atStart => exact ⟨0, 0, none, 0, Nat.zero_le _, rfl, rfl, S2.out, Own.nil _ _ _, Below.refl _ _, Nat.le_refl _⟩
  case round =>
    obtain ⟨k, len, A, c, hk, rfl, hlen, hrow, hown, hbr, hsz⟩ := hrel
    have HLen := Lib.hid hlen
    have HRow := Lib.hid hrow
    have HOwn := Lib.hid hown
    have HBr := Lib.hid hbr
    have HBw := Lib.hid hsz
    have HWr := Lib.hid (HB2.out.trans ((Y2.out.trans hbr).mono (by rw [HZ.out]; omega)))
    have k1 := ((Y2.out.trans hbr).block _ (lt_of_block R1.out)).trans R1.out
    have qn := cellOf k1 2 rfl
    have QN := Lib.hid qn
    have QO := Lib.hid (cellOf hrow 2 rfl)
    have HLt := Lib.hid (lt_of_block S2.out)
    clear hlen hrow hown hbr hsz k1
    by_cases hlt : k < s.notes.length
    · obtain ⟨ad, rfl, _, hat⟩ := (HN.out wr HWr.out).note hlt
      have hgd : s.notes[k]?.getD default = s.notes.getD k default := by rw [List.getD_eq_getElem?_getD]
      rw [hgd] at hat
      clear hgd
      have HX := Lib.hid (someL_yes (s := s) (l := l) (b := bo) (k := k))
      have HXn := Lib.hid (someL_no (s := s) (l := l) (b := bo) (k := k))
      have HHas := Lib.hid (has_any (HL.out wr HWr.out) (by omega) (k : Int))
      generalize s.notes.getD k default = x at *
      obtain ⟨a0, a1, a2, a3, a4⟩ := hat
      have D0 := Lib.hid a0
      have D1 := Lib.hid a1
      have D2 := Lib.hid a2
      have D3 := Lib.hid a3
      have D4 := Lib.hid a4
      clear a0 a1 a2 a3 a4
      generalize hd : decide ((k : Int) ∈ l) = d at *
      clear hd
      have HLe := Lib.hid (show (someL s l bo k).length ≤ 1000 from Nat.le_trans (someL_len _ _ _ _) (by have := HSn.out; omega))
      cases hdb : (d == bo) with
      | true =>
        have HY := Lib.hid (HX.out hdb)
        clear HX HXn
        go_upto_region 7 with (go_at_call 48; refine HHas.out.mono ?_; rintro e wx ⟨rfl, hwx⟩; subst wx)
        refine wp_region_ghost (ApI X2.heap.size 69 wr (.slice A len c) (someL s l bo k) x 7 8 10 ⟨W2.heap.size, 2, none⟩ rd52 (fun k' => if k' = 0 ∨ k' = 9 then .pointer (some ⟨W2.heap.size, 2, none⟩) else if k' = 1 then .slice A len c else if k' = 2 then .pointer (some ⟨w.heap.size, 2, none⟩) else if k' = 3 then .slice (some ad) s.notes.length cn else if k' = 4 then .int .i64 k else if k' = 5 then .pointer (some (ad.add (k * 5))) else noteV x)) (by kernel_rfl) (by kernel_rfl) ApI.start ?_ ?_
        · refine ⟨?_, ?_, ?_, ?_, ?_, ?_, ?_, ?_, ?_, ?_, ?_, trivial⟩
          all_goals
            intro L vs X b hL hw hcl hI hf
          · have e7 := hf.old 7 (by kernel_rfl)
            refine wp_of_run (v := .pointer (some ⟨W2.heap.size, 2, none⟩)) (w' := X) (by unfold execOp; go_simp) ?_
            exact hI.read (i := 0) (by decide) (by decide) (by decide)
          · have n8 : L 8 = false := not_yet hcl 8 hL rfl (by kernel_rfl)
            have n10 : L 10 = false := not_yet hcl 10 hL rfl (by kernel_rfl)
            have hb := hI.pre n8 n10
            have h0 : L 0 = true := done_of hw 0 (by kernel_rfl)
            have e23 : b.tmps[23]?.getD undef = .pointer (some ⟨W2.heap.size, 2, none⟩) := (hf.new 0 23 rfl h0 (by simp)).trans (hI.rd 0 rfl h0)
            have qQO := (hb.cell (cell_lt QO.out)).trans QO.out
            refine wp_of_run (v := .slice A len c) (w' := X) (by unfold execOp; go_simp) ?_
            exact hI.read (i := 1) (by decide) (by decide) (by decide)
          · have e3 := hf.old 3 (by kernel_rfl)
            refine wp_of_run (v := .pointer (some ⟨w.heap.size, 2, none⟩)) (w' := X) (by unfold execOp; go_simp) ?_
            exact hI.read (i := 2) (by decide) (by decide) (by decide)
          · have n5 : L 5 = false := not_yet hcl 5 hL rfl (by kernel_rfl)
            have n6 : L 6 = false := not_yet hcl 6 n5 rfl (by kernel_rfl)
            have n7 : L 7 = false := not_yet hcl 7 n6 rfl (by kernel_rfl)
            have n8 : L 8 = false := not_yet hcl 8 n7 rfl (by kernel_rfl)
            have n10 : L 10 = false := not_yet hcl 10 hL rfl (by kernel_rfl)
            have hb := hI.pre n8 n10
            have h2 : L 2 = true := done_of hw 2 (by kernel_rfl)
            have e25 : b.tmps[25]?.getD undef = .pointer (some ⟨w.heap.size, 2, none⟩) := (hf.new 2 25 rfl h2 (by simp)).trans (hI.rd 2 rfl h2)
            have qQN := (hb.cell (cell_lt QN.out)).trans QN.out
            refine wp_of_run (v := .slice (some ad) s.notes.length cn) (w' := X) (by unfold execOp; go_simp) ?_
            exact hI.read (i := 3) (by decide) (by decide) (by decide)
          · have e8 := hf.old 8 (by kernel_rfl)
            refine wp_of_run (v := .int .i64 k) (w' := X) (by unfold execOp; go_simp) ?_
            exact hI.read (i := 4) (by decide) (by decide) (by decide)
          · have h3 : L 3 = true := done_of hw 3 (by kernel_rfl)
            have e26 : b.tmps[26]?.getD undef = .slice (some ad) s.notes.length cn := (hf.new 3 26 rfl h3 (by simp)).trans (hI.rd 3 rfl h3)
            have h4 : L 4 = true := done_of hw 4 (by kernel_rfl)
            have e27 : b.tmps[27]?.getD undef = .int .i64 k := (hf.new 4 27 rfl h4 (by simp)).trans (hI.rd 4 rfl h4)
            refine wp_of_run (v := .pointer (some (ad.add (k * 5)))) (w' := X) (by unfold execOp; go_simp) ?_
            exact hI.read (i := 5) (by decide) (by decide) (by decide)
          · have n7 : L 7 = false := not_yet hcl 7 hL rfl (by kernel_rfl)
            have n8 : L 8 = false := not_yet hcl 8 n7 rfl (by kernel_rfl)
            have n10 : L 10 = false := not_yet hcl 10 hL rfl (by kernel_rfl)
            have hb := hI.pre n8 n10
            have h5 : L 5 = true := done_of hw 5 (by kernel_rfl)
            have e28 : b.tmps[28]?.getD undef = .pointer (some (ad.add (k * 5))) := (hf.new 5 28 rfl h5 (by simp)).trans (hI.rd 5 rfl h5)
            have qD0 := (hb.cell (cell_lt D0.out)).trans D0.out
            have qD1 := (hb.cell (cell_lt D1.out)).trans D1.out
            have qD2 := (hb.cell (cell_lt D2.out)).trans D2.out
            have qD3 := (hb.cell (cell_lt D3.out)).trans D3.out
            have qD4 := (hb.cell (cell_lt D4.out)).trans D4.out
            refine wp_of_run (v := noteV x) (w' := X) (by unfold execOp noteV; go_simp) ?_
            exact hI.read (i := 6) (by decide) (by decide) (by decide)
          · have n8 : L 8 = false := not_yet hcl 8 hL rfl (by kernel_rfl)
            have n10 : L 10 = false := not_yet hcl 10 hL rfl (by kernel_rfl)
            have hb := hI.pre n8 n10
            have h6 : L 6 = true := done_of hw 6 (by kernel_rfl)
            have e29 : b.tmps[29]?.getD undef = noteV x := (hf.new 6 29 rfl h6 (by simp)).trans (hI.rd 6 rfl h6)
            refine wp_of_run (run_exec_bs 23 1 _ rfl (vs := #[(0, noteV x)]) (by simp [eval_tmp e29]) (run_bsN1 x X)) ?_
            exact hI.build (by decide) (by decide) n8 n10 rfl rfl
          · have n10 : L 10 = false := not_yet hcl 10 hL rfl (by kernel_rfl)
            have hb := hI.pre hL n10
            have h1 : L 1 = true := done_of hw 1 (by kernel_rfl)
            have e24 : b.tmps[24]?.getD undef = .slice A len c := (hf.new 1 24 rfl h1 (by simp)).trans (hI.rd 1 rfl h1)
            have h7 : L 7 = true := done_of hw 7 (by kernel_rfl)
            have e30 : b.tmps[30]?.getD undef = vs 7 := hf.new 7 30 rfl h7 (by simp)
            have hlit := hI.lit h7 hL n10
            have hr7 := hlit.rd
            obtain ⟨A7, c7, e7, _, _⟩ := hlit.form
            rw [e7] at hr7 e30
            obtain ⟨v', X', hrun, ho, hg, hv⟩ := append_notes2 rfl (HOwn.out.below hb) hr7 (by have := HLe.out; show (_ + 1) * 40 ≤ _; omega) (Nat.le_trans HBw.out hb.size)
            refine wp_of_run (run_exec_append (.tmp 24) (.tmp 30) 23 rfl (eval_tmp e24) (eval_tmp e30) hrun) ?_
            exact hI.append_ (by decide) (by decide) hL n10 rfl HOwn.out HBw.out ho hg
          · have e7 := hf.old 7 (by kernel_rfl)
            refine wp_of_run (v := .pointer (some ⟨W2.heap.size, 2, none⟩)) (w' := X) (by unfold execOp; go_simp) ?_
            exact hI.read (i := 9) (by decide) (by decide) (by decide)
          · have h8 : L 8 = true := done_of hw 8 (by kernel_rfl)
            have e31 : b.tmps[31]?.getD undef = vs 8 := hf.new 8 31 rfl h8 (by simp)
            have h9 : L 9 = true := done_of hw 9 (by kernel_rfl)
            have e32 : b.tmps[32]?.getD undef = .pointer (some ⟨W2.heap.size, 2, none⟩) := (hf.new 9 32 rfl h9 (by simp)).trans (hI.rd 9 rfl h9)
            have rx := ((hI.post h8 hL).1.block _ HLt.out).trans HRow.out
            have q0 := cellOf rx 2 rfl
            have fx : X.frozen? ⟨W2.heap.size, 2, none⟩ = false := by simp [World.frozen?, rx]
            obtain ⟨A8, c8, q8, _, _⟩ := (hI.post h8 hL).2.form
            rw [q8] at e31
            refine wp_of_skip (w' := X.setCell ⟨W2.heap.size, 2, none⟩ (.slice A8 (someL s l bo k ++ [x]).length c8)) (by unfold execOp; go_simp) ?_
            rw [← q8]
            exact hI.store (by decide) h8 hL rfl
        · intro vs X hI
          obtain ⟨X0, hb, ho, rfl⟩ := hI.st rfl
          have hrx := (hb.block _ HLt.out).trans HRow.out
          have hrow2 : (X0.setCell ⟨W2.heap.size, 2, none⟩ (vs 8)).heap[W2.heap.size]? = some (.cells #[.int .i64 s.iv, .slice Ap s.pts.length cp, vs 8] 25) := (Joins.block_setCell hrx _).trans rfl
          obtain ⟨A', c', e8, _, _⟩ := ho.form
          have hown2 : Own X2.heap.size 69 (X0.setCell ⟨W2.heap.size, 2, none⟩ (vs 8)) (vs 8) (someL s l bo (k + 1)) := by
            rw [HY.out]
            exact ho.other (p := ⟨W2.heap.size, 2, none⟩) HLt.out _
          have hsz2 : X2.heap.size ≤ (X0.setCell ⟨W2.heap.size, 2, none⟩ (vs 8)).heap.size := Nat.le_trans HBw.out (by simpa [World.setCell] using hb.size)
          have hbb : Below W2.heap.size X2 (X0.setCell ⟨W2.heap.size, 2, none⟩ (vs 8)) := (HBr.out.trans (hb.mono (Nat.le_of_lt HLt.out))).setCell (Nat.le_refl _) _
          rw [← HY.out] at e8
          rw [e8] at hrow2 hown2 hsz2 hbb
          clear hI ho hb hrx
          simp [fill, slotOf, Act.put]
          simp only [Exit.inBlock, Exit.then]
          rw [e8]
          clear e8
          generalize hl2 : (someL s l bo (k + 1)).length = len2 at *
          generalize (X0.setCell ⟨W2.heap.size, 2, none⟩ (.slice A' len2 c')) = Y at *
          have HL2 := Lib.hid hl2
          have HRow2 := Lib.hid hrow2
          have HOwn2 := Lib.hid hown2
          have HBb := Lib.hid hbb
          have HSz2 := Lib.hid hsz2
          clear hl2 hrow2 hown2 hbb hsz2 qn
          generalize vs 0 = u0
          generalize vs 1 = u1
          generalize vs 2 = u2
          generalize vs 3 = u3
          generalize vs 4 = u4
          generalize vs 5 = u5
          generalize vs 6 = u6
          generalize vs 7 = u7
          generalize vs 9 = u9
          generalize vs 10 = u10
          go_wp2
          go_roundw
          case rel => exact ⟨k + 1, len2, A', c', by omega, by go_num, HL2.out.symm, HRow2.out, HOwn2.out, HBb.out, HSz2.out⟩
          case measure => simp [intOf]; omega
      | false =>
        have HY := Lib.hid (HXn.out hdb)
        clear HX HXn
        go_wp2_with (go_at_call 48; refine HHas.out.mono ?_; rintro e wx ⟨rfl, hwx⟩; subst wx)
        go_roundw
        case rel => exact ⟨k + 1, len, A, c, by omega, by go_num, by rw [HY.out]; exact HLen.out, HRow.out, by rw [HY.out]; exact HOwn.out, HBr.out, HBw.out⟩
        case measure => simp [intOf]; omega
    · have hkn : k = s.notes.length := by omega
      subst hkn
      have hrow := HRow.out
      have p0 := cellOf hrow 0 rfl
      have p1 := cellOf hrow 1 rfl
      have p2 := cellOf hrow 2 rfl
      clear hrow
      have K6 := Lib.hid (((Y2.out.trans HBr.out).block _ (lt_of_block R2.out)).trans R2.out)
      go_wp2_with (refine wpList_store_row rfl 25 (.tmp 6) (.tmp 33) rfl (w.heap.size + 1) #[.int .i64 s.iv, .slice Ap s.pts.length cp, .slice A len c] rfl rfl 25 _ K6.out (by kernel_rfl) rfl (by simp [Value.oneCell']) ?_)
      have k4 := setRow_heap wr (w.heap.size + 1) _ #[.int .i64 s.iv, .slice Ap s.pts.length cp, .slice A len c] 25 (0, 0) K6.out
      have hfin : Below w.heap.size w (wr.setRow (w.heap.size + 1) #[.int .i64 s.iv, .slice Ap s.pts.length cp, .slice A len c]) := HWr.out.trans (setRow_below _ (by omega))
      have hlt1 : w.heap.size + 1 < X2.heap.size := Nat.lt_trans (by rw [HZ.out]; omega) HLt.out
      refine bodyPost_ret (v := .agg #[.int .i64 s.iv, .slice Ap s.pts.length cp, .slice A len c]) (results_cell_row rfl _ _ (w.heap.size + 1) 25 #[.int .i64 s.iv, .slice Ap s.pts.length cp, .slice A len c] (0, 0) _ rfl k4 Tryz.underlying25 rfl (by kernel_rfl)) rfl ⟨_, rfl, ⟨_, _, rfl, ?_, ?_⟩, hfin⟩
      · exact (HP.out _ hfin).mono (Nat.le_trans hB hfin.size)
      · exact (Own.keepD HOwn.out fun b cs f hb hh => (setRow_other _ _ _ _ (by omega)).trans hh).rd
end Go.Proofs.YtajdgdelhlfniaaGreatDoor
