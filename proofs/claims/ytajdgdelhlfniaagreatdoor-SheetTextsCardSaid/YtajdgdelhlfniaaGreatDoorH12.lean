/- One element more behind a slice of the call's own. Walks of the layer sheet: the search of lists of notes, each step but the one that goes on. -/
import Derived.Test.YtajdgdelhlfniaaGreatDoorH3
import Derived.Maps.AppendAt
import Derived.OwnWalk
import Derived.OwnWalkIn
import Derived.Test.YtajdgdelhlfniaaGreatDoorH11
import Derived.Laws.EntriesVeiled
import Derived.WalkKit
import Derived.Deep.Quiet
set_option linter.unusedSimpArgs false
set_option linter.unusedVariables false
namespace Go.Proofs.YtajdgdelhlfniaaGreatDoor
open Go.RowKit

section
variable {α : Type} {At : World → Addr → α → Prop} {sz : Nat} [E : Enc α At sz]
theorem Own.form {base : Nat} {e : TypeId} {w : World} {v : Value} {xs : List α} (h : Own base e w v xs) : ∃ A c, v = .slice A xs.length c ∧ xs.length ≤ c ∧ c ≤ 9223372036854775807 := by
  rcases id h with ⟨hl, ⟨rfl, h0⟩ | ⟨g, cap, cur, rfl, hb, hh, hn, hc, hsz, hx⟩⟩
  · exact ⟨none, 0, by rw [h0], by omega, by omega⟩
  · exact ⟨_, cap, rfl, hn, hc⟩
theorem Own.grown {base : Nat} {e : TypeId} {w : World} {v : Value} {xs : List α} (h : Own base e w v xs) {W w' : World} (hg : W.grownBy w' v.ownBlock) : Below base W w' ∨ base > W.heap.size := by
  by_cases hb : base ≤ W.heap.size
  · refine .inl ⟨hg.os, hg.tape, hg.output, hg.size, fun k hk => hg.block k (by omega) fun e2 => ?_⟩
    rcases h with ⟨_, ⟨rfl, _⟩ | ⟨g, cap, cur, rfl, hbb, _⟩⟩
    · cases e2
    · simp only [Value.ownBlock, Option.some.injEq] at e2
      omega
  · exact .inr (by omega)

theorem append_full {P : Program} {base : Nat} {t ty e : TypeId} {bytes : Nat} (ht : P.underlying t = some (.slice e)) (hinfo : (P.info? e).map (fun i => (i.size, i.bytes, i.zero.map (·.cells.size))) = some (sz, bytes, some sz)) (hsz : 0 < sz) (hb1 : bytes ≤ 1000) (h1 : ∀ x, ∀ u ∈ E.enc x, u.oneCell' = true)
    {w : World} {v : Value} {xs : List α} (h : Own base e w v xs) (x : α) (hn : xs.length ≤ 100000) (hbase : base ≤ w.heap.size) {cs : Array Value} (hcs : cs = (E.enc x).toArray) :
    ∃ A c w', (Builtin.append_ #[t, t] ty #[v, .slice (some ⟨w.heap.size, 0, none⟩) 1 1]).run P (w.alloc (.cells cs e)) = .ok (.slice A (xs.length + 1) c) w' ∧ Own base e w' (.slice A (xs.length + 1) c) (xs ++ [x]) ∧
      Below base w w' ∧ base ≤ w'.heap.size ∧ xs.length + 1 ≤ c ∧ c ≤ 9223372036854775807 ∧ w.heap.size < w'.heap.size ∧
      (∀ (b : Nat) (o : Obj), w.heap[b]? = some o → (∀ c f, o ≠ .cells c e f) → w'.heap[b]? = some o) := by
  subst hcs
  obtain ⟨i, hi, hi2⟩ := Option.map_eq_some_iff.1 hinfo
  simp only [Prod.mk.injEq] at hi2
  obtain ⟨hsize, hby, hz0⟩ := hi2
  obtain ⟨z, hz, hzs⟩ := Option.map_eq_some_iff.1 hz0
  have hown : Own base e (w.alloc (.cells (E.enc x).toArray e)) v xs := h.alloc _
  have hl := E.len x
  have hlen : (xs.length + 1) * bytes ≤ 100001 * 1000 := Nat.mul_le_mul (by omega) hb1
  obtain ⟨v', w', hrun, h2, h3, _, _⟩ := run_append_own_at (P := P) (w.alloc (.cells (E.enc x).toArray e)) base t ty e i z sz bytes ht hi hz hsize hby hzs hsz v xs.length (xs.flatMap E.enc) hown
    ⟨w.heap.size, 0, none⟩ 1 1 (E.enc x) (by rw [hl]; omega)
    (fun j u hu => by
      have hadd : (⟨w.heap.size, 0, none⟩ : Addr).add j = ⟨w.heap.size, j, none⟩ := by unfold Addr.add; split <;> simp_all
      rw [hadd]
      exact (cell_of_row _ _ j _ _ _ (heap_alloc_new w _)).trans (by simpa using hu))
    (h1 x) (by unfold maxLen; omega) (by omega) (by simp; omega)
  have h4 : Own base e w' v' (xs ++ [x]) := Own.of_append (n := xs.length + 1) (by simp) (by simpa using h2)
  obtain ⟨A, c, rfl, hc1, hc2⟩ := h4.form
  rw [List.length_append, List.length_singleton] at hrun h4 hc1
  have hb2 := (hown.grown h3).resolve_right (by simp; omega)
  have hb : Below base w w' := ((Below.refl base w).alloc hbase _).trans hb2
  refine ⟨A, c, w', hrun, h4, hb, Nat.le_trans hbase hb.size, hc1, hc2, Nat.lt_of_lt_of_le (by simp) h3.size, fun b o hbo hne => ?_⟩
  have hbo' : (w.alloc (.cells (E.enc x).toArray e)).heap[b]? = some o := (Below.heap_alloc w _ b (lt_of_block hbo)).trans hbo
  refine (h3.block b (lt_of_block hbo') fun e2 => ?_).trans hbo'
  rcases hown with ⟨_, ⟨rfl, _⟩ | ⟨g, cap, cur, rfl, _, hg, _⟩⟩
  · cases e2
  · simp only [Value.ownBlock, Option.some.injEq] at e2
    subst e2
    rw [hbo'] at hg
    cases hg
    exact hne _ _ rfl
theorem append_one {P : Program} {base : Nat} {t ty e : TypeId} {bytes : Nat} (ht : P.underlying t = some (.slice e)) (hinfo : (P.info? e).map (fun i => (i.size, i.bytes, i.zero.map (·.cells.size))) = some (sz, bytes, some sz)) (hsz : 0 < sz) (hb1 : bytes ≤ 1000) (h1 : ∀ x, ∀ u ∈ E.enc x, u.oneCell' = true)
    {w : World} {v : Value} {xs : List α} (h : Own base e w v xs) (x : α) (hn : xs.length ≤ 100000) (hbase : base ≤ w.heap.size) {cs : Array Value} (hcs : cs = (E.enc x).toArray) :
    ∃ A c w', (Builtin.append_ #[t, t] ty #[v, .slice (some ⟨w.heap.size, 0, none⟩) 1 1]).run P (w.alloc (.cells cs e)) = .ok (.slice A (xs.length + 1) c) w' ∧ Own base e w' (.slice A (xs.length + 1) c) (xs ++ [x]) ∧
      Below base w w' ∧ base ≤ w'.heap.size ∧ xs.length + 1 ≤ c ∧ c ≤ 9223372036854775807 := by
  obtain ⟨A, c, w', h1, h2, h3, h4, h5, h6, _⟩ := append_full ht hinfo hsz hb1 h1 h x hn hbase hcs
  exact ⟨A, c, w', h1, h2, h3, h4, h5, h6⟩
end

theorem Own.other {α : Type} {At : World → Addr → α → Prop} {sz : Nat} [E : Enc α At sz] {base : Nat} {e : TypeId} {w : World} {v : Value} {xs : List α} (h : Own base e w v xs) {p : Addr} (hp : p.block < base) (u : Value) : Own base e (w.setCell p u) v xs := by
  rcases h with ⟨hl, h0 | ⟨g, cap, cur, rfl, hbb, hh, r⟩⟩
  · exact ⟨hl, .inl h0⟩
  · exact ⟨hl, .inr ⟨g, cap, cur, rfl, hbb, (Below.heap_setCell _ _ _ _ (by omega)).trans hh, r⟩⟩

/-- a number more -/
theorem append_int {base : Nat} {w : World} {v : Value} {xs : List Int} (h : Own base 3 w v xs) (x : Int) (hn : xs.length ≤ 100000) (hbase : base ≤ w.heap.size) :
    ∃ A c w', (Builtin.append_ #[43, 43] 43 #[v, .slice (some ⟨w.heap.size, 0, none⟩) 1 1]).run Tryz.prog (w.alloc (.cells #[.int .i64 x] 3)) = .ok (.slice A (xs.length + 1) c) w' ∧ Own base 3 w' (.slice A (xs.length + 1) c) (xs ++ [x]) ∧
      Below base w w' ∧ base ≤ w'.heap.size ∧ xs.length + 1 ≤ c ∧ c ≤ 9223372036854775807 :=
  append_one (bytes := 8) (by kernel_rfl) (by kernel_rfl) (by omega) (by omega) (by simp [Enc.enc]; intros; rfl) h x hn hbase rfl
/-- a string more -/
theorem append_str {base : Nat} {w : World} {v : Value} {xs : List ByteArray} (h : Own base 9 w v xs) (x : ByteArray) (hn : xs.length ≤ 100000) (hbase : base ≤ w.heap.size) :
    ∃ A c w', (Builtin.append_ #[22, 22] 22 #[v, .slice (some ⟨w.heap.size, 0, none⟩) 1 1]).run Tryz.prog (w.alloc (.cells #[.string x] 9)) = .ok (.slice A (xs.length + 1) c) w' ∧ Own base 9 w' (.slice A (xs.length + 1) c) (xs ++ [x]) ∧
      Below base w w' ∧ base ≤ w'.heap.size ∧ xs.length + 1 ≤ c ∧ c ≤ 9223372036854775807 :=
  append_one (bytes := 16) (by kernel_rfl) (by kernel_rfl) (by omega) (by omega) (by simp [Enc.enc]; intros; rfl) h x hn hbase rfl
/-- a span more -/
theorem append_span {base : Nat} {w : World} {v : Value} {xs : List (Int × Int)} (h : Own base 40 w v xs) (x : (Int × Int)) (hn : xs.length ≤ 100000) (hbase : base ≤ w.heap.size) :
    ∃ A c w', (Builtin.append_ #[35, 35] 35 #[v, .slice (some ⟨w.heap.size, 0, none⟩) 1 1]).run Tryz.prog (w.alloc (.cells #[.int .i64 x.1, .int .i64 x.2] 40)) = .ok (.slice A (xs.length + 1) c) w' ∧ Own base 40 w' (.slice A (xs.length + 1) c) (xs ++ [x]) ∧
      Below base w w' ∧ base ≤ w'.heap.size ∧ xs.length + 1 ≤ c ∧ c ≤ 9223372036854775807 :=
  append_one (bytes := 16) (by kernel_rfl) (by kernel_rfl) (by omega) (by omega) (by simp [Enc.enc]; intros; refine ⟨?_, ?_⟩ <;> rfl) h x hn hbase rfl
/-- a note more -/
theorem append_note {base : Nat} {w : World} {v : Value} {xs : List NoteR} (h : Own base 69 w v xs) (x : NoteR) (hn : xs.length ≤ 100000) (hbase : base ≤ w.heap.size) :
    ∃ A c w', (Builtin.append_ #[23, 23] 23 #[v, .slice (some ⟨w.heap.size, 0, none⟩) 1 1]).run Tryz.prog (w.alloc (.cells #[.int .i64 x.kind, .int .i64 x.a, .int .i64 x.b, .int .i64 x.lo, .int .i64 x.hi] 69)) = .ok (.slice A (xs.length + 1) c) w' ∧ Own base 69 w' (.slice A (xs.length + 1) c) (xs ++ [x]) ∧
      Below base w w' ∧ base ≤ w'.heap.size ∧ xs.length + 1 ≤ c ∧ c ≤ 9223372036854775807 :=
  append_one (bytes := 40) (by kernel_rfl) (by kernel_rfl) (by omega) (by omega) (by simp [Enc.enc]; intros; refine ⟨?_, ?_, ?_, ?_, ?_⟩ <;> rfl) h x hn hbase rfl
/-! ### more elements -/
theorem enc_ints (ys : List Int) : ys.flatMap (Enc.enc (α := Int)) = ys.map fun n => Value.int .i64 n := by
  induction ys with
  | nil => rfl
  | cons y ys ih => rw [List.flatMap_cons, ih]; rfl
theorem run_append_nil {P : Program} {w : World} {base : Nat} {t ty e : TypeId} {i : TypeInfo} {size : Nat} (ht : P.underlying t = some (.slice e)) (hi : P.info? e = some i)
    {v : Value} {n : Nat} {xs : List Value} (hown : w.ownsRow base e size v n xs) (c : Nat) : (Builtin.append_ #[t, t] ty #[v, .slice none 0 c]).run P w = .ok v w := by
  rcases hown.2 with ⟨rfl, rfl⟩ | ⟨g, cap, cur, rfl, _, _, hnc, _⟩
  · simp [Builtin.append_, run_underlying ht, sizeOf, typeInfo, hi, Builtin.lenOf, Builtin.firstCells]
  · simp [Builtin.append_, run_underlying ht, sizeOf, typeInfo, hi, Builtin.lenOf, Builtin.firstCells, hnc, storeCells]

set_option maxRecDepth 100000 in
/-- numbers more -/
theorem append_ints {base B : Nat} {w : World} {v : Value} {xs ys : List Int} {A : Option Addr} {c : Nat} (h : Own base 3 w v xs) (hr : Rd IntAt 1 B w (.slice A ys.length c) ys) (hn : xs.length + ys.length ≤ 100000) (hbase : base ≤ w.heap.size) :
    ∃ A' c' w', (Builtin.append_ #[43, 43] 43 #[v, .slice A ys.length c]).run Tryz.prog w = .ok (.slice A' (xs.length + ys.length) c') w' ∧ Own base 3 w' (.slice A' (xs.length + ys.length) c') (xs ++ ys) ∧ Below base w w' ∧ base ≤ w'.heap.size := by
  obtain ⟨i, hi, hi2⟩ := Option.map_eq_some_iff.1 (show (Tryz.prog.info? 3).map (fun i => (i.size, i.bytes, i.zero.map (·.cells.size))) = some (1, 8, some 1) by kernel_rfl)
  simp only [Prod.mk.injEq] at hi2
  obtain ⟨hsize, hby, hz0⟩ := hi2
  obtain ⟨z, hz, hzs⟩ := Option.map_eq_some_iff.1 hz0
  have ht : Tryz.prog.underlying 43 = some (.slice 3) := by kernel_rfl
  obtain ⟨A0, c0, e0, _, _, hcell⟩ := hr
  injection e0 with e1 e2 e3
  subst e1 e3
  cases A with
  | none =>
    have hy : ys = [] := by
      cases ys with
      | nil => rfl
      | cons y ys => obtain ⟨ad, e, _⟩ := hcell 0 y rfl; cases e
    subst hy
    have hrun := run_append_nil (ty := 43) ht hi h c
    obtain ⟨A, c1, rfl, _⟩ := h.form
    exact ⟨A, c1, w, hrun, by simpa using h, Below.refl _ _, hbase⟩
  | some ad =>
    obtain ⟨v', w', hrun, h2, h3, _, _⟩ := run_append_own_at (P := Tryz.prog) w base 43 43 3 i z 1 8 ht hi hz hsize hby hzs (by omega) v xs.length (xs.flatMap Enc.enc) h
      ad ys.length c (ys.flatMap Enc.enc) (by rw [flat_len])
      (fun j u hu => by
        rw [enc_ints, List.getElem?_map] at hu
        obtain ⟨y, hy, rfl⟩ := Option.map_eq_some_iff.1 hu
        obtain ⟨ad', e, _, ha⟩ := hcell j y hy
        injection e with e
        subst e
        simpa [IntAt] using ha)
      (fun u hu => by
        rw [enc_ints] at hu
        obtain ⟨n, _, rfl⟩ := List.mem_map.1 hu
        rfl) (by unfold maxLen; omega) (by omega) hbase
    have h4 : Own base 3 w' v' (xs ++ ys) := Own.of_append rfl h2
    obtain ⟨A, c1, rfl, hc1, hc2⟩ := h4.form
    rw [List.length_append] at hrun h4
    have hb2 := (h.grown h3).resolve_right (by omega)
    exact ⟨A, c1, w', hrun, h4, hb2, Nat.le_trans hbase hb2.size⟩

/-- a slice whose cells lie in a block from base on -/
def SlFrom (base : Nat) (v : Value) : Prop := ∀ ad n c, v = .slice (some ad) n c → base ≤ ad.block
theorem SlFrom.mono {b b' : Nat} {v : Value} (h : SlFrom b v) (hb : b' ≤ b) : SlFrom b' v := fun ad n c e => Nat.le_trans hb (h ad n c e)
theorem Own.from {α : Type} {At : World → Addr → α → Prop} {sz : Nat} [E : Enc α At sz] {base : Nat} {e : TypeId} {w : World} {v : Value} {xs : List α} (h : Own base e w v xs) : SlFrom base v := by
  intro ad n c hv
  rcases h with ⟨hl, ⟨rfl, h0⟩ | ⟨g, cap, cur, rfl, hbb, r⟩⟩
  · cases hv
  · injection hv with e1
    injection e1 with e1
    subst e1
    exact hbb

/-! ### an append whose run is known -/
theorem wp_append_run {P : Program} {o : Oper} {a : Act} {K : Act → World → Prop} {Q : Exit → Act → World → Prop} (s x : Operand) (t : TypeId)
    (ho : o.op = .call { callee := .builtin .append, args := #[s, x], argTypes := #[t, t] }) {u1 u2 v' : Value} {w w' : World} (h1 : a.eval s = u1) (h2 : a.eval x = u2)
    (hrun : (Builtin.append_ #[t, t] o.type #[u1, u2]).run P w = .ok v' w') (h : K (a.put o.dst v') w') : o.wp P a w K Q := by
  unfold Oper.wp execOp
  simp only [ho, resolve, invoke, builtin, Sem.run_bind, Sem.run_pure, Result.andThen_ok, List.map_toArray, List.map_cons, List.map_nil, h1, h2, hrun]
  exact h
theorem wpList_append_run {P : Program} {ops : Array Oper} {rest : List Oper} {o : Oper} {a : Act} {Q : Exit → Act → World → Prop} (hgd : o.guard = none) (s x : Operand) (t : TypeId)
    (ho : o.op = .call { callee := .builtin .append, args := #[s, x], argTypes := #[t, t] }) {u1 u2 v' : Value} {w w' : World} (h1 : a.eval s = u1) (h2 : a.eval x = u2)
    (hrun : (Builtin.append_ #[t, t] o.type #[u1, u2]).run P w = .ok v' w') (h : wpList P ops Q rest (a.put o.dst v') w') : wpList P ops Q (o :: rest) a w :=
  wpList_plain hgd fun _ hK => wp_append_run s x t ho h1 h2 hrun (hK _ _ h)
theorem step_append_run {P : Program} {ops : Array Oper} {o : Oper} {a : Act} {K : Act → World → Prop} {Q : Exit → Act → World → Prop} {E : Prop} (hgd : o.guard = none) (s x : Operand) (t : TypeId)
    (ho : o.op = .call { callee := .builtin .append, args := #[s, x], argTypes := #[t, t] }) {u1 u2 v' : Value} {w w' : World} (h1 : a.eval s = u1) (h2 : a.eval x = u2)
    (hrun : (Builtin.append_ #[t, t] o.type #[u1, u2]).run P w = .ok v' w') (h : K (a.put o.dst v') w') :
    if Region.wanted o (yielded ops a.tmps) = true then Oper.wp P o a w K Q else E := by
  have hw : Region.wanted o (yielded ops a.tmps) = true := by simp [Region.wanted, hgd]
  rw [if_pos hw]
  exact wp_append_run s x t ho h1 h2 hrun h
/-- the same in a round -/
theorem wpListIn_append_run {l n : Nat} {P : Program} {ops : Array Oper} {rest : List Oper} {o : Oper} {a : Act} {Q : Exit → Act → World → Prop} (hgd : o.guard = none) (s x : Operand) (t : TypeId)
    (ho : o.op = .call { callee := .builtin .append, args := #[s, x], argTypes := #[t, t] }) {u1 u2 v' : Value} {w w' : World} (h1 : a.eval s = u1) (h2 : a.eval x = u2)
    (hrun : (Builtin.append_ #[t, t] o.type #[u1, u2]).run P w = .ok v' w') (h : wpListIn (Fence.wide.inRound l) n P ops Q rest (a.put o.dst v') w') : wpListIn (Fence.wide.inRound l) n P ops Q (o :: rest) a w := by
  refine wpListIn_plain hgd fun K hK => ?_
  refine ⟨fun _ _ => trivial, ?_⟩
  rw [Oper.semAt_plain _ _ _ (fun c h => by rw [ho] at h; cases h)]
  unfold execOp
  simp only [ho, resolve, invoke, builtin, Sem.run_bind, Sem.run_pure, Result.andThen_ok, List.map_toArray, List.map_cons, List.map_nil, h1, h2, hrun]
  exact hK _ _ h
end Go.Proofs.YtajdgdelhlfniaaGreatDoor
namespace Go.Proofs.YtajdgdelhlfniaaGreatDoor
open Go.RowKit

/-- what the search does from a note on: whether a list was found, and the best one -/
def tryS (iv : Int) (notes : List NoteR) (left : Bool) : Nat → Mat → Bool → List Int → Bool × List Int → Bool × List Int
  | 0, _, bad, cur, st => if (st.1 && decide (st.2.length ≤ cur.length)) || (left && bad) then st else if bad || left then (true, cur) else st
  | r + 1, b, bad, cur, st =>
    if (st.1 && decide (st.2.length ≤ cur.length)) || (left && bad) then st else if bad then (true, cur)
    else if left then tryS iv notes left r (withM iv 0 b (notes.getD (notes.length - (r + 1)) default)).1 (!(withM iv 0 b (notes.getD (notes.length - (r + 1)) default)).2) cur (tryS iv notes left r b false (cur ++ [((notes.length - (r + 1) : Nat) : Int)]) st)
    else tryS iv notes left r b false cur (tryS iv notes left r (withM iv 0 b (notes.getD (notes.length - (r + 1)) default)).1 (!(withM iv 0 b (notes.getD (notes.length - (r + 1)) default)).2) (cur ++ [((notes.length - (r + 1) : Nat) : Int)]) st)

theorem Own.take {α : Type} {At : World → Addr → α → Prop} {sz : Nat} [E : Enc α At sz] {base : Nat} {e : TypeId} {w : World} {A : Option Addr} {n c : Nat} {xs : List α} (h : Own base e w (.slice A n c) xs) {k : Nat} (hk : k ≤ xs.length) : Own base e w (.slice A k c) (xs.take k) := by
  rcases h with ⟨hl, ⟨h1, h0⟩ | ⟨g, cap, cur, h1, hb, hh, hn, hc, hsz, hx⟩⟩
  · have : xs = [] := List.eq_nil_of_length_eq_zero h0
    subst this
    have hk0 : k = 0 := by simpa using hk
    subst hk0
    injection h1 with h1 h2 h3
    subst h1 h3
    exact Own.nil _ _ _
  · injection h1 with h1 h2 h3
    subst h1 h3
    have hfl : ((xs.take k).flatMap E.enc) = (xs.flatMap E.enc).take (k * sz) := by
      have h2 : xs.flatMap E.enc = (xs.take k).flatMap E.enc ++ (xs.drop k).flatMap E.enc := by rw [← List.flatMap_append, List.take_append_drop]
      have h3 : ((xs.take k).flatMap E.enc).length = k * sz := by rw [flat_len, List.length_take, Nat.min_eq_left hk]
      rw [h2, List.take_left' h3]
    have hlk : (xs.take k).length = k := by rw [List.length_take]; omega
    refine ⟨by rw [flat_len, hlk], .inr ⟨g, c, cur, by rw [hlk], hb, hh, by rw [hlk]; omega, hc, hsz, ?_⟩⟩
    rw [hlk, hfl, ← hx, List.take_take]
    congr 1
    have : k * sz ≤ xs.length * sz := Nat.mul_le_mul_right _ hk
    omega

/-- the cells of a search -/
structure TryI (a : Nat) (iv : Int) (vp vn : Value) (left : Bool) (cur : List Int) (st : Bool × List Int) (w : World) : Prop where
  c0 : w.heap[a]? = some (.cells #[.int .i64 iv, vp, vn] 104)
  c1 : w.heap[a + 1]? = some (.cells #[.bool left] 4)
  c3 : w.heap[a + 3]? = some (.cells #[.bool st.1] 4)
  c5 : w.heap[a + 5]? = some (.cells #[.func (.func 97) #[] #[.pointer (some ⟨a + 3, 0, none⟩), .pointer (some ⟨a + 4, 0, none⟩), .pointer (some ⟨a + 2, 0, none⟩), .pointer (some ⟨a + 1, 0, none⟩), .pointer (some ⟨a, 0, none⟩), .pointer (some ⟨a + 5, 0, none⟩)]] 139)
  lists : ∃ lv bv, w.heap[a + 4]? = some (.cells #[lv] 43) ∧ w.heap[a + 2]? = some (.cells #[bv] 43) ∧ Own (a + 6) 3 w lv cur ∧ Own (a + 6) 3 w bv st.2 ∧ ∀ g, lv.ownBlock = some g → bv.ownBlock ≠ some g
/-- what a search leaves -/
structure TF (a : Nat) (w w' : World) : Prop where
  os : w'.os = w.os
  tape : w'.tape = w.tape
  output : w'.output = w.output
  size : w.heap.size ≤ w'.heap.size
  low : ∀ k, k < a + 6 → k ≠ a + 2 → k ≠ a + 3 → k ≠ a + 4 → w'.heap[k]? = w.heap[k]?
  hi : ∀ k o, a + 6 ≤ k → w.heap[k]? = some o → (∀ c f, o ≠ .cells c 3 f) → w'.heap[k]? = some o
theorem TF.refl (a : Nat) (w : World) : TF a w w := ⟨rfl, rfl, rfl, Nat.le_refl _, fun _ _ _ _ _ => rfl, fun _ _ _ h _ => h⟩
theorem TF.trans {a : Nat} {x y z : World} (h : TF a x y) (k : TF a y z) : TF a x z :=
  ⟨k.os.trans h.os, k.tape.trans h.tape, k.output.trans h.output, Nat.le_trans h.size k.size, fun i h1 h2 h3 h4 => (k.low i h1 h2 h3 h4).trans (h.low i h1 h2 h3 h4), fun i o h1 h2 h3 => k.hi i o h1 (h.hi i o h1 h2 h3) h3⟩
theorem TF.of_below {a : Nat} {w w' : World} (h : Below w.heap.size w w') (ha : a + 6 ≤ w.heap.size) : TF a w w' :=
  ⟨h.os, h.tape, h.output, h.size, fun k hk _ _ _ => h.block k (by omega), fun k o _ ho _ => (h.block k (lt_of_block ho)).trans ho⟩
theorem TF.below {a : Nat} {w w' : World} (h : TF a w w') : Below a w w' := ⟨h.os, h.tape, h.output, h.size, fun k hk => h.low k (by omega) (by omega) (by omega) (by omega)⟩
theorem TF.mat {a : Nat} {w w' : World} (h : TF a w w') {g : Nat} {b : Mat} (hg : a + 6 ≤ g) (hm : MatAt w g 93 b) : MatAt w' g 93 b := h.hi g _ hg hm (fun c f e => by cases e)
theorem TryI.below {a : Nat} {iv : Int} {vp vn : Value} {left : Bool} {cur : List Int} {st : Bool × List Int} {w w' : World} (h : TryI a iv vp vn left cur st w) (hb : Below w.heap.size w w') : TryI a iv vp vn left cur st w' := by
  obtain ⟨lv, bv, h4, h2, ho1, ho2, hs⟩ := h.lists
  exact ⟨(hb.block _ (lt_of_block h.c0)).trans h.c0, (hb.block _ (lt_of_block h.c1)).trans h.c1, (hb.block _ (lt_of_block h.c3)).trans h.c3, (hb.block _ (lt_of_block h.c5)).trans h.c5,
    lv, bv, (hb.block _ (lt_of_block h4)).trans h4, (hb.block _ (lt_of_block h2)).trans h2, ho1.below hb, ho2.below hb, hs⟩
theorem TryI.size {a : Nat} {iv : Int} {vp vn : Value} {left : Bool} {cur : List Int} {st : Bool × List Int} {w : World} (h : TryI a iv vp vn left cur st w) : a + 6 ≤ w.heap.size := lt_of_block h.c5

/-- the pointers that the step is given -/
def tryP (a : Nat) : Array Value := #[.pointer (some ⟨a + 3, 0, none⟩), .pointer (some ⟨a + 4, 0, none⟩), .pointer (some ⟨a + 2, 0, none⟩), .pointer (some ⟨a + 1, 0, none⟩), .pointer (some ⟨a, 0, none⟩), .pointer (some ⟨a + 5, 0, none⟩)]
def TryRes (a : Nat) (iv : Int) (vp vn : Value) (left : Bool) (cur : List Int) (st : Bool × List Int) (w : World) (e : Ending) (w' : World) : Prop :=
  e = .returned (.tuple #[]) ∧ TryI a iv vp vn left cur st w' ∧ TF a w w'

theorem own_empty (w : World) (e : TypeId) {α : Type} {At : World → Addr → α → Prop} {sz : Nat} [E : Enc α At sz] : Own w.heap.size e (w.alloc (.cells #[] e)) (.slice (some ⟨w.heap.size, 0, none⟩) 0 0) ([] : List α) :=
  ⟨by simp, .inr ⟨w.heap.size, 0, #[], rfl, Nat.le_refl _, heap_alloc_new w _, Nat.le_refl _, by unfold maxLen; omega, by simp, by simp⟩⟩
set_option maxRecDepth 100000 in
theorem clone_any {B : Nat} {w : World} {A : Option Addr} {c : Nat} {xs : List Int} (hv : Own B 3 w (.slice A xs.length c) xs) (hn : xs.length ≤ 1000) :
    Calls Tryz.prog 98 #[.slice A xs.length c] w fun e w' => ∃ A' c', e = .returned (.slice A' xs.length c') ∧ Own w.heap.size 3 w' (.slice A' xs.length c') xs ∧ Below w.heap.size w w' := by
  cases A with
  | none =>
    have hx : xs = [] := by
      rcases hv with ⟨_, ⟨h1, h0⟩ | ⟨g, cap, cur, h1, _⟩⟩
      · exact List.eq_nil_of_length_eq_zero h0
      · cases h1
    subst hx
    have hq : (binOp .eql 43 (.slice none 0 c) (.slice none 0 0)).run Tryz.prog w = .ok (.bool true) w := by kernel_rfl
    clear hv
    show Calls Tryz.prog 98 #[.slice none 0 c] w _
    go_enter Tryz.func98, Tryz.ntmps98
    go_wp2
    go_ret
    exact ⟨none, 0, rfl, Own.nil _ _ _, Below.refl _ _⟩
  | some ad =>
    obtain ⟨A, c', w', hrun, hown, hb, _⟩ := append_ints (own_empty w 3) (hv.rd.alloc (Nat.le_refl _) _) (by simp; omega) (by simp)
    simp only [List.length_nil, Nat.zero_add, List.nil_append] at hrun hown
    have Hown := Lib.hid hown
    have Hb := Lib.hid (((Below.refl w.heap.size w).alloc (Nat.le_refl _) _).trans hb)
    clear hown hb hv
    have hq : (binOp .eql 43 (.slice (some ad) xs.length c) (.slice none 0 0)).run Tryz.prog w = .ok (.bool false) w := by kernel_rfl
    go_enter Tryz.func98, Tryz.ntmps98
    go_wp2_with (at_builtin; refine wpList_append_run rfl _ _ _ rfl rfl rfl hrun ?_)
    go_ret
    exact ⟨A, c', rfl, Hown.out, Hb.out⟩
end Go.Proofs.YtajdgdelhlfniaaGreatDoor
