/- One element more behind a slice of the call's own. -/
import Derived.Test.YtajdgdelhlfniaaGreatDoorGPure
import Derived.Maps.AppendAt
import Derived.OwnWalk
import Derived.OwnWalkIn
set_option linter.unusedSimpArgs false
set_option linter.unusedVariables false
namespace Go.Proofs.YtajdgdelhlfniaaGreatDoor
open Go.RowKit

section
variable {α : Type} {At : World → Addr → α → Prop} {sz : Nat} [E : Enc α At sz]
theorem Own.form {base : Nat} {e : TypeId} {w : World} {v : Value} {xs : List α} (h : Own base e w v xs) : ∃ A c, v = .slice A xs.length c ∧ xs.length ≤ c ∧ c ≤ 9223372036854775807 := by
  rcases id h with ⟨hl, ⟨rfl, h0⟩ | ⟨g, cap, cur, rfl, hb, hh, hn, hc, hsz, hx⟩⟩
  · exact ⟨none, 0, by rw [h0], by omega, by omega⟩
  · exact ⟨_, cap, rfl, hn, hc⟩
theorem Own.grown {base : Nat} {e : TypeId} {w : World} {v : Value} {xs : List α} (h : Own base e w v xs) {W w' : World} (hg : W.grownBy w' v.ownBlock) : Below base W w' ∨ base > W.heap.size := by
  by_cases hb : base ≤ W.heap.size
  · refine .inl ⟨hg.os, hg.tape, hg.output, hg.size, fun k hk => hg.block k (by omega) fun e2 => ?_⟩
    rcases h with ⟨_, ⟨rfl, _⟩ | ⟨g, cap, cur, rfl, hbb, _⟩⟩
    · cases e2
    · simp only [Value.ownBlock, Option.some.injEq] at e2
      omega
  · exact .inr (by omega)

theorem append_full {P : Program} {base : Nat} {t ty e : TypeId} {bytes : Nat} (ht : P.underlying t = some (.slice e)) (hinfo : (P.info? e).map (fun i => (i.size, i.bytes, i.zero.map (·.cells.size))) = some (sz, bytes, some sz)) (hsz : 0 < sz) (hb1 : bytes ≤ 1000) (h1 : ∀ x, ∀ u ∈ E.enc x, u.oneCell' = true)
    {w : World} {v : Value} {xs : List α} (h : Own base e w v xs) (x : α) (hn : xs.length ≤ 100000) (hbase : base ≤ w.heap.size) {cs : Array Value} (hcs : cs = (E.enc x).toArray) :
    ∃ A c w', (Builtin.append_ #[t, t] ty #[v, .slice (some ⟨w.heap.size, 0, none⟩) 1 1]).run P (w.alloc (.cells cs e)) = .ok (.slice A (xs.length + 1) c) w' ∧ Own base e w' (.slice A (xs.length + 1) c) (xs ++ [x]) ∧
      Below base w w' ∧ base ≤ w'.heap.size ∧ xs.length + 1 ≤ c ∧ c ≤ 9223372036854775807 ∧ w.heap.size < w'.heap.size ∧
      (∀ (b : Nat) (o : Obj), w.heap[b]? = some o → (∀ c f, o ≠ .cells c e f) → w'.heap[b]? = some o) := by
  subst hcs
  obtain ⟨i, hi, hi2⟩ := Option.map_eq_some_iff.1 hinfo
  simp only [Prod.mk.injEq] at hi2
  obtain ⟨hsize, hby, hz0⟩ := hi2
  obtain ⟨z, hz, hzs⟩ := Option.map_eq_some_iff.1 hz0
  have hown : Own base e (w.alloc (.cells (E.enc x).toArray e)) v xs := h.alloc _
  have hl := E.len x
  have hlen : (xs.length + 1) * bytes ≤ 100001 * 1000 := Nat.mul_le_mul (by omega) hb1
  obtain ⟨v', w', hrun, h2, h3, _, _⟩ := run_append_own_at (P := P) (w.alloc (.cells (E.enc x).toArray e)) base t ty e i z sz bytes ht hi hz hsize hby hzs hsz v xs.length (xs.flatMap E.enc) hown
    ⟨w.heap.size, 0, none⟩ 1 1 (E.enc x) (by rw [hl]; omega)
    (fun j u hu => by
      have hadd : (⟨w.heap.size, 0, none⟩ : Addr).add j = ⟨w.heap.size, j, none⟩ := by unfold Addr.add; split <;> simp_all
      rw [hadd]
      exact (cell_of_row _ _ j _ _ _ (heap_alloc_new w _)).trans (by simpa using hu))
    (h1 x) (by unfold maxLen; omega) (by omega) (by simp; omega)
  have h4 : Own base e w' v' (xs ++ [x]) := Own.of_append (n := xs.length + 1) (by simp) (by simpa using h2)
  obtain ⟨A, c, rfl, hc1, hc2⟩ := h4.form
  rw [List.length_append, List.length_singleton] at hrun h4 hc1
  have hb2 := (hown.grown h3).resolve_right (by simp; omega)
  have hb : Below base w w' := ((Below.refl base w).alloc hbase _).trans hb2
  refine ⟨A, c, w', hrun, h4, hb, Nat.le_trans hbase hb.size, hc1, hc2, Nat.lt_of_lt_of_le (by simp) h3.size, fun b o hbo hne => ?_⟩
  have hbo' : (w.alloc (.cells (E.enc x).toArray e)).heap[b]? = some o := (Below.heap_alloc w _ b (lt_of_block hbo)).trans hbo
  refine (h3.block b (lt_of_block hbo') fun e2 => ?_).trans hbo'
  rcases hown with ⟨_, ⟨rfl, _⟩ | ⟨g, cap, cur, rfl, _, hg, _⟩⟩
  · cases e2
  · simp only [Value.ownBlock, Option.some.injEq] at e2
    subst e2
    rw [hbo'] at hg
    cases hg
    exact hne _ _ rfl
theorem append_one {P : Program} {base : Nat} {t ty e : TypeId} {bytes : Nat} (ht : P.underlying t = some (.slice e)) (hinfo : (P.info? e).map (fun i => (i.size, i.bytes, i.zero.map (·.cells.size))) = some (sz, bytes, some sz)) (hsz : 0 < sz) (hb1 : bytes ≤ 1000) (h1 : ∀ x, ∀ u ∈ E.enc x, u.oneCell' = true)
    {w : World} {v : Value} {xs : List α} (h : Own base e w v xs) (x : α) (hn : xs.length ≤ 100000) (hbase : base ≤ w.heap.size) {cs : Array Value} (hcs : cs = (E.enc x).toArray) :
    ∃ A c w', (Builtin.append_ #[t, t] ty #[v, .slice (some ⟨w.heap.size, 0, none⟩) 1 1]).run P (w.alloc (.cells cs e)) = .ok (.slice A (xs.length + 1) c) w' ∧ Own base e w' (.slice A (xs.length + 1) c) (xs ++ [x]) ∧
      Below base w w' ∧ base ≤ w'.heap.size ∧ xs.length + 1 ≤ c ∧ c ≤ 9223372036854775807 := by
  obtain ⟨A, c, w', h1, h2, h3, h4, h5, h6, _⟩ := append_full ht hinfo hsz hb1 h1 h x hn hbase hcs
  exact ⟨A, c, w', h1, h2, h3, h4, h5, h6⟩
end

theorem Own.other {α : Type} {At : World → Addr → α → Prop} {sz : Nat} [E : Enc α At sz] {base : Nat} {e : TypeId} {w : World} {v : Value} {xs : List α} (h : Own base e w v xs) {p : Addr} (hp : p.block < base) (u : Value) : Own base e (w.setCell p u) v xs := by
  rcases h with ⟨hl, h0 | ⟨g, cap, cur, rfl, hbb, hh, r⟩⟩
  · exact ⟨hl, .inl h0⟩
  · exact ⟨hl, .inr ⟨g, cap, cur, rfl, hbb, (Below.heap_setCell _ _ _ _ (by omega)).trans hh, r⟩⟩

/-- a number more -/
theorem append_int {base : Nat} {w : World} {v : Value} {xs : List Int} (h : Own base 3 w v xs) (x : Int) (hn : xs.length ≤ 100000) (hbase : base ≤ w.heap.size) :
    ∃ A c w', (Builtin.append_ #[43, 43] 43 #[v, .slice (some ⟨w.heap.size, 0, none⟩) 1 1]).run Tryz.prog (w.alloc (.cells #[.int .i64 x] 3)) = .ok (.slice A (xs.length + 1) c) w' ∧ Own base 3 w' (.slice A (xs.length + 1) c) (xs ++ [x]) ∧
      Below base w w' ∧ base ≤ w'.heap.size ∧ xs.length + 1 ≤ c ∧ c ≤ 9223372036854775807 :=
  append_one (bytes := 8) (by kernel_rfl) (by kernel_rfl) (by omega) (by omega) (by simp [Enc.enc]; intros; rfl) h x hn hbase rfl
/-- a string more -/
theorem append_str {base : Nat} {w : World} {v : Value} {xs : List ByteArray} (h : Own base 9 w v xs) (x : ByteArray) (hn : xs.length ≤ 100000) (hbase : base ≤ w.heap.size) :
    ∃ A c w', (Builtin.append_ #[22, 22] 22 #[v, .slice (some ⟨w.heap.size, 0, none⟩) 1 1]).run Tryz.prog (w.alloc (.cells #[.string x] 9)) = .ok (.slice A (xs.length + 1) c) w' ∧ Own base 9 w' (.slice A (xs.length + 1) c) (xs ++ [x]) ∧
      Below base w w' ∧ base ≤ w'.heap.size ∧ xs.length + 1 ≤ c ∧ c ≤ 9223372036854775807 :=
  append_one (bytes := 16) (by kernel_rfl) (by kernel_rfl) (by omega) (by omega) (by simp [Enc.enc]; intros; rfl) h x hn hbase rfl
/-- a span more -/
theorem append_span {base : Nat} {w : World} {v : Value} {xs : List (Int × Int)} (h : Own base 40 w v xs) (x : (Int × Int)) (hn : xs.length ≤ 100000) (hbase : base ≤ w.heap.size) :
    ∃ A c w', (Builtin.append_ #[35, 35] 35 #[v, .slice (some ⟨w.heap.size, 0, none⟩) 1 1]).run Tryz.prog (w.alloc (.cells #[.int .i64 x.1, .int .i64 x.2] 40)) = .ok (.slice A (xs.length + 1) c) w' ∧ Own base 40 w' (.slice A (xs.length + 1) c) (xs ++ [x]) ∧
      Below base w w' ∧ base ≤ w'.heap.size ∧ xs.length + 1 ≤ c ∧ c ≤ 9223372036854775807 :=
  append_one (bytes := 16) (by kernel_rfl) (by kernel_rfl) (by omega) (by omega) (by simp [Enc.enc]; intros; refine ⟨?_, ?_⟩ <;> rfl) h x hn hbase rfl
/-- a note more -/
theorem append_note {base : Nat} {w : World} {v : Value} {xs : List NoteR} (h : Own base 69 w v xs) (x : NoteR) (hn : xs.length ≤ 100000) (hbase : base ≤ w.heap.size) :
    ∃ A c w', (Builtin.append_ #[23, 23] 23 #[v, .slice (some ⟨w.heap.size, 0, none⟩) 1 1]).run Tryz.prog (w.alloc (.cells #[.int .i64 x.kind, .int .i64 x.a, .int .i64 x.b, .int .i64 x.lo, .int .i64 x.hi] 69)) = .ok (.slice A (xs.length + 1) c) w' ∧ Own base 69 w' (.slice A (xs.length + 1) c) (xs ++ [x]) ∧
      Below base w w' ∧ base ≤ w'.heap.size ∧ xs.length + 1 ≤ c ∧ c ≤ 9223372036854775807 :=
  append_one (bytes := 40) (by kernel_rfl) (by kernel_rfl) (by omega) (by omega) (by simp [Enc.enc]; intros; refine ⟨?_, ?_, ?_, ?_, ?_⟩ <;> rfl) h x hn hbase rfl
/-! ### more elements -/
theorem enc_ints (ys : List Int) : ys.flatMap (Enc.enc (α := Int)) = ys.map fun n => Value.int .i64 n := by
  induction ys with
  | nil => rfl
  | cons y ys ih => rw [List.flatMap_cons, ih]; rfl
theorem run_append_nil {P : Program} {w : World} {base : Nat} {t ty e : TypeId} {i : TypeInfo} {size : Nat} (ht : P.underlying t = some (.slice e)) (hi : P.info? e = some i)
    {v : Value} {n : Nat} {xs : List Value} (hown : w.ownsRow base e size v n xs) (c : Nat) : (Builtin.append_ #[t, t] ty #[v, .slice none 0 c]).run P w = .ok v w := by
  rcases hown.2 with ⟨rfl, rfl⟩ | ⟨g, cap, cur, rfl, _, _, hnc, _⟩
  · simp [Builtin.append_, run_underlying ht, sizeOf, typeInfo, hi, Builtin.lenOf, Builtin.firstCells]
  · simp [Builtin.append_, run_underlying ht, sizeOf, typeInfo, hi, Builtin.lenOf, Builtin.firstCells, hnc, storeCells]

set_option maxRecDepth 100000 in
/-- numbers more -/
theorem append_ints {base B : Nat} {w : World} {v : Value} {xs ys : List Int} {A : Option Addr} {c : Nat} (h : Own base 3 w v xs) (hr : Rd IntAt 1 B w (.slice A ys.length c) ys) (hn : xs.length + ys.length ≤ 100000) (hbase : base ≤ w.heap.size) :
    ∃ A' c' w', (Builtin.append_ #[43, 43] 43 #[v, .slice A ys.length c]).run Tryz.prog w = .ok (.slice A' (xs.length + ys.length) c') w' ∧ Own base 3 w' (.slice A' (xs.length + ys.length) c') (xs ++ ys) ∧ Below base w w' ∧ base ≤ w'.heap.size := by
  obtain ⟨i, hi, hi2⟩ := Option.map_eq_some_iff.1 (show (Tryz.prog.info? 3).map (fun i => (i.size, i.bytes, i.zero.map (·.cells.size))) = some (1, 8, some 1) by kernel_rfl)
  simp only [Prod.mk.injEq] at hi2
  obtain ⟨hsize, hby, hz0⟩ := hi2
  obtain ⟨z, hz, hzs⟩ := Option.map_eq_some_iff.1 hz0
  have ht : Tryz.prog.underlying 43 = some (.slice 3) := by kernel_rfl
  obtain ⟨A0, c0, e0, _, _, hcell⟩ := hr
  injection e0 with e1 e2 e3
  subst e1 e3
  cases A with
  | none =>
    have hy : ys = [] := by
      cases ys with
      | nil => rfl
      | cons y ys => obtain ⟨ad, e, _⟩ := hcell 0 y rfl; cases e
    subst hy
    have hrun := run_append_nil (ty := 43) ht hi h c
    obtain ⟨A, c1, rfl, _⟩ := h.form
    exact ⟨A, c1, w, hrun, by simpa using h, Below.refl _ _, hbase⟩
  | some ad =>
    obtain ⟨v', w', hrun, h2, h3, _, _⟩ := run_append_own_at (P := Tryz.prog) w base 43 43 3 i z 1 8 ht hi hz hsize hby hzs (by omega) v xs.length (xs.flatMap Enc.enc) h
      ad ys.length c (ys.flatMap Enc.enc) (by rw [flat_len])
      (fun j u hu => by
        rw [enc_ints, List.getElem?_map] at hu
        obtain ⟨y, hy, rfl⟩ := Option.map_eq_some_iff.1 hu
        obtain ⟨ad', e, _, ha⟩ := hcell j y hy
        injection e with e
        subst e
        simpa [IntAt] using ha)
      (fun u hu => by
        rw [enc_ints] at hu
        obtain ⟨n, _, rfl⟩ := List.mem_map.1 hu
        rfl) (by unfold maxLen; omega) (by omega) hbase
    have h4 : Own base 3 w' v' (xs ++ ys) := Own.of_append rfl h2
    obtain ⟨A, c1, rfl, hc1, hc2⟩ := h4.form
    rw [List.length_append] at hrun h4
    have hb2 := (h.grown h3).resolve_right (by omega)
    exact ⟨A, c1, w', hrun, h4, hb2, Nat.le_trans hbase hb2.size⟩

/-- a slice whose cells lie in a block from base on -/
def SlFrom (base : Nat) (v : Value) : Prop := ∀ ad n c, v = .slice (some ad) n c → base ≤ ad.block
theorem SlFrom.mono {b b' : Nat} {v : Value} (h : SlFrom b v) (hb : b' ≤ b) : SlFrom b' v := fun ad n c e => Nat.le_trans hb (h ad n c e)
theorem Own.from {α : Type} {At : World → Addr → α → Prop} {sz : Nat} [E : Enc α At sz] {base : Nat} {e : TypeId} {w : World} {v : Value} {xs : List α} (h : Own base e w v xs) : SlFrom base v := by
  intro ad n c hv
  rcases h with ⟨hl, ⟨rfl, h0⟩ | ⟨g, cap, cur, rfl, hbb, r⟩⟩
  · cases hv
  · injection hv with e1
    injection e1 with e1
    subst e1
    exact hbb

/-! ### an append whose run is known -/
theorem wp_append_run {P : Program} {o : Oper} {a : Act} {K : Act → World → Prop} {Q : Exit → Act → World → Prop} (s x : Operand) (t : TypeId)
    (ho : o.op = .call { callee := .builtin .append, args := #[s, x], argTypes := #[t, t] }) {u1 u2 v' : Value} {w w' : World} (h1 : a.eval s = u1) (h2 : a.eval x = u2)
    (hrun : (Builtin.append_ #[t, t] o.type #[u1, u2]).run P w = .ok v' w') (h : K (a.put o.dst v') w') : o.wp P a w K Q := by
  unfold Oper.wp execOp
  simp only [ho, resolve, invoke, builtin, Sem.run_bind, Sem.run_pure, Result.andThen_ok, List.map_toArray, List.map_cons, List.map_nil, h1, h2, hrun]
  exact h
theorem wpList_append_run {P : Program} {ops : Array Oper} {rest : List Oper} {o : Oper} {a : Act} {Q : Exit → Act → World → Prop} (hgd : o.guard = none) (s x : Operand) (t : TypeId)
    (ho : o.op = .call { callee := .builtin .append, args := #[s, x], argTypes := #[t, t] }) {u1 u2 v' : Value} {w w' : World} (h1 : a.eval s = u1) (h2 : a.eval x = u2)
    (hrun : (Builtin.append_ #[t, t] o.type #[u1, u2]).run P w = .ok v' w') (h : wpList P ops Q rest (a.put o.dst v') w') : wpList P ops Q (o :: rest) a w :=
  wpList_plain hgd fun _ hK => wp_append_run s x t ho h1 h2 hrun (hK _ _ h)
theorem step_append_run {P : Program} {ops : Array Oper} {o : Oper} {a : Act} {K : Act → World → Prop} {Q : Exit → Act → World → Prop} {E : Prop} (hgd : o.guard = none) (s x : Operand) (t : TypeId)
    (ho : o.op = .call { callee := .builtin .append, args := #[s, x], argTypes := #[t, t] }) {u1 u2 v' : Value} {w w' : World} (h1 : a.eval s = u1) (h2 : a.eval x = u2)
    (hrun : (Builtin.append_ #[t, t] o.type #[u1, u2]).run P w = .ok v' w') (h : K (a.put o.dst v') w') :
    if Region.wanted o (yielded ops a.tmps) = true then Oper.wp P o a w K Q else E := by
  have hw : Region.wanted o (yielded ops a.tmps) = true := by simp [Region.wanted, hgd]
  rw [if_pos hw]
  exact wp_append_run s x t ho h1 h2 hrun h
/-- the same in a round -/
theorem wpListIn_append_run {l n : Nat} {P : Program} {ops : Array Oper} {rest : List Oper} {o : Oper} {a : Act} {Q : Exit → Act → World → Prop} (hgd : o.guard = none) (s x : Operand) (t : TypeId)
    (ho : o.op = .call { callee := .builtin .append, args := #[s, x], argTypes := #[t, t] }) {u1 u2 v' : Value} {w w' : World} (h1 : a.eval s = u1) (h2 : a.eval x = u2)
    (hrun : (Builtin.append_ #[t, t] o.type #[u1, u2]).run P w = .ok v' w') (h : wpListIn (Fence.wide.inRound l) n P ops Q rest (a.put o.dst v') w') : wpListIn (Fence.wide.inRound l) n P ops Q (o :: rest) a w := by
  refine wpListIn_plain hgd fun K hK => ?_
  refine ⟨fun _ _ => trivial, ?_⟩
  rw [Oper.semAt_plain _ _ _ (fun c h => by rw [ho] at h; cases h)]
  unfold execOp
  simp only [ho, resolve, invoke, builtin, Sem.run_bind, Sem.run_pure, Result.andThen_ok, List.map_toArray, List.map_cons, List.map_nil, h1, h2, hrun]
  exact hK _ _ h
end Go.Proofs.YtajdgdelhlfniaaGreatDoor
