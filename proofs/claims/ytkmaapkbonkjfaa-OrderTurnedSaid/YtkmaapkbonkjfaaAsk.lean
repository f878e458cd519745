/- Appends whose pieces lie wherever they lie. -/
import Derived.Test.YtkmaapkbonkjfaaGPromise
import Derived.Test.YtkmaapkbonkjfaaGEnter
set_option linter.unusedSimpArgs false
set_option linter.unusedVariables false
namespace Go.Proofs.Ytkmaapkbonkjfaa
open Go.RowKit

theorem step_append_get {P : Program} {ops : Array Oper} {o : Oper} {a : Act} {K : Act → World → Prop} {Q : Exit → Act → World → Prop} {E : Prop} (R : Value → World → Prop) (hgd : o.guard = none) (s x : Operand) (t : TypeId)
    (ho : o.op = .call { callee := .builtin .append, args := #[s, x], argTypes := #[t, t] }) {u1 u2 : Value} {w : World} (h1 : a.eval s = u1) (h2 : a.eval x = u2)
    (hrun : ∃ v' w', (Builtin.append_ #[t, t] o.type #[u1, u2]).run P w = .ok v' w' ∧ R v' w') (h : ∀ v' w', R v' w' → K (a.put o.dst v') w') :
    if Region.wanted o (yielded ops a.tmps) = true then Oper.wp P o a w K Q else E := by
  obtain ⟨v', w', hr, hR⟩ := hrun
  exact step_append_run hgd s x t ho h1 h2 hr (h v' w' hR)

theorem step_append_at {P : Program} {ops : Array Oper} {o : Oper} {a : Act} {K : Act → World → Prop} {Q : Exit → Act → World → Prop} {E : Prop} (R : World → Value → World → Prop) (hgd : o.guard = none) (s x : Operand) (t : TypeId)
    (ho : o.op = .call { callee := .builtin .append, args := #[s, x], argTypes := #[t, t] }) {u1 u2 : Value} {w : World} (h1 : a.eval s = u1) (h2 : a.eval x = u2)
    (hrun : ∃ v' w', (Builtin.append_ #[t, t] o.type #[u1, u2]).run P w = .ok v' w' ∧ R w v' w') (h : ∀ v' w', R w v' w' → K (a.put o.dst v') w') :
    if Region.wanted o (yielded ops a.tmps) = true then Oper.wp P o a w K Q else E :=
  step_append_get (R w) hgd s x t ho h1 h2 hrun h
theorem row_kept {X w' : World} {g b : Nat} {c0 c1 : Array Value} {e0 e1 : TypeId} (hg : X.heap[g]? = some (.cells c0 e0)) (h0 : c0.size = 0) (hgr : X.grownBy w' (some g)) (hb : X.heap[b]? = some (.cells c1 e1)) (h1 : 0 < c1.size) : w'.heap[b]? = some (.cells c1 e1) := by
  refine (hgr.block b (lt_of_block hb) fun e => ?_).trans hb
  injection e with e
  subst e
  rw [hb] at hg
  cases hg
  omega

theorem own_empty_at {α : Type} {At : World → Addr → α → Prop} {sz : Nat} [E : Enc α At sz] {w : World} {g base : Nat} {e : TypeId} (h : w.heap[g]? = some (.cells #[] e)) (hb : base ≤ g) : Own base e w (.slice (some ⟨g, 0, none⟩) 0 0) ([] : List α) :=
  ⟨by simp, .inr ⟨g, 0, #[], rfl, hb, h, Nat.le_refl _, by unfold maxLen; omega, by simp, by simp⟩⟩

set_option maxRecDepth 100000 in
/-- orders more -/
theorem append_ords {base B : Nat} {w : World} {v : Value} {xs ys : List OrdR} {A : Option Addr} {c : Nat} (h : Own base 60 w v xs) (hr : Rd OrdAt 4 B w (.slice A ys.length c) ys) (hn : xs.length + ys.length ≤ 100000) (hbase : base ≤ w.heap.size) :
    ∃ A' c' w', (Builtin.append_ #[24, 24] 24 #[v, .slice A ys.length c]).run Try.prog w = .ok (.slice A' (xs.length + ys.length) c') w' ∧ Own base 60 w' (.slice A' (xs.length + ys.length) c') (xs ++ ys) ∧ Below base w w' ∧ w.grownBy w' v.ownBlock := by
  obtain ⟨i, hi, hi2⟩ := Option.map_eq_some_iff.1 (show (Try.prog.info? 60).map (fun i => (i.size, i.bytes, i.zero.map (·.cells.size))) = some (4, 32, some 4) by kernel_rfl)
  simp only [Prod.mk.injEq] at hi2
  obtain ⟨hsize, hby, hz0⟩ := hi2
  obtain ⟨z, hz, hzs⟩ := Option.map_eq_some_iff.1 hz0
  have ht : Try.prog.underlying 24 = some (.slice 60) := by kernel_rfl
  have hr0 := hr
  obtain ⟨A0, c0, e0, _, _, hcell⟩ := hr
  injection e0 with e1 e2 e3
  subst e1 e3
  cases A with
  | none =>
    have hy : ys = [] := by
      cases ys with
      | nil => rfl
      | cons y ys => obtain ⟨ad, e, _⟩ := hcell 0 y rfl; cases e
    subst hy
    have hrun := run_append_nil (ty := 24) ht hi h c
    obtain ⟨A, c1, rfl, _⟩ := h.form
    exact ⟨A, c1, w, hrun, by simpa using h, Below.refl _ _, ⟨rfl, rfl, rfl, Nat.le_refl _, fun _ _ _ => rfl⟩⟩
  | some ad =>
    obtain ⟨v', w', hrun, h2, h3, _, _⟩ := run_append_own_at (P := Try.prog) w base 24 24 60 i z 4 32 ht hi hz hsize hby hzs (by omega) v xs.length (xs.flatMap Enc.enc) h
      ad ys.length c (ys.flatMap Enc.enc) (by rw [flat_len]) (flat_ords hr0 ad rfl)
      (fun u hu => by
        obtain ⟨o, _, ho⟩ := List.mem_flatMap.1 hu
        simp only [Enc.enc, List.mem_cons, List.not_mem_nil, or_false] at ho
        rcases ho with rfl | rfl | rfl | rfl <;> rfl) (by unfold maxLen; omega) (by omega) hbase
    have h4 : Own base 60 w' v' (xs ++ ys) := Own.of_append rfl h2
    obtain ⟨A, c1, rfl, hc1, hc2⟩ := h4.form
    rw [List.length_append] at hrun h4
    have hb2 := (h.grown h3).resolve_right (by omega)
    exact ⟨A, c1, w', hrun, h4, hb2, h3⟩
/-- one order, in a block of its own -/
theorem ord_row {w : World} {g : Nat} {o : OrdR} (h : w.heap[g]? = some (.cells #[.int .i64 o.part, .int .i64 o.many, .int .i64 o.due, .int .i64 o.worth] 60)) : Rd OrdAt 4 w.heap.size w (.slice (some ⟨g, 0, none⟩) 1 1) [o] := by
  refine ⟨some ⟨g, 0, none⟩, 1, rfl, by simp, by omega, fun i x hi => ⟨⟨g, 0, none⟩, rfl, lt_of_block h, ?_⟩⟩
  cases i with
  | succ i => cases hi
  | zero =>
    cases hi
    exact ⟨(cell_of_row _ _ 0 _ _ _ h).trans rfl, (cell_of_row _ _ 1 _ _ _ h).trans rfl, (cell_of_row _ _ 2 _ _ _ h).trans rfl, (cell_of_row _ _ 3 _ _ _ h).trans rfl⟩
theorem ask1 {W X : World} {B g co : Nat} {Ao : Option Addr} {ys : List OrdR} (hX : Below W.heap.size W X) (hro : Rd OrdAt 4 B W (.slice Ao ys.length co) ys) (hB : B ≤ W.heap.size) (hg : X.heap[g]? = some (.cells #[] 60)) (hge : W.heap.size ≤ g) (hl : ys.length ≤ 100) :
    ∃ v' w', (Builtin.append_ #[24, 24] 24 #[.slice (some ⟨g, 0, none⟩) 0 0, .slice Ao ys.length co]).run Try.prog X = .ok v' w' ∧ ∃ A c g, v' = .slice A ys.length c ∧ Own W.heap.size 60 w' (.slice A ys.length c) ys ∧ Below W.heap.size W w' ∧ X.heap[g]? = some (.cells #[] 60) ∧ X.grownBy w' (some g) := by
  obtain ⟨A, c, w', h1, h2, h3, h4⟩ := append_ords (own_empty_at (base := W.heap.size) hg hge) (hro.below (hX.mono hB)) (by simp; omega) hX.size
  simp only [List.length_nil, Nat.zero_add, List.nil_append] at h1 h2
  exact ⟨_, w', h1, A, c, g, rfl, h2, hX.trans h3, hg, h4⟩
theorem ask2 {W X : World} {g n : Nat} {A : Option Addr} {ys : List OrdR} {o : OrdR} (hX : Below W.heap.size W X) (hown : Own W.heap.size 60 X (.slice A ys.length n) ys) (hrow : X.heap[g]? = some (.cells #[.int .i64 o.part, .int .i64 o.many, .int .i64 o.due, .int .i64 o.worth] 60)) (hl : ys.length ≤ 100) :
    ∃ v' w', (Builtin.append_ #[24, 24] 24 #[.slice A ys.length n, .slice (some ⟨g, 0, none⟩) 1 1]).run Try.prog X = .ok v' w' ∧ ∃ A c, v' = .slice A (ys.length + 1) c ∧ Own W.heap.size 60 w' (.slice A (ys.length + 1) c) (ys ++ [o]) ∧ Below W.heap.size W w' := by
  obtain ⟨A, c, w', h1, h2, h3, _⟩ := append_ords (ys := [o]) hown (ord_row hrow) (by simp; omega) hX.size
  exact ⟨_, w', h1, A, c, rfl, h2, hX.trans h3⟩
theorem row_new2 (X : World) (o1 o2 : Obj) : ((X.alloc o1).alloc o2).heap[X.heap.size + 1]? = some o2 := by
  have := heap_alloc_new (X.alloc o1) o2
  rwa [World.size_alloc] at this
theorem row_old (X : World) (o1 o2 : Obj) : ((X.alloc o1).alloc o2).heap[X.heap.size]? = some o1 := (Below.heap_alloc _ _ _ (by simp)).trans (heap_alloc_new X o1)
theorem row_a (W : World) (o1 : Obj) : (W.drew.alloc o1).heap[W.heap.size]? = some o1 := heap_alloc_new W.drew o1
theorem row_b (W : World) (o1 o2 : Obj) : ((W.drew.alloc o1).alloc o2).heap[W.heap.size]? = some o1 := row_old W.drew o1 o2
theorem row_c (W : World) (o1 o2 : Obj) : ((W.drew.alloc o1).alloc o2).heap[W.heap.size + 1]? = some o2 := row_new2 W.drew o1 o2
theorem below_two {W : World} (o1 o2 : Obj) : Below W.heap.size W ((W.drew.alloc o1).alloc o2) := ((Below.refl _ _).drew.alloc (Nat.le_refl _) _).alloc (by rw [World.size_alloc]; exact Nat.le_succ _) _
theorem below_one {W : World} (o1 : Obj) : Below W.heap.size W (W.drew.alloc o1) := (Below.refl _ _).drew.alloc (Nat.le_refl _) _
/-- one number, in a block of its own -/
theorem int_row {w : World} {g : Nat} {x : Int} (h : w.heap[g]? = some (.cells #[.int .i64 x] 3)) : Rd IntAt 1 w.heap.size w (.slice (some ⟨g, 0, none⟩) 1 1) [x] := by
  refine ⟨some ⟨g, 0, none⟩, 1, rfl, by simp, by omega, fun i y hi => ⟨⟨g, 0, none⟩, rfl, lt_of_block h, ?_⟩⟩
  cases i with
  | succ i => cases hi
  | zero =>
    cases hi
    exact (cell_of_row _ _ 0 _ _ _ h).trans rfl
end Go.Proofs.Ytkmaapkbonkjfaa
