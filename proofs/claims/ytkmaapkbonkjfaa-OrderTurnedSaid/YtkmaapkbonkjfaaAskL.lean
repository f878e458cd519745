/- Walks of the layer order: asked of the laws. -/
import Derived.Test.YtkmaapkbonkjfaaAsk
import Derived.Test.YtkmaapkbonkjfaaLawA
import Derived.Test.YtkmaapkbonkjfaaGhost
import Derived.Test.YtkmaapkbonkjfaaApart
set_option linter.unusedSimpArgs false
set_option linter.unusedVariables false
namespace Go.Proofs.Ytkmaapkbonkjfaa
open Go.RowKit

theorem flat_ints {w : World} {B : Nat} {A : Option Addr} {n c : Nat} {xs : List Int} (h : Rd IntAt 1 B w (.slice A n c) xs) (ad : Addr) (hA : A = some ad) :
    ∀ j u, (xs.flatMap (Enc.enc (α := Int)))[j]? = some u → w.cell? (ad.add j) = some u := by
  intro j u hj
  have hlt := (List.getElem?_eq_some_iff.1 hj).1
  rw [flat_len, Nat.mul_one] at hlt
  obtain ⟨A', cap', e, h1, h2, h3⟩ := h
  obtain ⟨ad', e2, hb, ha⟩ := h3 j xs[j] (List.getElem?_eq_getElem hlt)
  injection e with e e' e''
  subst e
  rw [hA] at e2
  injection e2 with e2
  subst e2
  have := flat_at (xs := xs) (i := j) (List.getElem?_eq_getElem hlt) (j := 0) (u := .int .i64 xs[j]) rfl
  rw [Nat.mul_one, Nat.add_zero, hj] at this
  cases this
  rw [Nat.mul_one] at ha
  exact ha
set_option maxRecDepth 100000 in
/-- numbers more -/
theorem append_ints_at {base B : Nat} {w : World} {v : Value} {xs ys : List Int} {A : Option Addr} {c : Nat} (h : Own base 3 w v xs) (hr : Rd IntAt 1 B w (.slice A ys.length c) ys) (hn : xs.length + ys.length ≤ 100000) (hbase : base ≤ w.heap.size) :
    ∃ A' c' w', (Builtin.append_ #[22, 22] 22 #[v, .slice A ys.length c]).run Try.prog w = .ok (.slice A' (xs.length + ys.length) c') w' ∧ Own base 3 w' (.slice A' (xs.length + ys.length) c') (xs ++ ys) ∧ Below base w w' ∧ w.grownBy w' v.ownBlock := by
  obtain ⟨i, hi, hi2⟩ := Option.map_eq_some_iff.1 (show (Try.prog.info? 3).map (fun i => (i.size, i.bytes, i.zero.map (·.cells.size))) = some (1, 8, some 1) by kernel_rfl)
  simp only [Prod.mk.injEq] at hi2
  obtain ⟨hsize, hby, hz0⟩ := hi2
  obtain ⟨z, hz, hzs⟩ := Option.map_eq_some_iff.1 hz0
  have ht : Try.prog.underlying 22 = some (.slice 3) := by kernel_rfl
  have hr0 := hr
  obtain ⟨A0, c0, e0, _, _, hcell⟩ := hr
  injection e0 with e1 e2 e3
  subst e1 e3
  cases A with
  | none =>
    have hy : ys = [] := by
      cases ys with
      | nil => rfl
      | cons y ys => obtain ⟨ad, e, _⟩ := hcell 0 y rfl; cases e
    subst hy
    have hrun := run_append_nil (ty := 22) ht hi h c
    obtain ⟨A, c1, rfl, _⟩ := h.form
    exact ⟨A, c1, w, hrun, by simpa using h, Below.refl _ _, ⟨rfl, rfl, rfl, Nat.le_refl _, fun _ _ _ => rfl⟩⟩
  | some ad =>
    obtain ⟨v', w', hrun, h2, h3, _, _⟩ := run_append_own_at (P := Try.prog) w base 22 22 3 i z 1 8 ht hi hz hsize hby hzs (by omega) v xs.length (xs.flatMap Enc.enc) h
      ad ys.length c (ys.flatMap Enc.enc) (by rw [flat_len]) (flat_ints hr0 ad rfl)
      (fun u hu => by
        obtain ⟨o, _, ho⟩ := List.mem_flatMap.1 hu
        simp only [Enc.enc, List.mem_cons, List.not_mem_nil, or_false] at ho
        rcases ho with rfl; rfl) (by unfold maxLen; omega) (by omega) hbase
    have h4 : Own base 3 w' v' (xs ++ ys) := Own.of_append rfl h2
    obtain ⟨A, c1, rfl, hc1, hc2⟩ := h4.form
    rw [List.length_append] at hrun h4
    have hb2 := (h.grown h3).resolve_right (by omega)
    exact ⟨A, c1, w', hrun, h4, hb2, h3⟩
theorem Own.same {α : Type} {At : World → Addr → α → Prop} {sz : Nat} [E : Enc α At sz] {base : Nat} {e : TypeId} {w w' : World} {v : Value} {xs : List α} (h : Own base e w v xs) (hk : ∀ g, v.ownBlock = some g → base ≤ g → w'.heap[g]? = w.heap[g]?) : Own base e w' v xs := by
  rcases h with ⟨hl, h0 | ⟨g, cap, cur, rfl, hbb, hh, r⟩⟩
  · exact ⟨hl, .inl h0⟩
  · exact ⟨hl, .inr ⟨g, cap, cur, rfl, hbb, (hk g rfl hbb).trans hh, r⟩⟩
theorem ask3 {X : World} {B base g ct : Nat} {At_ : Option Addr} {ys : List Int} (hro : Rd IntAt 1 B X (.slice At_ ys.length ct) ys) (hB : base ≤ X.heap.size) (hg : X.heap[g]? = some (.cells #[] 3)) (hge : base ≤ g) (hl : ys.length ≤ 100) :
    ∃ v' w', (Builtin.append_ #[22, 22] 22 #[.slice (some ⟨g, 0, none⟩) 0 0, .slice At_ ys.length ct]).run Try.prog X = .ok v' w' ∧ ∃ A c, v' = .slice A ys.length c ∧ Own base 3 w' (.slice A ys.length c) ys ∧ Below base X w' ∧ X.grownBy w' (some g) := by
  obtain ⟨A, c, w', h1, h2, h3, h4⟩ := append_ints_at (own_empty_at (base := base) hg hge) hro (by simp; omega) hB
  simp only [List.length_nil, Nat.zero_add, List.nil_append] at h1 h2
  exact ⟨_, w', h1, A, c, rfl, h2, h3, h4⟩
theorem ask4 {X : World} {base g n : Nat} {A : Option Addr} {ys : List Int} {x : Int} (hB : base ≤ X.heap.size) (hown : Own base 3 X (.slice A ys.length n) ys) (hrow : X.heap[g]? = some (.cells #[.int .i64 x] 3)) (hl : ys.length ≤ 100) :
    ∃ v' w', (Builtin.append_ #[22, 22] 22 #[.slice A ys.length n, .slice (some ⟨g, 0, none⟩) 1 1]).run Try.prog X = .ok v' w' ∧ ∃ A' c, v' = .slice A' (ys.length + 1) c ∧ Own base 3 w' (.slice A' (ys.length + 1) c) (ys ++ [x]) ∧ Below base X w' := by
  obtain ⟨A', c, w', h1, h2, h3, _⟩ := append_ints_at (ys := [x]) hown (int_row hrow) (by simp; omega) hB
  exact ⟨_, w', h1, A', c, rfl, h2, h3⟩

/-- what holds within asked's second statement: W1 before it, the shop's box tb, the result's block rb -/
structure Ask2 (W1 : World) (tb rb : Nat) (vh vp va vt : Value) (n : Nat) (t : List Int) (L : Nat → Bool) (vs : Nat → Value) (X : World) : Prop where
  bel : Below rb W1 X
  stay : ∀ k, k < W1.heap.size → k ≠ rb → X.heap[k]? = W1.heap[k]?
  res : L 10 = false → X.heap[rb]? = some (.cells #[.slice none 0 0, .slice none 0 0, .slice none 0 0] 26)
  f0 : L 0 = true → vs 0 = .agg #[vh, vp, va]
  f1 : L 1 = true → L 3 = false → ∃ g, W1.heap.size ≤ g ∧ vs 1 = .slice (some ⟨g, 0, none⟩) 0 0 ∧ X.heap[g]? = some (.cells #[] 3)
  f2 : L 2 = true → vs 2 = vt
  f3 : L 3 = true → L 9 = false → ∃ A c, vs 3 = .slice A t.length c ∧ Own W1.heap.size 3 X (.slice A t.length c) t
  f4 : L 4 = true → vs 4 = .pointer (some ⟨tb, 2, none⟩)
  f5 : L 5 = true → vs 5 = va
  f6 : L 6 = true → vs 6 = .int .i64 ((n : Int) + 1)
  f7 : L 7 = true → vs 7 = .int .i64 n
  f8 : L 8 = true → L 9 = false → ∃ g, W1.heap.size ≤ g ∧ vs 8 = .slice (some ⟨g, 0, none⟩) 1 1 ∧ X.heap[g]? = some (.cells #[.int .i64 n] 3)
  f9 : L 9 = true → ∃ A c, vs 9 = .slice A (t.length + 1) c ∧ Own W1.heap.size 3 X (.slice A (t.length + 1) c) (t ++ [(n : Int)])
  f10 : L 10 = true → X.heap[rb]? = some (.cells #[vh, vp, va] 26)
  f11 : L 11 = true → vs 11 = vs 9

/-- what holds within asked's first statement -/
structure Ask1 (W : World) (tb : Nat) (Ao : Option Addr) (co : Nat) (ys : List OrdR) (o : OrdR) (L : Nat → Bool) (vs : Nat → Value) (X : World) : Prop where
  bel : L 8 = false → Below W.heap.size W X
  f0 : L 0 = true → L 3 = false → ∃ g, W.heap.size ≤ g ∧ vs 0 = .slice (some ⟨g, 0, none⟩) 0 0 ∧ X.heap[g]? = some (.cells #[] 60)
  f1 : L 1 = true → vs 1 = .pointer (some ⟨tb, 2, none⟩)
  f2 : L 2 = true → vs 2 = .slice Ao ys.length co
  f3 : L 3 = true → L 6 = false → ∃ A c, vs 3 = .slice A ys.length c ∧ Own W.heap.size 60 X (.slice A ys.length c) ys
  f4 : L 4 = true → vs 4 = .agg #[.int .i64 o.part, .int .i64 o.many, .int .i64 o.due, .int .i64 o.worth]
  f5 : L 5 = true → L 6 = false → ∃ g, W.heap.size ≤ g ∧ vs 5 = .slice (some ⟨g, 0, none⟩) 1 1 ∧ X.heap[g]? = some (.cells #[.int .i64 o.part, .int .i64 o.many, .int .i64 o.due, .int .i64 o.worth] 60)
  f6 : L 6 = true → L 8 = false → ∃ A c, vs 6 = .slice A (ys.length + 1) c ∧ Own W.heap.size 60 X (.slice A (ys.length + 1) c) (ys ++ [o])
  f7 : L 7 = true → vs 7 = .pointer (some ⟨tb, 2, none⟩)
  f8 : L 8 = true → ∃ A c X0, vs 6 = .slice A (ys.length + 1) c ∧ Own W.heap.size 60 X0 (.slice A (ys.length + 1) c) (ys ++ [o]) ∧ Below W.heap.size W X0 ∧ X = X0.setCell ⟨tb, 2, none⟩ (.slice A (ys.length + 1) c)

/-- o's cells -/
def OrdC (W : World) (b : Nat) (o : OrdR) : Prop := W.cell? ⟨b, 0, none⟩ = some (.int .i64 o.part) ∧ W.cell? ⟨b, 1, none⟩ = some (.int .i64 o.many) ∧ W.cell? ⟨b, 2, none⟩ = some (.int .i64 o.due) ∧ W.cell? ⟨b, 3, none⟩ = some (.int .i64 o.worth)

set_option maxRecDepth 100000 in
set_option maxHeartbeats 4000000 in
theorem asked_own {B : Nat} {w : World} {v vt : Value} {s : ShopR} {t : List Int} (hs : RdShop B w v s) (ht : Rd IntAt 1 B w vt t) (hB : B ≤ w.heap.size) (ho8 : s.orders.length ≤ 100) (ht8 : t.length ≤ 100) (o : OrdR) :
    Calls Try.prog 40 #[v, vt, .agg #[.int .i64 o.part, .int .i64 o.many, .int .i64 o.due, .int .i64 o.worth]] w fun e w' => ∃ vh vp vo A c A' c', v = .agg #[vh, vp, vo] ∧
      e = .returned (.tuple #[.agg #[vh, vp, .slice A (s.orders.length + 1) c], .slice A' (t.length + 1) c']) ∧ Own w.heap.size 60 w' (.slice A (s.orders.length + 1) c) (s.orders ++ [o]) ∧
      Own w.heap.size 3 w' (.slice A' (t.length + 1) c') (t ++ [(s.orders.length : Int)]) ∧ Apart (.slice A (s.orders.length + 1) c) (.slice A' (t.length + 1) c') ∧ Below w.heap.size w w' := by
  obtain ⟨vh, vp, vo, rfl, ⟨Ah, ch, rfl, _⟩, ⟨Ap, cp, rfl, _⟩, hro⟩ := id hs
  obtain ⟨Ao, co, rfl, _⟩ := id hro
  obtain ⟨At_, ct, rfl, _⟩ := id ht
  obtain ⟨W, hW⟩ : ∃ W, W = ((w.alloc (.cells #[.slice Ah s.hours.length ch, .slice Ap s.parts.length cp, .slice Ao s.orders.length co] 26)).alloc (.cells #[.int .i64 o.part, .int .i64 o.many, .int .i64 o.due, .int .i64 o.worth] 60)).alloc (.cells #[.slice none 0 0, .slice none 0 0, .slice none 0 0] 26) := ⟨_, rfl⟩
  have T0 : W.heap[w.heap.size]? = some (.cells #[.slice Ah s.hours.length ch, .slice Ap s.parts.length cp, .slice Ao s.orders.length co] 26) := by
    rw [hW]; exact (Below.heap_alloc _ _ _ (by simp; omega)).trans ((Below.heap_alloc _ _ _ (by simp)).trans (heap_alloc_new w _))
  have T1 : W.heap[w.heap.size + 1]? = some (.cells #[.int .i64 o.part, .int .i64 o.many, .int .i64 o.due, .int .i64 o.worth] 60) := by
    rw [hW]
    refine (Below.heap_alloc _ _ _ (by simp)).trans ?_
    have := heap_alloc_new (w.alloc (.cells #[.slice Ah s.hours.length ch, .slice Ap s.parts.length cp, .slice Ao s.orders.length co] 26)) (.cells #[.int .i64 o.part, .int .i64 o.many, .int .i64 o.due, .int .i64 o.worth] 60)
    rwa [World.size_alloc] at this
  have T2 : W.heap[w.heap.size + 1 + 1]? = some (.cells #[.slice none 0 0, .slice none 0 0, .slice none 0 0] 26) := by
    rw [hW]
    have := heap_alloc_new ((w.alloc (.cells #[.slice Ah s.hours.length ch, .slice Ap s.parts.length cp, .slice Ao s.orders.length co] 26)).alloc (.cells #[.int .i64 o.part, .int .i64 o.many, .int .i64 o.due, .int .i64 o.worth] 60)) (.cells #[.slice none 0 0, .slice none 0 0, .slice none 0 0] 26)
    rwa [World.size_alloc, World.size_alloc] at this
  have hb : Below w.heap.size w W := by rw [hW]; exact (((Below.refl _ _).alloc (Nat.le_refl _) _).alloc (by simp) _).alloc (by simp; omega) _
  have hro' := Lib.hid (hro.below (hb.mono hB))
  have ht' := Lib.hid (ht.below (hb.mono hB))
  have hBW := Nat.le_trans hB hb.size
  have HT0 := Lib.hid T0
  have HT1 := Lib.hid T1
  have HT2 := Lib.hid T2
  have Hb := Lib.hid hb
  clear hs hro T0 T1 T2 hb
  go_enter Try.func40, Try.ntmps40
  go_upto_region 1 with (fail)
  rw [← hW]
  clear hW
  have hn : w.heap.size + 1 < W.heap.size := lt_of_block HT1.out
  have hn2 : w.heap.size + 1 + 1 < W.heap.size := lt_of_block HT2.out
  have C2 := Lib.hid (cellOf HT0.out 2 (v := .slice Ao s.orders.length co) rfl)
  have F2 : Hid (W.frozen? ⟨w.heap.size, 2, none⟩ = false) := Lib.hid (by have := HT0.out; simp [World.frozen?, this])
  have R0 := Lib.hid (cellOf HT1.out 0 (v := .int .i64 o.part) rfl)
  have R1 := Lib.hid (cellOf HT1.out 1 (v := .int .i64 o.many) rfl)
  have R2 := Lib.hid (cellOf HT1.out 2 (v := .int .i64 o.due) rfl)
  have R3 := Lib.hid (cellOf HT1.out 3 (v := .int .i64 o.worth) rfl)
  refine wp_region_ghost (Ask1 W w.heap.size Ao co s.orders o) (by kernel_rfl) (by kernel_rfl) ?_ ?_ ?_
  · exact ⟨fun _ => (Below.refl _ _).drew, fun h => (by cases h), fun h => (by cases h), fun h => (by cases h), fun h => (by cases h), fun h => (by cases h), fun h => (by cases h), fun h => (by cases h), fun h => (by cases h), fun h => (by cases h)⟩
  · refine ⟨?_, ?_, ?_, ?_, ?_, ?_, ?_, ?_, ?_, trivial⟩
    all_goals
      intro L vs X b hL hw hcl hI hf
    · have n3 : L 3 = false := not_yet hcl 3 hL rfl (by kernel_rfl)
      have n6 : L 6 = false := not_yet hcl 6 n3 rfl (by kernel_rfl)
      have n8 : L 8 = false := not_yet hcl 8 n6 rfl (by kernel_rfl)
      have hb := hI.bel n8
      refine wp_of_run (v := .slice (some ⟨X.heap.size, 0, none⟩) 0 0) (w' := X.alloc (.cells #[] 60)) (by unfold execOp; go_simp) ?_
      refine ⟨fun _ => hb.alloc hb.size _, fun _ _ => ⟨_, hb.size, rfl, heap_alloc_new _ _⟩, hI.f1, hI.f2, fun h => absurd (n3.symm.trans h) (by simp), hI.f4, fun h h' => ?_, fun h => absurd (n6.symm.trans h) (by simp), hI.f7, fun h => absurd (n8.symm.trans h) (by simp)⟩
      obtain ⟨g, h1, h2, h3⟩ := hI.f5 h h'
      exact ⟨g, h1, h2, (Below.heap_alloc _ _ _ (lt_of_block h3)).trans h3⟩
    · have e3 := hf.old 3 (by kernel_rfl)
      refine wp_of_run (v := .pointer (some ⟨w.heap.size, 2, none⟩)) (w' := X) (by unfold execOp; go_simp) ?_
      exact ⟨hI.bel, hI.f0, fun _ => rfl, hI.f2, hI.f3, hI.f4, hI.f5, hI.f6, hI.f7, hI.f8⟩
    · have n3 : L 3 = false := not_yet hcl 3 hL rfl (by kernel_rfl)
      have n6 : L 6 = false := not_yet hcl 6 n3 rfl (by kernel_rfl)
      have n8 : L 8 = false := not_yet hcl 8 n6 rfl (by kernel_rfl)
      have h1 : L 1 = true := done_of hw 1 (by kernel_rfl)
      have e9 := (hf.new 1 9 rfl h1 (by simp)).trans (hI.f1 h1)
      have c2 := ((hI.bel n8).cell (cell_lt C2.out)).trans C2.out
      refine wp_of_run (v := .slice Ao s.orders.length co) (w' := X) (by unfold execOp; go_simp) ?_
      exact ⟨hI.bel, hI.f0, hI.f1, fun _ => rfl, hI.f3, hI.f4, hI.f5, hI.f6, hI.f7, hI.f8⟩
    · have n6 : L 6 = false := not_yet hcl 6 hL rfl (by kernel_rfl)
      have n8 : L 8 = false := not_yet hcl 8 n6 rfl (by kernel_rfl)
      have h0 : L 0 = true := done_of hw 0 (by kernel_rfl)
      have h2 : L 2 = true := done_of hw 2 (by kernel_rfl)
      have hb := hI.bel n8
      obtain ⟨g, hg1, hg2, hg3⟩ := hI.f0 h0 hL
      have e8 := (hf.new 0 8 rfl h0 (by simp)).trans hg2
      have e10 := (hf.new 2 10 rfl h2 (by simp)).trans (hI.f2 h2)
      obtain ⟨v', w', hrun, A, c, g', rfl, hown, hb', hgg, hgr⟩ := ask1 hb hro'.out hBW hg3 hg1 ho8
      refine wp_append_run (.tmp 8) (.tmp 10) 24 rfl (by unfold Act.eval; simpa using e8) (by unfold Act.eval; simpa using e10) hrun ⟨_, rfl, ?_⟩
      refine ⟨fun _ => hb', fun _ h => (by cases h), hI.f1, hI.f2, fun _ _ => ⟨A, c, rfl, hown⟩, hI.f4, fun h h' => ?_, fun h => absurd (n6.symm.trans h) (by simp), hI.f7, fun h => absurd (n8.symm.trans h) (by simp)⟩
      obtain ⟨g5, k1, k2, k3⟩ := hI.f5 h h'
      exact ⟨g5, k1, k2, row_kept hgg rfl hgr k3 (by simp)⟩
    · have n5 : L 5 = false := not_yet hcl 5 hL rfl (by kernel_rfl)
      have n6 : L 6 = false := not_yet hcl 6 n5 rfl (by kernel_rfl)
      have n8 : L 8 = false := not_yet hcl 8 n6 rfl (by kernel_rfl)
      have e5 := hf.old 5 (by kernel_rfl)
      have hb := hI.bel n8
      have r0 := (hb.cell (cell_lt R0.out)).trans R0.out
      have r1 := (hb.cell (cell_lt R1.out)).trans R1.out
      have r2 := (hb.cell (cell_lt R2.out)).trans R2.out
      have r3 := (hb.cell (cell_lt R3.out)).trans R3.out
      refine wp_of_run (v := .agg #[.int .i64 o.part, .int .i64 o.many, .int .i64 o.due, .int .i64 o.worth]) (w' := X) (by unfold execOp; go_simp) ?_
      exact ⟨hI.bel, hI.f0, hI.f1, hI.f2, hI.f3, fun _ => rfl, hI.f5, hI.f6, hI.f7, hI.f8⟩
    · have n6 : L 6 = false := not_yet hcl 6 hL rfl (by kernel_rfl)
      have n8 : L 8 = false := not_yet hcl 8 n6 rfl (by kernel_rfl)
      have h4 : L 4 = true := done_of hw 4 (by kernel_rfl)
      have e12 := (hf.new 4 12 rfl h4 (by simp)).trans (hI.f4 h4)
      have hb := hI.bel n8
      refine wp_of_run (v := .slice (some ⟨X.heap.size, 0, none⟩) 1 1) (w' := X.alloc (.cells #[.int .i64 o.part, .int .i64 o.many, .int .i64 o.due, .int .i64 o.worth] 60)) (by unfold execOp; go_simp) ?_
      refine ⟨fun _ => hb.alloc hb.size _, fun h h' => ?_, hI.f1, hI.f2, fun h h' => ?_, hI.f4, fun _ _ => ⟨_, hb.size, rfl, heap_alloc_new _ _⟩, fun h => absurd (n6.symm.trans h) (by simp), hI.f7, fun h => absurd (n8.symm.trans h) (by simp)⟩
      · obtain ⟨g, k1, k2, k3⟩ := hI.f0 h h'
        exact ⟨g, k1, k2, (Below.heap_alloc _ _ _ (lt_of_block k3)).trans k3⟩
      · obtain ⟨A, c, k1, k2⟩ := hI.f3 h h'
        exact ⟨A, c, k1, k2.alloc _⟩
    · have n8 : L 8 = false := not_yet hcl 8 hL rfl (by kernel_rfl)
      have h3 : L 3 = true := done_of hw 3 (by kernel_rfl)
      have h5 : L 5 = true := done_of hw 5 (by kernel_rfl)
      obtain ⟨A, n, k1, k2⟩ := hI.f3 h3 hL
      obtain ⟨g, q1, q2, q3⟩ := hI.f5 h5 hL
      have e11 := (hf.new 3 11 rfl h3 (by simp)).trans k1
      have e13 := (hf.new 5 13 rfl h5 (by simp)).trans q2
      obtain ⟨v', w', hrun, A2, c2, rfl, hown, hb'⟩ := ask2 (hI.bel n8) k2 q3 ho8
      refine wp_append_run (.tmp 11) (.tmp 13) 24 rfl (by unfold Act.eval; simpa using e11) (by unfold Act.eval; simpa using e13) hrun ⟨_, rfl, ?_⟩
      exact ⟨fun _ => hb', fun _ h => absurd (h3.symm.trans h) (by simp), hI.f1, hI.f2, fun _ h => (by cases h), hI.f4, fun _ h => (by cases h), fun _ _ => ⟨A2, c2, rfl, hown⟩, hI.f7, fun h => absurd (n8.symm.trans h) (by simp)⟩
    · have e3 := hf.old 3 (by kernel_rfl)
      refine wp_of_run (v := .pointer (some ⟨w.heap.size, 2, none⟩)) (w' := X) (by unfold execOp; go_simp) ?_
      exact ⟨hI.bel, hI.f0, hI.f1, hI.f2, hI.f3, hI.f4, hI.f5, hI.f6, fun _ => rfl, hI.f8⟩
    · have h6 : L 6 = true := done_of hw 6 (by kernel_rfl)
      have h7 : L 7 = true := done_of hw 7 (by kernel_rfl)
      have h3 : L 3 = true := hcl 6 _ rfl h6 3 (by simp [waits, Region.binds])
      have h5 : L 5 = true := hcl 6 _ rfl h6 5 (by simp [waits, Region.binds])
      have hb := hI.bel hL
      obtain ⟨A, c, k1, k2⟩ := hI.f6 h6 hL
      have e14 := (hf.new 6 14 rfl h6 (by simp)).trans k1
      have e15 := (hf.new 7 15 rfl h7 (by simp)).trans (hI.f7 h7)
      have c2 := (hb.cell (cell_lt C2.out)).trans C2.out
      have f2 := (hb.frozen (p := ⟨w.heap.size, 2, none⟩) (by show w.heap.size < W.heap.size; omega)).trans F2.out
      refine wp_of_skip (w' := X.setCell ⟨w.heap.size, 2, none⟩ (.slice A (s.orders.length + 1) c)) (by unfold execOp; go_simp) ?_
      exact ⟨fun h => (by cases h), fun _ h => absurd (h3.symm.trans h) (by simp), hI.f1, hI.f2, fun _ h => absurd (h6.symm.trans h) (by simp), hI.f4, fun _ h => absurd (h6.symm.trans h) (by simp), fun _ h => (by cases h), hI.f7, fun _ => ⟨A, c, X, k1, k2, hb, rfl⟩⟩
  · intro vs X hI
    obtain ⟨A, c, X0, k1, k2, k3, rfl⟩ := hI.f8 rfl
    obtain ⟨u0, hu0⟩ : ∃ u, u = vs := ⟨_, rfl⟩
    have hWs : (X0.setCell ⟨w.heap.size, 2, none⟩ (.slice A (s.orders.length + 1) c)).heap.size = X0.heap.size := World.size_setCell _ _ _
    obtain ⟨W1, hW1⟩ : ∃ W1, W1 = X0.setCell ⟨w.heap.size, 2, none⟩ (.slice A (s.orders.length + 1) c) := ⟨_, rfl⟩
    rw [← hW1] at hWs ⊢
    have hb1 : Below w.heap.size w W1 := by rw [hW1]; exact (Hb.out.trans (k3.mono Hb.out.size)).setCell (Nat.le_refl _) _
    have hT0 : W1.heap[w.heap.size]? = some (.cells #[.slice Ah s.hours.length ch, .slice Ap s.parts.length cp, .slice A (s.orders.length + 1) c] 26) := by
      rw [hW1]
      exact heap_setCell_same _ _ 2 _ _ _ ((k3.block _ (by omega)).trans HT0.out)
    have hT2 : W1.heap[w.heap.size + 1 + 1]? = some (.cells #[.slice none 0 0, .slice none 0 0, .slice none 0 0] 26) := by
      rw [hW1, Below.heap_setCell _ _ _ _ (by simp; omega)]
      exact (k3.block _ (lt_of_block HT2.out)).trans HT2.out
    have hown : Own W.heap.size 60 W1 (.slice A (s.orders.length + 1) c) (s.orders ++ [o]) := by rw [hW1]; exact k2.other (by show w.heap.size < W.heap.size; omega) _
    have hrt : Rd IntAt 1 B W1 (.slice At_ t.length ct) t := ht.below (hb1.mono hB)
    have HT0 := Lib.hid hT0
    have HT2 := Lib.hid hT2
    have HO := Lib.hid hown
    have HR := Lib.hid hrt
    have Hb1 := Lib.hid hb1
    have Hsz : W.heap.size ≤ W1.heap.size := by rw [hWs]; exact k3.size
    have C0 := Lib.hid (cellOf HT0.out 0 (v := .slice Ah s.hours.length ch) rfl)
    have C1 := Lib.hid (cellOf HT0.out 1 (v := .slice Ap s.parts.length cp) rfl)
    have C2 := Lib.hid (cellOf HT0.out 2 (v := .slice A (s.orders.length + 1) c) rfl)
    clear hW1 hWs k1 k2 k3 hI hu0 hT0 hT2 hown hrt hb1 F2 R0 R1 R2 R3
    generalize vs 0 = u0
    generalize vs 1 = u1
    generalize vs 2 = u2
    generalize vs 3 = u3
    generalize vs 4 = u4
    generalize vs 5 = u5
    generalize vs 6 = u6
    generalize vs 7 = u7
    simp [fill, slotOf, Act.put]
    simp only [Exit.inBlock, Exit.then]
    go_upto_region 2 with (fail)
    have hsz2 : w.heap.size + 1 + 1 < W1.heap.size := lt_of_block HT2.out
    obtain ⟨n, hn0⟩ : ∃ n, n = s.orders.length := ⟨_, rfl⟩
    rw [← hn0] at C2 HT0
    have hn100 : n ≤ 100 := by omega
    have hH0 := Lib.hid hn0
    clear hn0
    refine wp_region_ghost (Ask2 W1 w.heap.size (w.heap.size + 1 + 1) (.slice Ah s.hours.length ch) (.slice Ap s.parts.length cp) (.slice A (n + 1) c) (.slice At_ t.length ct) n t) (by kernel_rfl) (by kernel_rfl) ?_ ?_ ?_
    · exact ⟨(Below.refl _ _).drew, fun _ _ _ => rfl, fun _ => HT2.out, fun h => (by cases h), fun h => (by cases h), fun h => (by cases h), fun h => (by cases h), fun h => (by cases h), fun h => (by cases h), fun h => (by cases h), fun h => (by cases h), fun h => (by cases h), fun h => (by cases h), fun h => (by cases h), fun h => (by cases h)⟩
    · refine ⟨?_, ?_, ?_, ?_, ?_, ?_, ?_, ?_, ?_, ?_, ?_, ?_, trivial⟩
      all_goals
        intro L vs X b hL hw hcl hI hf
        have hb := hI.bel
        have hst := hI.stay
        have x0 : X.cell? ⟨w.heap.size, 0, none⟩ = some (.slice Ah s.hours.length ch) := (hb.cell (p := ⟨w.heap.size, 0, none⟩) (by show w.heap.size < _; omega)).trans C0.out
        have x1 : X.cell? ⟨w.heap.size, 1, none⟩ = some (.slice Ap s.parts.length cp) := (hb.cell (p := ⟨w.heap.size, 1, none⟩) (by show w.heap.size < _; omega)).trans C1.out
        have x2 : X.cell? ⟨w.heap.size, 2, none⟩ = some (.slice A (n + 1) c) := (hb.cell (p := ⟨w.heap.size, 2, none⟩) (by show w.heap.size < _; omega)).trans C2.out
        have hszX := hb.size
      · -- the shop
        have e3 := hf.old 3 (by kernel_rfl)
        refine wp_of_run (v := .agg #[.slice Ah s.hours.length ch, .slice Ap s.parts.length cp, .slice A (n + 1) c]) (w' := X) (by unfold execOp; go_simp) ?_
        exact ⟨hb, hst, hI.res, fun _ => rfl, hI.f1, hI.f2, hI.f3, hI.f4, hI.f5, hI.f6, hI.f7, hI.f8, hI.f9, hI.f10, hI.f11⟩
      · -- no numbers
        have n3 : L 3 = false := not_yet hcl 3 hL rfl (by kernel_rfl)
        have n9 : L 9 = false := not_yet hcl 9 n3 rfl (by kernel_rfl)
        have n11 : L 11 = false := not_yet hcl 11 n9 rfl (by kernel_rfl)
        refine wp_of_run (v := .slice (some ⟨X.heap.size, 0, none⟩) 0 0) (w' := X.alloc (.cells #[] 3)) (by unfold execOp; go_simp) ?_
        have hk : ∀ k, k < X.heap.size → (X.alloc (.cells #[] 3)).heap[k]? = X.heap[k]? := fun k hk => Below.heap_alloc _ _ _ hk
        refine ⟨hb.alloc (by omega) _, fun k h1 h2 => (hk k (by omega)).trans (hst k h1 h2), fun h => (hk _ (by omega)).trans (hI.res h), hI.f0, fun _ _ => ⟨_, hszX, rfl, heap_alloc_new _ _⟩, hI.f2, fun h => absurd (n3.symm.trans h) (by simp), hI.f4, hI.f5, hI.f6, hI.f7, fun h h' => ?_, fun h => absurd (n9.symm.trans h) (by simp), fun h => (hk _ (by omega)).trans (hI.f10 h), fun h => absurd (n11.symm.trans h) (by simp)⟩
        obtain ⟨g, h1, h2, h3⟩ := hI.f8 h h'
        exact ⟨g, h1, h2, (hk _ (lt_of_block h3)).trans h3⟩
      · -- the taken ones
        have e1 := hf.old 1 (by kernel_rfl)
        refine wp_of_run (v := .slice At_ t.length ct) (w' := X) (by unfold execOp; go_simp) ?_
        exact ⟨hb, hst, hI.res, hI.f0, hI.f1, fun _ => rfl, hI.f3, hI.f4, hI.f5, hI.f6, hI.f7, hI.f8, hI.f9, hI.f10, hI.f11⟩
      · -- the first append
        have n9 : L 9 = false := not_yet hcl 9 hL rfl (by kernel_rfl)
        have n11 : L 11 = false := not_yet hcl 11 n9 rfl (by kernel_rfl)
        have h1 : L 1 = true := done_of hw 1 (by kernel_rfl)
        have h2 : L 2 = true := done_of hw 2 (by kernel_rfl)
        obtain ⟨g, hg1, hg2, hg3⟩ := hI.f1 h1 hL
        have e17 := (hf.new 1 17 rfl h1 (by simp)).trans hg2
        have e18 := (hf.new 2 18 rfl h2 (by simp)).trans (hI.f2 h2)
        obtain ⟨v', w', hrun, A', c', rfl, hown, hbw, hgr⟩ := ask3 (HR.out.keep fun p hp => hb.cell (by omega)) hszX hg3 hg1 ht8
        refine wp_append_run (.tmp 17) (.tmp 18) 22 rfl (by unfold Act.eval; simpa using e17) (by unfold Act.eval; simpa using e18) hrun ⟨_, rfl, ?_⟩
        refine ⟨hb.trans (hbw.mono (by omega)), fun k h1 h2 => (hbw.block k h1).trans (hst k h1 h2), fun h => (hbw.block _ (by omega)).trans (hI.res h), hI.f0, fun _ h => (by cases h), hI.f2, fun _ _ => ⟨A', c', rfl, hown⟩, hI.f4, hI.f5, hI.f6, hI.f7, fun h h' => ?_, fun h => absurd (n9.symm.trans h) (by simp), fun h => (hbw.block _ (by omega)).trans (hI.f10 h), fun h => absurd (n11.symm.trans h) (by simp)⟩
        obtain ⟨g5, k1, k2, k3⟩ := hI.f8 h h'
        exact ⟨g5, k1, k2, row_kept hg3 rfl hgr k3 (by simp)⟩
      · have e3 := hf.old 3 (by kernel_rfl)
        refine wp_of_run (v := .pointer (some ⟨w.heap.size, 2, none⟩)) (w' := X) (by unfold execOp; go_simp) ?_
        exact ⟨hb, hst, hI.res, hI.f0, hI.f1, hI.f2, hI.f3, fun _ => rfl, hI.f5, hI.f6, hI.f7, hI.f8, hI.f9, hI.f10, hI.f11⟩
      · have h4 : L 4 = true := done_of hw 4 (by kernel_rfl)
        have e20 := (hf.new 4 20 rfl h4 (by simp)).trans (hI.f4 h4)
        refine wp_of_run (v := .slice A (n + 1) c) (w' := X) (by unfold execOp; go_simp) ?_
        exact ⟨hb, hst, hI.res, hI.f0, hI.f1, hI.f2, hI.f3, hI.f4, fun _ => rfl, hI.f6, hI.f7, hI.f8, hI.f9, hI.f10, hI.f11⟩
      · have h5 : L 5 = true := done_of hw 5 (by kernel_rfl)
        have e21 := (hf.new 5 21 rfl h5 (by simp)).trans (hI.f5 h5)
        refine wp_of_run (v := .int .i64 ((n : Int) + 1)) (w' := X) (by unfold execOp; go_simp) ?_
        exact ⟨hb, hst, hI.res, hI.f0, hI.f1, hI.f2, hI.f3, hI.f4, hI.f5, fun _ => rfl, hI.f7, hI.f8, hI.f9, hI.f10, hI.f11⟩
      · have h6 : L 6 = true := done_of hw 6 (by kernel_rfl)
        have e22 := (hf.new 6 22 rfl h6 (by simp)).trans (hI.f6 h6)
        have hwr : IntKind.i64.wrap (n : Int) = n := IntWalk.i64_in _ (by omega)
        refine wp_of_run (v := .int .i64 n) (w' := X) (by unfold execOp; go_simp) ?_
        exact ⟨hb, hst, hI.res, hI.f0, hI.f1, hI.f2, hI.f3, hI.f4, hI.f5, hI.f6, fun _ => rfl, hI.f8, hI.f9, hI.f10, hI.f11⟩
      · have n9 : L 9 = false := not_yet hcl 9 hL rfl (by kernel_rfl)
        have n11 : L 11 = false := not_yet hcl 11 n9 rfl (by kernel_rfl)
        have h7 : L 7 = true := done_of hw 7 (by kernel_rfl)
        have e23 := (hf.new 7 23 rfl h7 (by simp)).trans (hI.f7 h7)
        refine wp_of_run (v := .slice (some ⟨X.heap.size, 0, none⟩) 1 1) (w' := X.alloc (.cells #[.int .i64 n] 3)) (by unfold execOp; go_simp) ?_
        have hk : ∀ k, k < X.heap.size → (X.alloc (.cells #[.int .i64 n] 3)).heap[k]? = X.heap[k]? := fun k hk => Below.heap_alloc _ _ _ hk
        refine ⟨hb.alloc (by omega) _, fun k h1 h2 => (hk k (by omega)).trans (hst k h1 h2), fun h => (hk _ (by omega)).trans (hI.res h), hI.f0, fun h h' => ?_, hI.f2, fun h h' => ?_, hI.f4, hI.f5, hI.f6, hI.f7, fun _ _ => ⟨_, hszX, rfl, heap_alloc_new _ _⟩, fun h => absurd (n9.symm.trans h) (by simp), fun h => (hk _ (by omega)).trans (hI.f10 h), fun h => absurd (n11.symm.trans h) (by simp)⟩
        · obtain ⟨g, h1, h2, h3⟩ := hI.f1 h h'
          exact ⟨g, h1, h2, (hk _ (lt_of_block h3)).trans h3⟩
        · obtain ⟨A', c', k1, k2⟩ := hI.f3 h h'
          exact ⟨A', c', k1, k2.alloc _⟩
      · -- the second append
        have n11 : L 11 = false := not_yet hcl 11 hL rfl (by kernel_rfl)
        have h3 : L 3 = true := done_of hw 3 (by kernel_rfl)
        have h8 : L 8 = true := done_of hw 8 (by kernel_rfl)
        obtain ⟨A', c', k1, k2⟩ := hI.f3 h3 hL
        obtain ⟨g, q1, q2, q3⟩ := hI.f8 h8 hL
        have e19 := (hf.new 3 19 rfl h3 (by simp)).trans k1
        have e24 := (hf.new 8 24 rfl h8 (by simp)).trans q2
        obtain ⟨v', w', hrun, A2, c2, rfl, hown, hbw⟩ := ask4 hszX k2 q3 ht8
        refine wp_append_run (.tmp 19) (.tmp 24) 22 rfl (by unfold Act.eval; simpa using e19) (by unfold Act.eval; simpa using e24) hrun ⟨_, rfl, ?_⟩
        exact ⟨hb.trans (hbw.mono (by omega)), fun k h1 h2 => (hbw.block k h1).trans (hst k h1 h2), fun h => (hbw.block _ (by omega)).trans (hI.res h), hI.f0, fun _ h => absurd (h3.symm.trans h) (by simp), hI.f2, fun _ h => (by cases h), hI.f4, hI.f5, hI.f6, hI.f7, fun _ h => (by cases h), fun _ => ⟨A2, c2, rfl, hown⟩, fun h => (hbw.block _ (by omega)).trans (hI.f10 h), fun h => absurd (n11.symm.trans h) (by simp)⟩
      · -- the result's shop
        have h0 : L 0 = true := done_of hw 0 (by kernel_rfl)
        have e16 := (hf.new 0 16 rfl h0 (by simp)).trans (hI.f0 h0)
        have e6 := hf.old 6 (by kernel_rfl)
        have hr := hI.res hL
        have y0 := cellOf hr 0 (v := .slice none 0 0) rfl
        have y1 := cellOf hr 1 (v := .slice none 0 0) rfl
        have y2 := cellOf hr 2 (v := .slice none 0 0) rfl
        have z0 : X.frozen? ⟨w.heap.size + 1 + 1, 0, none⟩ = false := by simp [World.frozen?, hr]
        have z1 : X.frozen? ⟨w.heap.size + 1 + 1, 1, none⟩ = false := by simp [World.frozen?, hr]
        have z2 : X.frozen? ⟨w.heap.size + 1 + 1, 2, none⟩ = false := by simp [World.frozen?, hr]
        refine wp_of_skip (w' := ((X.setCell ⟨w.heap.size + 1 + 1, 0, none⟩ (.slice Ah s.hours.length ch)).setCell ⟨w.heap.size + 1 + 1, 1, none⟩ (.slice Ap s.parts.length cp)).setCell ⟨w.heap.size + 1 + 1, 2, none⟩ (.slice A (n + 1) c)) (by clear hr hst hb hI; unfold execOp; go_simp) ?_
        obtain ⟨X', hX'⟩ : ∃ X', X' = ((X.setCell ⟨w.heap.size + 1 + 1, 0, none⟩ (.slice Ah s.hours.length ch)).setCell ⟨w.heap.size + 1 + 1, 1, none⟩ (.slice Ap s.parts.length cp)).setCell ⟨w.heap.size + 1 + 1, 2, none⟩ (.slice A (n + 1) c) := ⟨_, rfl⟩
        have hk : ∀ k, k ≠ w.heap.size + 1 + 1 → X'.heap[k]? = X.heap[k]? := fun k hk => by rw [hX']; exact set3_heap X hk _ _ _
        have hb' : Below (w.heap.size + 1 + 1) W1 X' := by rw [hX']; exact set3_below hb (Nat.le_refl _) _ _ _
        have hres : X'.heap[w.heap.size + 1 + 1]? = some (.cells #[.slice Ah s.hours.length ch, .slice Ap s.parts.length cp, .slice A (n + 1) c] 26) := by
          rw [hX']
          exact heap_setCell_same _ _ 2 _ _ _ (heap_setCell_same _ _ 1 _ _ _ (heap_setCell_same _ _ 0 _ _ _ hr))
        rw [← hX']
        have ho : ∀ {v : Value} {xs : List Int}, Own W1.heap.size 3 X v xs → Own W1.heap.size 3 X' v xs := fun h => h.same fun g _ hg => hk g (by omega)
        refine ⟨hb', fun k h1 h2 => (hk k h2).trans (hst k h1 h2), fun h => (by cases h), hI.f0, fun h h' => ?_, hI.f2, fun h h' => ?_, hI.f4, hI.f5, hI.f6, hI.f7, fun h h' => ?_, fun h => ?_, fun _ => hres, hI.f11⟩
        · obtain ⟨g, h1, h2, h3⟩ := hI.f1 h h'
          exact ⟨g, h1, h2, (hk g (by omega)).trans h3⟩
        · obtain ⟨A', c', k1, k2⟩ := hI.f3 h h'
          exact ⟨A', c', k1, ho k2⟩
        · obtain ⟨g, h1, h2, h3⟩ := hI.f8 h h'
          exact ⟨g, h1, h2, (hk g (by omega)).trans h3⟩
        · obtain ⟨A', c', k1, k2⟩ := hI.f9 h
          exact ⟨A', c', k1, ho k2⟩
      · have h9 : L 9 = true := done_of hw 9 (by kernel_rfl)
        obtain ⟨A', c', k1, k2⟩ := hI.f9 h9
        have e25 := (hf.new 9 25 rfl h9 (by simp)).trans k1
        refine wp_of_run (v := .slice A' (t.length + 1) c') (w' := X) (by unfold execOp; go_simp) ?_
        exact ⟨hb, hst, hI.res, hI.f0, hI.f1, hI.f2, hI.f3, hI.f4, hI.f5, hI.f6, hI.f7, hI.f8, hI.f9, hI.f10, fun _ => k1.symm⟩
    · intro vs X hI
      obtain ⟨A', c', k1, k2⟩ := hI.f9 rfl
      have k3 := hI.f11 rfl
      rw [k1] at k3
      have hres := hI.f10 rfl
      have hb := hI.bel
      have hst := hI.stay
      have y0 := Lib.hid (cellOf hres 0 (v := .slice Ah s.hours.length ch) rfl)
      have y1 := Lib.hid (cellOf hres 1 (v := .slice Ap s.parts.length cp) rfl)
      have y2 := Lib.hid (cellOf hres 2 (v := .slice A (n + 1) c) rfl)
      have HX : Hid (Own w.heap.size 3 X (.slice A' (t.length + 1) c') (t ++ [(n : Int)])) := Lib.hid (k2.mono (by omega))
      have HAp : Hid (Apart (.slice A (s.orders.length + 1) c) (.slice A' (t.length + 1) c')) := Lib.hid fun b h1 h2 => by
        have e1 := HO.out.blk b h1
        have e2 := (World.ownsRow.lt k2 b h2).1
        omega
      have HbX : Hid (Below w.heap.size w X) := Lib.hid (Hb1.out.trans (hb.mono (by omega)))
      have HOX : Hid (Own W.heap.size 60 X (.slice A (s.orders.length + 1) c) (s.orders ++ [o])) := Lib.hid (HO.out.same fun g hg hge => by
        have := HO.out.blk g hg
        exact hst g this (by omega))
      clear hI hres hb hst k2
      simp [fill, slotOf, Act.put, k3]
      simp only [Exit.inBlock, Exit.then]
      go_wp2
      have y0 := y0.out
      have y1 := y1.out
      have y2 := y2.out
      have hns := hH0.out
      subst hns
      refine bodyPost_ret (v := .tuple #[.agg #[.slice Ah s.hours.length ch, .slice Ap s.parts.length cp, .slice A (s.orders.length + 1) c], .slice A' (t.length + 1) c']) (by simp [results, Try.results40, go_sem, y0, y1, y2]) rfl ?_
      exact ⟨_, _, _, A, c, A', c', rfl, rfl, HOX.out.mono Hb.out.size, HX.out, HAp.out, HbX.out⟩
theorem asked_any {B : Nat} {w : World} {v vt : Value} {s : ShopR} {t : List Int} (hs : RdShop B w v s) (ht : Rd IntAt 1 B w vt t) (hB : B ≤ w.heap.size) (ho8 : s.orders.length ≤ 100) (ht8 : t.length ≤ 100) (o : OrdR) :
    Calls Try.prog 40 #[v, vt, .agg #[.int .i64 o.part, .int .i64 o.many, .int .i64 o.due, .int .i64 o.worth]] w fun e w' => ∃ vh vp vo A c A' c', v = .agg #[vh, vp, vo] ∧
      e = .returned (.tuple #[.agg #[vh, vp, .slice A (s.orders.length + 1) c], .slice A' (t.length + 1) c']) ∧ Own w.heap.size 60 w' (.slice A (s.orders.length + 1) c) (s.orders ++ [o]) ∧
      Rd IntAt 1 w'.heap.size w' (.slice A' (t.length + 1) c') (t ++ [(s.orders.length : Int)]) ∧ Below w.heap.size w w' := by
  refine (asked_own hs ht hB ho8 ht8 o).mono ?_
  rintro e w' ⟨vh, vp, vo, A, c, A', c', h1, h2, h3, h4, _, h5⟩
  have := h4.rd
  exact ⟨vh, vp, vo, A, c, A', c', h1, h2, h3, this, h5⟩
end Go.Proofs.Ytkmaapkbonkjfaa
