/- Walks of the layer order: More and Left of the reference. -/
import Derived.Test.YtkmaapkbonkjfaaRCasts
import Derived.Test.YtkmaapkbonkjfaaAskL
set_option linter.unusedSimpArgs false
set_option linter.unusedVariables false
namespace Go.Proofs.Ytkmaapkbonkjfaa
open Go.RowKit

/-- what holds within More's statement -/
structure MoreI (W : World) (vl : Value) (tb : Nat) (ys : List OrdR) (o : OrdR) (L : Nat → Bool) (vs : Nat → Value) (X : World) : Prop where
  bel : Below W.heap.size W X
  f0 : L 0 = true → L 2 = false → ∃ g, W.heap.size ≤ g ∧ vs 0 = .slice (some ⟨g, 0, none⟩) 0 0 ∧ X.heap[g]? = some (.cells #[] 60)
  f1 : L 1 = true → vs 1 = vl
  f2 : L 2 = true → L 5 = false → ∃ A c, vs 2 = .slice A ys.length c ∧ Own W.heap.size 60 X (.slice A ys.length c) ys
  f3 : L 3 = true → vs 3 = .agg #[.int .i64 o.part, .int .i64 o.many, .int .i64 o.due, .int .i64 o.worth]
  f4 : L 4 = true → L 5 = false → ∃ g, W.heap.size ≤ g ∧ vs 4 = .slice (some ⟨g, 0, none⟩) 1 1 ∧ X.heap[g]? = some (.cells #[.int .i64 o.part, .int .i64 o.many, .int .i64 o.due, .int .i64 o.worth] 60)
  f5 : L 5 = true → ∃ A c, vs 5 = .slice A (ys.length + 1) c ∧ Own W.heap.size 60 X (.slice A (ys.length + 1) c) (ys ++ [o])
  f6 : L 6 = true → vs 6 = vs 5

set_option maxRecDepth 100000 in
set_option maxHeartbeats 1000000 in
theorem more_any {B : Nat} {w : World} {vl : Value} {l : List OrdR} (hl : Rd OrdAt 4 B w vl l) (hB : B ≤ w.heap.size) (hn : l.length ≤ 100) (o : OrdR) :
    Calls Try.prog 67 #[vl, .agg #[.int .i64 o.part, .int .i64 o.many, .int .i64 o.due, .int .i64 o.worth]] w fun e w' => ∃ A c, e = .returned (.slice A (l.length + 1) c) ∧ Own w.heap.size 60 w' (.slice A (l.length + 1) c) (l ++ [o]) ∧ Below w.heap.size w w' := by
  obtain ⟨Al, cl, rfl, _⟩ := id hl
  obtain ⟨W, hW, r, hz, hb⟩ := box_any w #[.int .i64 o.part, .int .i64 o.many, .int .i64 o.due, .int .i64 o.worth] 60
  have HL := Lib.hid (hl.below (hb.mono hB))
  have Hb := Lib.hid hb
  have hBW := Nat.le_trans hB hb.size
  have R0 := Lib.hid (cellOf r 0 (v := .int .i64 o.part) rfl)
  have R1 := Lib.hid (cellOf r 1 (v := .int .i64 o.many) rfl)
  have R2 := Lib.hid (cellOf r 2 (v := .int .i64 o.due) rfl)
  have R3 := Lib.hid (cellOf r 3 (v := .int .i64 o.worth) rfl)
  go_enter Try.func67, Try.ntmps67
  go_upto_region 1 with (fail)
  rw [← hW]
  clear hW r hz hb hl
  refine wp_region_ghost (MoreI W (.slice Al l.length cl) w.heap.size l o) (by kernel_rfl) (by kernel_rfl) ?_ ?_ ?_
  · exact ⟨(Below.refl _ _).drew, fun h => (by cases h), fun h => (by cases h), fun h => (by cases h), fun h => (by cases h), fun h => (by cases h), fun h => (by cases h), fun h => (by cases h)⟩
  · refine ⟨?_, ?_, ?_, ?_, ?_, ?_, ?_, trivial⟩
    all_goals
      intro L vs X b hL hw hcl hI hf
      have hb := hI.bel
    · have n2 : L 2 = false := not_yet hcl 2 hL rfl (by kernel_rfl)
      have n5 : L 5 = false := not_yet hcl 5 n2 rfl (by kernel_rfl)
      have n6 : L 6 = false := not_yet hcl 6 n5 rfl (by kernel_rfl)
      refine wp_of_run (v := .slice (some ⟨X.heap.size, 0, none⟩) 0 0) (w' := X.alloc (.cells #[] 60)) (by unfold execOp; go_simp) ?_
      refine ⟨hb.alloc hb.size _, fun _ _ => ⟨_, hb.size, rfl, heap_alloc_new _ _⟩, hI.f1, fun h => absurd (n2.symm.trans h) (by simp), hI.f3, fun h h' => ?_, fun h => absurd (n5.symm.trans h) (by simp), fun h => absurd (n6.symm.trans h) (by simp)⟩
      obtain ⟨g, h1, h2, h3⟩ := hI.f4 h h'
      exact ⟨g, h1, h2, (Below.heap_alloc _ _ _ (lt_of_block h3)).trans h3⟩
    · have e0 := hf.old 0 (by kernel_rfl)
      refine wp_of_run (v := .slice Al l.length cl) (w' := X) (by unfold execOp; go_simp) ?_
      exact ⟨hb, hI.f0, fun _ => rfl, hI.f2, hI.f3, hI.f4, hI.f5, hI.f6⟩
    · have n5 : L 5 = false := not_yet hcl 5 hL rfl (by kernel_rfl)
      have n6 : L 6 = false := not_yet hcl 6 n5 rfl (by kernel_rfl)
      have h0 : L 0 = true := done_of hw 0 (by kernel_rfl)
      have h1 : L 1 = true := done_of hw 1 (by kernel_rfl)
      obtain ⟨g, hg1, hg2, hg3⟩ := hI.f0 h0 hL
      have e5 := (hf.new 0 5 rfl h0 (by simp)).trans hg2
      have e6 := (hf.new 1 6 rfl h1 (by simp)).trans (hI.f1 h1)
      obtain ⟨v', w', hrun, A, c, g', rfl, hown, hb', hgg, hgr⟩ := ask1 hb HL.out hBW hg3 hg1 hn
      refine wp_append_run (.tmp 5) (.tmp 6) 24 rfl (by unfold Act.eval; simpa using e5) (by unfold Act.eval; simpa using e6) hrun ⟨_, rfl, ?_⟩
      refine ⟨hb', fun _ h => (by cases h), hI.f1, fun _ _ => ⟨A, c, rfl, hown⟩, hI.f3, fun h h' => ?_, fun h => absurd (n5.symm.trans h) (by simp), fun h => absurd (n6.symm.trans h) (by simp)⟩
      obtain ⟨g5, k1, k2, k3⟩ := hI.f4 h h'
      exact ⟨g5, k1, k2, row_kept hgg rfl hgr k3 (by simp)⟩
    · have e3 := hf.old 3 (by kernel_rfl)
      have r0 := (hb.cell (cell_lt R0.out)).trans R0.out
      have r1 := (hb.cell (cell_lt R1.out)).trans R1.out
      have r2 := (hb.cell (cell_lt R2.out)).trans R2.out
      have r3 := (hb.cell (cell_lt R3.out)).trans R3.out
      refine wp_of_run (v := .agg #[.int .i64 o.part, .int .i64 o.many, .int .i64 o.due, .int .i64 o.worth]) (w' := X) (by unfold execOp; go_simp) ?_
      exact ⟨hb, hI.f0, hI.f1, hI.f2, fun _ => rfl, hI.f4, hI.f5, hI.f6⟩
    · have n5 : L 5 = false := not_yet hcl 5 hL rfl (by kernel_rfl)
      have n6 : L 6 = false := not_yet hcl 6 n5 rfl (by kernel_rfl)
      have h3 : L 3 = true := done_of hw 3 (by kernel_rfl)
      have e8 := (hf.new 3 8 rfl h3 (by simp)).trans (hI.f3 h3)
      refine wp_of_run (v := .slice (some ⟨X.heap.size, 0, none⟩) 1 1) (w' := X.alloc (.cells #[.int .i64 o.part, .int .i64 o.many, .int .i64 o.due, .int .i64 o.worth] 60)) (by unfold execOp; go_simp) ?_
      refine ⟨hb.alloc hb.size _, fun h h' => ?_, hI.f1, fun h h' => ?_, hI.f3, fun _ _ => ⟨_, hb.size, rfl, heap_alloc_new _ _⟩, fun h => absurd (n5.symm.trans h) (by simp), fun h => absurd (n6.symm.trans h) (by simp)⟩
      · obtain ⟨g, k1, k2, k3⟩ := hI.f0 h h'
        exact ⟨g, k1, k2, (Below.heap_alloc _ _ _ (lt_of_block k3)).trans k3⟩
      · obtain ⟨A, c, k1, k2⟩ := hI.f2 h h'
        exact ⟨A, c, k1, k2.alloc _⟩
    · have n6 : L 6 = false := not_yet hcl 6 hL rfl (by kernel_rfl)
      have h2 : L 2 = true := done_of hw 2 (by kernel_rfl)
      have h4 : L 4 = true := done_of hw 4 (by kernel_rfl)
      obtain ⟨A, n, k1, k2⟩ := hI.f2 h2 hL
      obtain ⟨g, q1, q2, q3⟩ := hI.f4 h4 hL
      have e7 := (hf.new 2 7 rfl h2 (by simp)).trans k1
      have e9 := (hf.new 4 9 rfl h4 (by simp)).trans q2
      obtain ⟨v', w', hrun, A2, c2, rfl, hown, hb'⟩ := ask2 hb k2 q3 hn
      refine wp_append_run (.tmp 7) (.tmp 9) 24 rfl (by unfold Act.eval; simpa using e7) (by unfold Act.eval; simpa using e9) hrun ⟨_, rfl, ?_⟩
      exact ⟨hb', fun _ h => absurd (h2.symm.trans h) (by simp), hI.f1, fun _ h => (by cases h), hI.f3, fun _ h => (by cases h), fun _ => ⟨A2, c2, rfl, hown⟩, fun h => absurd (n6.symm.trans h) (by simp)⟩
    · have h5 : L 5 = true := done_of hw 5 (by kernel_rfl)
      obtain ⟨A, c, k1, k2⟩ := hI.f5 h5
      have e10 := (hf.new 5 10 rfl h5 (by simp)).trans k1
      refine wp_of_run (v := .slice A (l.length + 1) c) (w' := X) (by unfold execOp; go_simp) ?_
      exact ⟨hb, hI.f0, hI.f1, hI.f2, hI.f3, hI.f4, hI.f5, fun _ => k1.symm⟩
  · intro vs X hI
    obtain ⟨A, c, k1, k2⟩ := hI.f5 rfl
    have k3 := (hI.f6 rfl).trans k1
    have HX := Lib.hid k2
    have HbX := Lib.hid (Hb.out.trans (hI.bel.mono Hb.out.size))
    clear hI k2
    simp [fill, slotOf, Act.put, k3]
    simp only [Exit.inBlock, Exit.then]
    go_wp2
    go_ret
    exact ⟨A, c, rfl, HX.out.mono Hb.out.size, HbX.out⟩

theorem cntTo_snoc (xs : List (Int × Int)) (x : Int × Int) (part day : Int) : cntTo (xs ++ [x]) part day = cntTo xs part day + if x.1 = part ∧ x.2 ≤ day then 1 else 0 := by
  unfold cntTo
  rw [List.filter_append]
  by_cases h : x.1 = part <;> by_cases h2 : x.2 ≤ day <;> simp [h, h2]
theorem cntTo_len (xs : List (Int × Int)) (part day : Int) : cntTo xs part day ≤ xs.length := by
  unfold cntTo
  have := List.length_filter_le (fun x : Int × Int => x.1 == part && decide (x.2 ≤ day)) xs
  omega
set_option maxRecDepth 100000 in
set_option maxHeartbeats 1000000 in
theorem left_any {B : Nat} {w : World} {v vl vc : Value} {s : ShopR} {l : List OrdR} {cs : List (Int × Int)} (hs : RdShop B w v s) (hl : Rd OrdAt 4 B w vl l) (hcs : Rd CastAt 2 B w vc cs) (hg : Good s) (hf : Fit s l) (hn : cs.length ≤ 1350) (hB : B ≤ w.heap.size) (i : Nat) (hi : i < s.parts.length) (day : Int) :
    Calls Try.prog 64 #[v, vl, vc, .int .i64 i, .int .i64 day] w fun e w' => e = .returned (.int .i64 (leftF s l cs i day)) ∧ Below w.heap.size w w' := by
  obtain ⟨vh, vp, vo, rfl, ⟨Ah, ch, rfl, _⟩, hpp, ⟨Ao, co, rfl, _⟩⟩ := id hs
  obtain ⟨Ap, cp, rfl, _⟩ := id hpp
  obtain ⟨Al, cl, rfl, _⟩ := id hl
  obtain ⟨Ac, cc, rfl, _⟩ := id hcs
  obtain ⟨W, hW, c0, c1, c2, hz, hb, _⟩ := shop_box w (.slice Ah s.hours.length ch) (.slice Ap s.parts.length cp) (.slice Ao s.orders.length co)
  obtain ⟨ap, rfl, _, p0, p1, p2, p3⟩ := (hpp.below (hb.mono hB)).part hi
  have HL := Lib.hid (hl.below (hb.mono hB))
  have HC := Lib.hid (hcs.below (hb.mono hB))
  have Hb := Lib.hid hb
  have hpo := hg.part hi
  have hst := hpo.stock
  have hbt := hpo.batch
  have hdb := hf.due_bd i day
  have Hf := Lib.hid hf
  have hle : leftF s l cs i day = (s.parts[i]?.getD default).stock - due l i day + (s.parts[i]?.getD default).batch * cntTo (cs.take cs.length) i day := by rw [left_eq, List.take_of_length_le (Nat.le_refl _), List.getD_eq_getElem?_getD]
  rw [hle]
  rw [List.getD_eq_getElem?_getD] at hst hbt
  have Hcb : Hid (∀ k, 0 ≤ (s.parts[i]?.getD default).batch * cntTo (cs.take k) i day ∧ (s.parts[i]?.getD default).batch * cntTo (cs.take k) i day ≤ 13500) := Lib.hid fun k => by
    have h1 := cntTo_len (cs.take k) i day
    have h2 := cntTo_nn (cs.take k) i day
    rw [List.length_take] at h1
    have h4 := Int.mul_le_mul hbt.2 (show cntTo (cs.take k) i day ≤ 1350 by omega) h2 (by omega)
    exact ⟨Int.mul_nonneg (by omega) h2, by omega⟩
  clear hs hl hcs hg hf hpp hz hb p0 p2 hpo hle
  generalize (s.parts[i]?.getD default).stock = st at *
  generalize (s.parts[i]?.getD default).batch = ba at *
  generalize hdu : due l i day = du at *
  have hde := due_any (B := B) (w := W) i day HL.out Hf.out.len Hf.out.many
  rw [hdu] at hde
  have Hde := Lib.hid (fun n => due_any (B := B) (w := W.drewN n) i day (HL.out.qt ⟨n, rfl⟩) Hf.out.len Hf.out.many)
  rw [hdu] at Hde
  clear hde hdu
  go_enter Try.func64, Try.ntmps64
  go_upto_region 1 with (fail)
  rw [← hW]
  clear hW
  go_quiet ((go_at_call 84; exact Calls.quiet_of_same (Hde.out _)))
  obtain ⟨Wq, hWq⟩ : ∃ Wq, Wq = W.drewN nq := ⟨_, rfl⟩
  have c1 : Wq.cell? ⟨w.heap.size, 1, none⟩ = some (.slice (some ap) s.parts.length cp) := by rw [hWq]; exact c1
  have p1 : Wq.cell? ⟨(ap.add (i * 4)).block, (ap.add (i * 4)).off + 1, none⟩ = some (.int .i64 ba) := by rw [hWq]; exact p1
  have HC : Hid (Rd CastAt 2 B Wq (.slice Ac cs.length cc) cs) := Lib.hid (by rw [hWq]; exact HC.out.qt ⟨nq, rfl⟩)
  have Hb : Hid (Below w.heap.size w Wq) := Lib.hid (by rw [hWq]; exact below_drewN Hb.out nq)
  rw [← hWq]
  clear hWq Hde HL p3 c0 c2
  go_wp2
  go_loop [11, 12] (fun nv kv => ∃ k : Nat, k ≤ cs.length ∧ kv = .int .i64 k ∧ nv = .int .i64 (st - du + ba * cntTo (cs.take k) i day)) (fun _ kv => cs.length - (intOf kv).toNat)
  case atStart => exact ⟨0, Nat.zero_le _, rfl, by simp [cntTo]⟩
  case round =>
    obtain ⟨k, hk, rfl, rfl⟩ := hrel
    by_cases hkl : k < cs.length
    · obtain ⟨ac, rfl, _, k0, k1⟩ := HC.out.cast hkl
      have hsn : cntTo (cs.take (k + 1)) i day = cntTo (cs.take k) i day + if (cs[k]?.getD default).1 = i ∧ (cs[k]?.getD default).2 ≤ day then 1 else 0 := by
        rw [List.take_add_one, List.getElem?_eq_getElem hkl, Option.toList_some, cntTo_snoc]; rfl
      have hcb := Hcb.out k
      have hcb1 := Hcb.out (k + 1)
      rw [hsn] at hcb1
      have Hsn := Lib.hid hsn
      clear hsn
      generalize cs[k]?.getD default = x at *
      obtain ⟨x1, x2⟩ := x
      simp only at k0 k1 Hsn hcb1
      generalize cntTo (cs.take k) i day = ca at *
      by_cases h1 : x1 = i
      · have h1b : (x1 == (i : Int)) = true := by simp [h1]
        by_cases h2 : x2 ≤ day
        · have h2b : decide (x2 ≤ day) = true := decide_eq_true h2
          rw [if_pos ⟨h1, h2⟩] at Hsn hcb1
          clear h1 h2
          go_wp2
          go_round
          case rel => exact ⟨k + 1, by omega, by go_num, by rw [Hsn.out, Int.mul_add]; go_num⟩
          case measure => simp [intOf]; omega
        · have h2b : decide (x2 ≤ day) = false := decide_eq_false h2
          rw [if_neg (fun h => h2 h.2), Int.add_zero] at Hsn
          clear h1 h2 hcb1
          go_wp2
          go_round
          case rel => exact ⟨k + 1, by omega, by go_num, by rw [Hsn.out]⟩
          case measure => simp [intOf]; omega
      · have h1b : (x1 == (i : Int)) = false := beq_false_of_ne h1
        rw [if_neg (fun h => h1 h.1), Int.add_zero] at Hsn
        clear h1 hcb1
        go_wp2
        go_round
        case rel => exact ⟨k + 1, by omega, by go_num, by rw [Hsn.out]⟩
        case measure => simp [intOf]; omega
    · have hke : k = cs.length := by omega
      subst hke
      go_wp2
      go_ret
      exact ⟨rfl, Hb.out⟩
end Go.Proofs.Ytkmaapkbonkjfaa
