/- Walks of the layer order: OrderKept: words, the head. -/
import Derived.Test.YtkmaapkbonkjfaaLawF
import Derived.Test.YtkmaapkbonkjfaaGhost
set_option linter.unusedSimpArgs false
set_option linter.unusedVariables false
namespace Go.Proofs.Ytkmaapkbonkjfaa
open Go.RowKit

/-- an operation that calls -/
theorem wp_of_call {P : Program} {Q : Exit → Act → World → Prop} {o : Oper} {a : Act} {w : World} {K : Value → World → Prop} {f : FuncId} {args : Array Value} (hr : (execOp a.eval o).run P w = .ok (.enter f args) w)
    (h : Calls P f args w fun e w' => ∃ v, e = .returned v ∧ K v w') : o.wp P a w (fun a' w' => ∃ v, a' = a.put o.dst v ∧ K v w') Q := by
  unfold Oper.wp
  rw [hr]
  refine Calls.mono h ?_
  rintro e w' ⟨v, rfl, hk⟩
  exact ⟨v, rfl, hk⟩

/-- what is kept in the morning of day d -/
def thereK (s : ShopR) (l : List OrdR) (i d : Nat) : Int := if d = 0 then (s.parts.getD i default).stock else leftF s l (castsL s l) i ((d - 1 : Nat) : Int)
theorem thereK_next {s : ShopR} {l : List OrdR} (hg : Good s) (hf : Fit s l) (hc : canB s l = true) (i d : Nat) : leftF s l (castsL s l) i (d : Int) = thereK s l i d + (s.parts.getD i default).batch * cntAt (castsL s l) i d - due0 l i d := by
  have hx : ∀ x ∈ castsL s l, 0 ≤ x.2 := fun x hx => (casts_mem hg hf hc hx).1
  have hl : ∀ o ∈ l, 0 ≤ o.due := fun o ho => (hf.all o ho).due.1
  unfold thereK
  rw [left_eq]
  cases d with
  | zero =>
    have h1 := cntTo_zero (castsL s l) (i : Int) hx
    have h2 := due0_split l (i : Int) 0
    have h3 := due_neg hl (i : Int)
    rw [show (0 : Int) - 1 = -1 from rfl, h3] at h2
    rw [if_pos rfl]
    simp only [Int.natCast_zero] at h1 h2 ⊢
    rw [h1, h2]
    omega
  | succ d =>
    have h1 := cntTo_step (castsL s l) (i : Int) d
    have h2 := due0_split l (i : Int) ((d + 1 : Nat) : Int)
    rw [show ((d + 1 : Nat) : Int) - 1 = (d : Int) by omega] at h2
    rw [if_neg (by omega), left_eq, h1, h2, Int.mul_add, show ((d + 1 - 1 : Nat) : Int) = (d : Int) by omega]
    omega
theorem thereK_succ (s : ShopR) (l : List OrdR) (i d : Nat) : thereK s l i (d + 1) = leftF s l (castsL s l) i (d : Int) := by
  unfold thereK
  rw [if_neg (by omega), show ((d + 1 - 1 : Nat) : Int) = (d : Int) by omega]
theorem keptL_at {s : ShopR} {l : List OrdR} {i d : Nat} (hd : d < s.hours.length) : (keptL s l i)[d]?.getD 0 = leftF s l (castsL s l) i (d : Int) := by
  unfold keptL
  rw [List.getElem?_map, List.getElem?_range hd]; rfl
theorem keptL_len (s : ShopR) (l : List OrdR) (i : Nat) : (keptL s l i).length = s.hours.length := by simp [keptL]

/-- what holds within the statement that chooses orders and a part -/
structure Kept4 (W : World) (tb : Nat) (vs_ vp : Value) (x y np pt : Nat) (t : List Int) (L : Nat → Bool) (vs : Nat → Value) (X : World) : Prop where
  bel : Below W.heap.size W X
  f0 : L 0 = true → vs 0 = vs_
  f1 : L 1 = true → vs 1 = .int .u8 x
  f2 : L 2 = true → ∃ A c, vs 2 = .slice A t.length c ∧ Rd IntAt 1 X.heap.size X (.slice A t.length c) t
  f3 : L 3 = true → vs 3 = .int .u8 y
  f4 : L 4 = true → vs 4 = .int .i64 y
  f5 : L 5 = true → vs 5 = .pointer (some ⟨tb, 1, none⟩)
  f6 : L 6 = true → vs 6 = vp
  f7 : L 7 = true → vs 7 = .int .i64 np
  f8 : L 8 = true → vs 8 = .int .i64 pt
  f9 : L 9 = true → vs 9 = vs 2
  f10 : L 10 = true → vs 10 = .int .i64 pt

/-- what holds within the statement that takes an order out of the shop -/
structure Kept33 (W : World) (tb : Nat) (vo vt : Value) (k q : Nat) (at_ ao : Addr) (o : OrdR) (L : Nat → Bool) (vs : Nat → Value) (X : World) : Prop where
  w0 : L 8 = false → X = W.drew
  w1 : L 8 = true → L 9 = false → X = W.drew.alloc (.cells #[.int .i64 0, .int .i64 0, .int .i64 0, .int .i64 0] 60)
  w2 : L 9 = true → X.heap[W.heap.size]? = some (.cells #[.int .i64 o.part, .int .i64 o.many, .int .i64 o.due, .int .i64 o.worth] 60) ∧ Below W.heap.size W X
  f0 : L 0 = true → vs 0 = .pointer (some ⟨tb, 2, none⟩)
  f1 : L 1 = true → vs 1 = vo
  f2 : L 2 = true → vs 2 = vt
  f3 : L 3 = true → vs 3 = .int .i64 k
  f4 : L 4 = true → vs 4 = .pointer (some at_)
  f5 : L 5 = true → vs 5 = .int .i64 q
  f6 : L 6 = true → vs 6 = .pointer (some ao)
  f7 : L 7 = true → vs 7 = .agg #[.int .i64 o.part, .int .i64 o.many, .int .i64 o.due, .int .i64 o.worth]
  f8 : L 8 = true → vs 8 = .pointer (some ⟨W.heap.size, 0, none⟩)

theorem worked_int {B : Nat} {w : World} {v : Value} {s : ShopR} (hs : RdShop B w v s) (hg : Good s) (d : Nat) (hd : d < s.hours.length) (hB : B ≤ w.heap.size) (z : Int) (hz : z = d) :
    Calls Try.prog 39 #[v, .int .i64 z] w fun e w' => e = .returned (.int .i64 (worked s d)) ∧ Below w.heap.size w w' := by subst hz; exact worked_any hs hg d hd hB
/-- all that the law reads -/
structure KpS (w0 : World) (B tb : Nat) (vh vp vo vt vc vk : Value) (s : ShopR) (t : List Int) (cs : List (Int × Int)) (ks : List Int) (X : World) : Prop where
  sh : ShS w0 B tb vh vp vo s X
  tk : Rd IntAt 1 X.heap.size X vt t
  cs : Rd CastAt 2 X.heap.size X vc cs
  ks : Rd IntAt 1 X.heap.size X vk ks
theorem KpS.next {w0 : World} {B tb : Nat} {vh vp vo vt vc vk : Value} {s : ShopR} {t : List Int} {cs : List (Int × Int)} {ks : List Int} {X X' : World} (h : KpS w0 B tb vh vp vo vt vc vk s t cs ks X) (hb : Below X.heap.size X X') : KpS w0 B tb vh vp vo vt vc vk s t cs ks X' :=
  ⟨h.sh.next hb, (h.tk.below hb).mono hb.size, (h.cs.below hb).mono hb.size, (h.ks.below hb).mono hb.size⟩

set_option maxRecDepth 100000 in
set_option maxHeartbeats 4000000 in
theorem kept_walk {B : Nat} {w : World} {v : Value} {s : ShopR} (hs : RdShop B w v s) (hn : ∀ p ∈ s.parts, p.name.size ≤ 9223372036854775807) (hB : B ≤ w.heap.size) (x y : Nat) (hx : x < 256) (hy : y < 256) :
    Calls Try.prog 7 #[v, .int .u8 x, .int .u8 y] w fun e w' => e = .returned (.bool true) ∧ Below w.heap.size w w' := by
  obtain ⟨vh, vp, vo, rfl, ⟨Ah, ch, rfl, _⟩, ⟨Ap, cp, rfl, _⟩, ⟨Ao, co, rfl, _⟩⟩ := id hs
  obtain ⟨W, hW⟩ : ∃ W, W = w.alloc (.cells #[.slice Ah s.hours.length ch, .slice Ap s.parts.length cp, .slice Ao s.orders.length co] 26) := ⟨_, rfl⟩
  have HS := Lib.hid (ShS.start hs hn hB)
  rw [← hW] at HS
  clear hs hn hB
  go_enter Try.func7, Try.ntmps7
  go_upto_region 1 with (fail)
  rw [← hW]
  clear hW
  obtain ⟨c0, c1, c2⟩ := HS.out.cells
  by_cases he : errOf s = 0
  · have heb : (errOf s == 0) = true := by simpa using he
    have hg := good_of_valid he
    have hpl := hg.plen
    go_upto_region 4 with (go_at_call 36; refine (valid_any HS.out.shop HS.out.nm HS.out.hB).mono ?_; rintro e w1 ⟨rfl, hb⟩; have HS := Lib.hid (HS.out.next hb); clear hb c0 c1 c2)
    have Hg := Lib.hid hg
    have He := Lib.hid he
    clear hg he
    obtain ⟨pt, hpt, hptl⟩ : ∃ pt : Nat, (y : Int) % (s.parts.length : Int) = pt ∧ pt < s.parts.length := ⟨y % s.parts.length, by omega, Nat.mod_lt _ (by omega)⟩
    have Hpt := Lib.hid hpt
    clear hpt
    obtain ⟨t, ht⟩ : ∃ t, t = upTo x s.orders.length := ⟨_, rfl⟩
    refine wp_region_ghost (Kept4 w1 w.heap.size (.agg #[.slice Ah s.hours.length ch, .slice Ap s.parts.length cp, .slice Ao s.orders.length co]) (.slice Ap s.parts.length cp) x y s.parts.length pt t) (by kernel_rfl) (by kernel_rfl) ?_ ?_ ?_
    · exact ⟨(Below.refl _ _).drew, fun h => (by cases h), fun h => (by cases h), fun h => (by cases h), fun h => (by cases h), fun h => (by cases h), fun h => (by cases h), fun h => (by cases h), fun h => (by cases h), fun h => (by cases h), fun h => (by cases h), fun h => (by cases h)⟩
    · refine ⟨?_, ?_, ?_, ?_, ?_, ?_, ?_, ?_, ?_, ?_, ?_, trivial⟩
      all_goals
        intro L vs X b hL hw hcl hI hf
        have HX := Lib.hid (HS.out.next hI.bel)
        obtain ⟨x0, x1, x2⟩ := HX.out.cells
      · have e3 := hf.old 3 (by kernel_rfl)
        refine wp_of_run (v := .agg #[.slice Ah s.hours.length ch, .slice Ap s.parts.length cp, .slice Ao s.orders.length co]) (w' := X) (by unfold execOp; go_simp) ?_
        exact ⟨hI.bel, fun _ => rfl, hI.f1, hI.f2, hI.f3, hI.f4, hI.f5, hI.f6, hI.f7, hI.f8, hI.f9, hI.f10⟩
      · have e1 := hf.old 1 (by kernel_rfl)
        refine wp_of_run (v := .int .u8 x) (w' := X) (by unfold execOp; go_simp) ?_
        exact ⟨hI.bel, hI.f0, fun _ => rfl, hI.f2, hI.f3, hI.f4, hI.f5, hI.f6, hI.f7, hI.f8, hI.f9, hI.f10⟩
      · have n9 : L 9 = false := not_yet hcl 9 hL rfl (by kernel_rfl)
        have h0 : L 0 = true := done_of hw 0 (by kernel_rfl)
        have h1 : L 1 = true := done_of hw 1 (by kernel_rfl)
        have e38 := (hf.new 0 38 rfl h0 (by simp)).trans (hI.f0 h0)
        have e39 := (hf.new 1 39 rfl h1 (by simp)).trans (hI.f1 h1)
        refine wp_of_call (f := 37) (args := #[.agg #[.slice Ah s.hours.length ch, .slice Ap s.parts.length cp, .slice Ao s.orders.length co], .int .u8 x]) (by unfold execOp; go_simp) ?_
        refine (chosen_any HX.out.shop HX.out.hB x hx).mono ?_
        rintro e wz ⟨A, c, rfl, hr, hb⟩
        rw [← ht] at hr ⊢
        exact ⟨_, rfl, hI.bel.trans (hb.mono hI.bel.size), hI.f0, hI.f1, fun _ => ⟨A, c, rfl, hr⟩, hI.f3, hI.f4, hI.f5, hI.f6, hI.f7, hI.f8, fun h => absurd (n9.symm.trans h) (by simp), hI.f10⟩
      · have e2 := hf.old 2 (by kernel_rfl)
        refine wp_of_run (v := .int .u8 y) (w' := X) (by unfold execOp; go_simp) ?_
        exact ⟨hI.bel, hI.f0, hI.f1, hI.f2, fun _ => rfl, hI.f4, hI.f5, hI.f6, hI.f7, hI.f8, hI.f9, hI.f10⟩
      · have h3 : L 3 = true := done_of hw 3 (by kernel_rfl)
        have e41 := (hf.new 3 41 rfl h3 (by simp)).trans (hI.f3 h3)
        have hwy : IntKind.i64.wrap (y : Int) = y := IntWalk.i64_in _ (by omega)
        refine wp_of_run (v := .int .i64 y) (w' := X) (by unfold execOp; go_simp) ?_
        exact ⟨hI.bel, hI.f0, hI.f1, hI.f2, hI.f3, fun _ => rfl, hI.f5, hI.f6, hI.f7, hI.f8, hI.f9, hI.f10⟩
      · have e3 := hf.old 3 (by kernel_rfl)
        refine wp_of_run (v := .pointer (some ⟨w.heap.size, 1, none⟩)) (w' := X) (by unfold execOp; go_simp) ?_
        exact ⟨hI.bel, hI.f0, hI.f1, hI.f2, hI.f3, hI.f4, fun _ => rfl, hI.f6, hI.f7, hI.f8, hI.f9, hI.f10⟩
      · have h5 : L 5 = true := done_of hw 5 (by kernel_rfl)
        have e43 := (hf.new 5 43 rfl h5 (by simp)).trans (hI.f5 h5)
        refine wp_of_run (v := .slice Ap s.parts.length cp) (w' := X) (by unfold execOp; go_simp) ?_
        exact ⟨hI.bel, hI.f0, hI.f1, hI.f2, hI.f3, hI.f4, hI.f5, fun _ => rfl, hI.f7, hI.f8, hI.f9, hI.f10⟩
      · have h6 : L 6 = true := done_of hw 6 (by kernel_rfl)
        have e44 := (hf.new 6 44 rfl h6 (by simp)).trans (hI.f6 h6)
        refine wp_of_run (v := .int .i64 s.parts.length) (w' := X) (by unfold execOp; go_simp) ?_
        exact ⟨hI.bel, hI.f0, hI.f1, hI.f2, hI.f3, hI.f4, hI.f5, hI.f6, fun _ => rfl, hI.f8, hI.f9, hI.f10⟩
      · have h4 : L 4 = true := done_of hw 4 (by kernel_rfl)
        have h7 : L 7 = true := done_of hw 7 (by kernel_rfl)
        have e42 := (hf.new 4 42 rfl h4 (by simp)).trans (hI.f4 h4)
        have e45 := (hf.new 7 45 rfl h7 (by simp)).trans (hI.f7 h7)
        have hpos : 0 < s.parts.length := by omega
        have hnil : ¬ s.parts = [] := fun e => by rw [e] at hpos; simp at hpos
        have hpt := Hpt.out
        have htm : (y : Int).tmod s.parts.length = pt := by rw [Int.tmod_eq_emod_of_nonneg (by omega)]; exact hpt
        have hwp : IntKind.i64.wrap (pt : Int) = pt := IntWalk.i64_in _ (by omega)
        clear hpt
        refine wp_of_run (v := .int .i64 pt) (w' := X) (by unfold execOp; go_simp) ?_
        exact ⟨hI.bel, hI.f0, hI.f1, hI.f2, hI.f3, hI.f4, hI.f5, hI.f6, hI.f7, fun _ => rfl, hI.f9, hI.f10⟩
      · have h2 : L 2 = true := done_of hw 2 (by kernel_rfl)
        obtain ⟨A, c, k1, k2⟩ := hI.f2 h2
        have e40 := (hf.new 2 40 rfl h2 (by simp)).trans k1
        refine wp_of_run (v := .slice A t.length c) (w' := X) (by unfold execOp; go_simp) ?_
        exact ⟨hI.bel, hI.f0, hI.f1, hI.f2, hI.f3, hI.f4, hI.f5, hI.f6, hI.f7, hI.f8, fun _ => k1.symm, hI.f10⟩
      · have h8 : L 8 = true := done_of hw 8 (by kernel_rfl)
        have e46 := (hf.new 8 46 rfl h8 (by simp)).trans (hI.f8 h8)
        refine wp_of_run (v := .int .i64 pt) (w' := X) (by unfold execOp; go_simp) ?_
        exact ⟨hI.bel, hI.f0, hI.f1, hI.f2, hI.f3, hI.f4, hI.f5, hI.f6, hI.f7, hI.f8, hI.f9, fun _ => rfl⟩
    · intro vs X hI
      obtain ⟨A1, n1, k1, k2⟩ := hI.f2 rfl
      have k9 := (hI.f9 rfl).trans k1
      have k10 := hI.f10 rfl
      have HS := Lib.hid (HS.out.next hI.bel)
      have HT := Lib.hid k2
      clear hI k1 k2
      generalize vs 0 = u0
      generalize vs 1 = u1
      generalize vs 2 = u2
      generalize vs 3 = u3
      generalize vs 4 = u4
      generalize vs 5 = u5
      generalize vs 6 = u6
      generalize vs 7 = u7
      generalize vs 8 = u8
      simp [fill, slotOf, Act.put, k9, k10]
      simp only [Exit.inBlock, Exit.then]
      have Htl := Lib.hid (show t.length ≤ 8 by rw [ht]; exact upTo_short x s.orders.length hx)
      have Hte : Hid (takenErr s t = 0) := Lib.hid (by rw [ht, pick_upTo]; exact taken_pick He.out _)
      clear k9 k10 ht
      obtain ⟨_, _, hf0, _⟩ := fit_of Hte.out
      have Hf := Lib.hid hf0
      clear hf0
      have HpP := Lib.hid (fun (W : World) (h : Given W.heap.size W (.agg #[.slice Ah s.hours.length ch, .slice Ap s.parts.length cp, .slice Ao s.orders.length co]) (.slice A1 t.length n1) s t) => pplan_from h)
      have HpK := Lib.hid (fun (W : World) (h : Given W.heap.size W (.agg #[.slice Ah s.hours.length ch, .slice Ap s.parts.length cp, .slice Ao s.orders.length co]) (.slice A1 t.length n1) s t) => pkept_any h (pt : Int))
      have Hcan := Lib.hid (canV_of Hte.out)
      unfold PlanF at HpP
      unfold KeptR at HpK
      have hin : inB (pt : Int) 0 (s.parts.length - 1) = true := by rw [inB_iff]; omega
      obtain ⟨c0, c1, c2⟩ := HS.out.cells
      cases hcb : canB s (ofL s t) with
      | false =>
        have e1 : planF s t = ([], 9) := by unfold planF; rw [if_neg (by simp [Hte.out]), hcb]; rfl
        have e2 : keptF s t pt = ([], 9) := by unfold keptF; rw [if_neg (by simp [Hte.out]), if_neg (by simp [hin]), hcb]; rfl
        rw [e1] at HpP
        rw [e2] at HpK
        rw [hcb] at Hcan
        clear e1 e2 hcb hin
        go_wp2_with (first | (go_at_call 24; refine (HpP.out _ (HS.out.given HT.out)).mono ?_; rintro e w4 ⟨A3, n3, rfl, hr, _, hb⟩; have HS := Lib.hid (HS.out.next hb); have HT := Lib.hid ((HT.out.below hb).mono hb.size); clear hr hb c0 c1 c2; obtain ⟨c0, c1, c2⟩ := HS.out.cells) | (go_at_call 27; refine (HpK.out _ (HS.out.given HT.out)).mono ?_; rintro e w4 ⟨A3, n3, rfl, hr, hb⟩; have HS := Lib.hid (HS.out.next hb); have HT := Lib.hid ((HT.out.below hb).mono hb.size); clear hr hb c0 c1 c2; obtain ⟨c0, c1, c2⟩ := HS.out.cells) | (go_at_call 38; refine (lcan_any (HS.out.given HT.out)).mono ?_; rw [Hcan.out]; rintro e w4 ⟨rfl, hb⟩; have HS := Lib.hid (HS.out.next hb); clear hb c0 c1 c2; obtain ⟨c0, c1, c2⟩ := HS.out.cells) | (go_at_call 23; refine (awake_any _).mono ?_; rintro e w5 ⟨rfl, hb⟩; have HS := Lib.hid (HS.out.next hb); clear hb))
        go_ret
        exact ⟨rfl, HS.out.below⟩
      | true =>
        have e1 : planF s t = (castsL s (ofL s t), 0) := by unfold planF; rw [if_neg (by simp [Hte.out]), hcb]; rfl
        have e2 : keptF s t pt = (keptL s (ofL s t) pt, 0) := by unfold keptF; rw [if_neg (by simp [Hte.out]), if_neg (by simp [hin]), hcb, Int.toNat_natCast]; rfl
        rw [e1] at HpP
        rw [e2] at HpK
        rw [hcb] at Hcan
        have Hc := Lib.hid hcb
        have hkl := keptL_len s (ofL s t) pt
        simp only [hkl] at HpK
        clear e1 e2 hcb hin hkl
        go_upto_region 6 with (go_at_call 24; refine (HpP.out _ (HS.out.given HT.out)).mono ?_; rintro e w4 ⟨A3, n3, rfl, hr, _, hb⟩; have HS := Lib.hid (HS.out.next hb); have HT := Lib.hid ((HT.out.below hb).mono hb.size); have HC := Lib.hid hr; clear hr hb c0 c1 c2; obtain ⟨c0, c1, c2⟩ := HS.out.cells)
        go_upto_region 7 with (go_at_call 27; refine (HpK.out _ (HS.out.given HT.out)).mono ?_; rintro e w4 ⟨A4, n4, rfl, hr, hb⟩; have HS := Lib.hid (HS.out.next hb); have HT := Lib.hid ((HT.out.below hb).mono hb.size); have HC := Lib.hid ((HC.out.below hb).mono hb.size); have HK := Lib.hid hr; clear hr hb c0 c1 c2; obtain ⟨c0, c1, c2⟩ := HS.out.cells)
        go_upto_region 12 with (go_at_call 38; refine (lcan_any (HS.out.given HT.out)).mono ?_; rw [Hcan.out]; rintro e w4 ⟨rfl, hb⟩; have HS := Lib.hid (HS.out.next hb); have HT := Lib.hid ((HT.out.below hb).mono hb.size); have HC := Lib.hid ((HC.out.below hb).mono hb.size); have HK := Lib.hid ((HK.out.below hb).mono hb.size); clear hb c0 c1 c2; obtain ⟨c0, c1, c2⟩ := HS.out.cells)
        have hcl := casts_len Hg.out Hf.out
        have HQ : Hid (KpS w B w.heap.size (.slice Ah s.hours.length ch) (.slice Ap s.parts.length cp) (.slice Ao s.orders.length co) (.slice A1 t.length n1) (.slice A3 (castsL s (ofL s t)).length n3) (.slice A4 s.hours.length n4) s t (castsL s (ofL s t)) (keptL s (ofL s t) pt) w4) := Lib.hid ⟨HS.out, HT.out, HC.out, HK.out⟩
        have Hca : Hid (∀ n, n < (castsL s (ofL s t)).length → ∃ p d : Nat, (castsL s (ofL s t))[n]? = some ((p : Int), (d : Int)) ∧ p < s.parts.length ∧ d < s.hours.length ∧ lastN s (ofL s t) n ≤ d ∧ lastN s (ofL s t) (n + 1) = d ∧ usedN s (ofL s t) (n + 1) = usedN s (ofL s t) n + (s.parts.getD p default).long ∧
            usedN s (ofL s t) (n + 1) ≤ worked s d ∧ (0 < d → worked s (d - 1) < usedN s (ofL s t) (n + 1))) := Lib.hid fun n hn => by
          obtain ⟨p, d, h⟩ := casting_at Hg.out Hf.out Hc.out hn
          exact ⟨p, d, h.at_, h.part, h.day, h.last, h.next, h.used, h.in_, h.not_⟩
        have Hub : Hid (∀ k, 0 ≤ usedN s (ofL s t) k ∧ usedN s (ofL s t) k ≤ 480) := Lib.hid fun k => by
          have hh := Hg.out.hlen
          have h1 := usedN_bd Hg.out Hf.out Hc.out k
          have h2 := worked_bd Hg.out (d := s.hours.length - 1) (by omega)
          omega
        obtain ⟨cs, hcs⟩ : ∃ cs, cs = castsL s (ofL s t) := ⟨_, rfl⟩
        rw [← hcs] at hcl HQ Hca ⊢
        have HcsE := Lib.hid hcs
        clear hcs HS HT HC HK c0 c1 c2
        have htl := Htl.out
        have hhl := Hg.out.hlen
        go_wp2
        go_loopw [17, 18, 19] (fun us ls kv wr => ∃ k : Nat, k ≤ cs.length ∧ kv = .int .i64 k ∧ us = .int .i64 (usedN s (ofL s t) k) ∧ ls = .int .i64 (lastN s (ofL s t) k : Nat) ∧ Below w4.heap.size w4 wr) (fun _ _ kv _ => cs.length - (intOf kv).toNat)
        case atStart => exact ⟨0, Nat.zero_le _, rfl, rfl, rfl, Below.refl _ _⟩
        case round =>
          obtain ⟨k, hk, rfl, rfl, rfl, hbr⟩ := hrel
          have HR := Lib.hid (HQ.out.next hbr)
          have Hbr := Lib.hid hbr
          clear hbr
          obtain ⟨c0, c1, c2⟩ := HR.out.sh.cells
          by_cases hkl : k < cs.length
          · obtain ⟨p, d, hat, hp, hd, hl, hnx, hus, hin, hnot⟩ := Hca.out k hkl
            obtain ⟨ac, rfl, _, k0, k1⟩ := HR.out.cs.cast hkl
            rw [hat] at k0 k1
            have k0 : wr.cell? (ac.add (k * 2)) = some (.int .i64 p) := k0
            have k1 : wr.cell? ⟨(ac.add (k * 2)).block, (ac.add (k * 2)).off + 1, none⟩ = some (.int .i64 d) := k1
            obtain ⟨vh', vp', vo', hv, _, hpp, _⟩ := id HR.out.sh.shop
            cases hv
            obtain ⟨ap, rfl, _, p0, p1, p2, p3⟩ := hpp.part hp
            have hlo := (Hg.out.part hp).long
            rw [List.getD_eq_getElem?_getD] at hlo hus
            have hub := Hub.out k
            have hub1 := Hub.out (k + 1)
            rw [hus] at hin hub1
            have hnot' : 0 < d → worked s (d - 1) < usedN s (ofL s t) k + (s.parts[p]?.getD default).long := by rw [← hus]; exact hnot
            have Hus := Lib.hid hus
            have Hnx := Lib.hid hnx
            generalize lastN s (ofL s t) k = lk at *
            generalize usedN s (ofL s t) k = uk at *
            generalize (s.parts[p]?.getD default).long = lo at *
            clear hat hpp p0 p1 p3 hnot hus hnx
            have q1 : decide ((p : Int) < 0) = false := by simp
            have q2 : decide ((p : Int) ≥ (s.parts.length : Int)) = false := decide_eq_false (by omega)
            have q3 : decide ((s.parts.length : Int) ≤ (p : Int)) = false := decide_eq_false (by omega)
            have q4 : decide (s.parts.length ≤ p) = false := decide_eq_false (by omega)
            have q5 : decide ((d : Int) < (lk : Int)) = false := decide_eq_false (by omega)
            have q6 : decide (d < lk) = false := decide_eq_false (by omega)
            have q7 : decide ((d : Int) ≥ (s.hours.length : Int)) = false := decide_eq_false (by omega)
            have q8 : decide ((s.hours.length : Int) ≤ (d : Int)) = false := decide_eq_false (by omega)
            have q9 : decide (s.hours.length ≤ d) = false := decide_eq_false (by omega)
            go_wp2
            go_quiet (fail)
            obtain ⟨m1, rfl⟩ : ∃ m1, m1 = nq := ⟨_, rfl⟩
            go_upto_region 18 with (fail)
            go_quiet (fail)
            go_upto_region 19 with (fail)
            obtain ⟨Wq, hWq⟩ : ∃ Wq, Wq = (wr.drewN m1).drewN nq := ⟨_, rfl⟩
            have HR : Hid (KpS w B w.heap.size (.slice Ah s.hours.length ch) (.slice (some ap) s.parts.length cp) (.slice Ao s.orders.length co) (.slice A1 t.length n1) (.slice (some ac) cs.length n3) (.slice A4 s.hours.length n4) s t cs (keptL s (ofL s t) pt) Wq) := Lib.hid (by rw [hWq]; exact HR.out.next (below_drewN (below_drewN (Below.refl _ _) m1) nq))
            have Hbr : Hid (Below w4.heap.size w4 Wq) := Lib.hid (by rw [hWq]; exact below_drewN (below_drewN Hbr.out m1) nq)
            rw [← hWq]
            clear hWq c0 c1 c2 k0 k1 p2
            obtain ⟨c0, c1, c2⟩ := HR.out.sh.cells
            have g1 : decide (uk + lo > worked s d) = false := decide_eq_false (by omega)
            have g1' : decide (worked s d < uk + lo) = false := decide_eq_false (by omega)
            have gw : wrap64 (uk + lo) = uk + lo := IntWalk.wrap64_in _ ⟨by omega, by omega⟩
            cases d with
            | zero =>
              clear hnot' hin q5 q6 q7 q8 q9
              go_wp2_with (go_at_call 39; refine (worked_any HR.out.sh.shop Hg.out 0 hd HR.out.sh.hB).mono ?_; rintro e wx ⟨rfl, hb⟩; have Hbr := Lib.hid (Hbr.out.trans (hb.mono Hbr.out.size)); clear hb)
              go_roundw
              case rel => exact ⟨k + 1, by omega, by go_num, by rw [Hus.out], by rw [Hnx.out]; rfl, Hbr.out⟩
              case measure => simp [intOf]; omega
            | succ e =>
              have hn2 := hnot' (by omega)
              rw [show e + 1 - 1 = e by omega] at hn2
              have g2 : decide (uk + lo ≤ worked s e) = false := decide_eq_false (by omega)
              clear hnot' hin q5 q6 q7 q8 q9 hn2
              have he : e < s.hours.length := by omega
              go_wp2_with (go_at_call 39; first | (refine (worked_int HR.out.sh.shop Hg.out (e + 1) hd HR.out.sh.hB _ (by omega)).mono ?_; rintro e' wx ⟨rfl, hb⟩; have HR := Lib.hid (HR.out.next hb); have Hbr := Lib.hid (Hbr.out.trans (hb.mono Hbr.out.size)); clear hb c0 c1 c2; obtain ⟨c0, c1, c2⟩ := HR.out.sh.cells) | (refine (worked_int HR.out.sh.shop Hg.out e he HR.out.sh.hB _ (by omega)).mono ?_; rintro e' wx ⟨rfl, hb⟩; have Hbr := Lib.hid (Hbr.out.trans (hb.mono Hbr.out.size)); clear hb))
              go_roundw
              case rel => exact ⟨k + 1, by omega, by go_num, by rw [Hus.out], by rw [Hnx.out]; go_num, Hbr.out⟩
              case measure => simp [intOf]; omega
          · have hke : k = cs.length := by omega
            clear hkl
            subst hke
            obtain ⟨vh', vp', vo', hv, _, hpp, _⟩ := id HR.out.sh.shop
            cases hv
            obtain ⟨ap, rfl, _, p0, p1, p2, p3⟩ := hpp.part hptl
            have hpo := Hg.out.part hptl
            have HTn : Hid (∀ d, d < s.hours.length → (keptL s (ofL s t) pt)[d]?.getD 0 = thereK s (ofL s t) pt d + (s.parts[pt]?.getD default).batch * cntAt cs pt d - due0 (ofL s t) pt d) := Lib.hid fun d hd => by
              rw [keptL_at hd, thereK_next Hg.out Hf.out Hc.out, HcsE.out, List.getD_eq_getElem?_getD]
            have HTs : Hid (∀ d, d < s.hours.length → thereK s (ofL s t) pt (d + 1) = thereK s (ofL s t) pt d + (s.parts[pt]?.getD default).batch * cntAt cs pt d - due0 (ofL s t) pt d) := Lib.hid fun d hd => by
              rw [thereK_succ, thereK_next Hg.out Hf.out Hc.out, HcsE.out, List.getD_eq_getElem?_getD]
            have HT0 : Hid (thereK s (ofL s t) pt 0 = (s.parts[pt]?.getD default).stock) := Lib.hid (by unfold thereK; rw [if_pos rfl, List.getD_eq_getElem?_getD])
            have HTb : Hid (∀ d, d ≤ s.hours.length → 0 ≤ thereK s (ofL s t) pt d ∧ thereK s (ofL s t) pt d ≤ 14000) := Lib.hid fun d hd => by
              unfold thereK
              split
              · have := hpo.stock; omega
              · refine ⟨left_nn Hg.out Hf.out Hc.out hptl (by omega), ?_⟩
                rw [left_eq]
                have h1 : cntTo (castsL s (ofL s t)) pt ((d - 1 : Nat) : Int) ≤ 1350 := by
                  unfold cntTo
                  have := List.length_filter_le (fun x : Int × Int => x.1 == (pt : Int) && decide (x.2 ≤ ((d - 1 : Nat) : Int))) (castsL s (ofL s t))
                  rw [← HcsE.out] at this ⊢
                  omega
                have h2 := (Hf.out.due_bd pt ((d - 1 : Nat) : Int)).1
                have h3 := hpo.stock
                have h4 := Int.mul_le_mul hpo.batch.2 h1 (cntTo_nn _ _ _) (by omega)
                omega
            have Hcb : Hid (∀ k d, 0 ≤ (s.parts[pt]?.getD default).batch * cntAt (cs.take k) pt d ∧ (s.parts[pt]?.getD default).batch * cntAt (cs.take k) pt d ≤ 13500) := Lib.hid fun k d => by
              have h1 := cnt_bd (cs.take k) pt d
              rw [List.length_take] at h1
              rw [← List.getD_eq_getElem?_getD]
              have h4 := Int.mul_le_mul hpo.batch.2 (show cntAt (cs.take k) pt d ≤ 1350 by omega) h1.1 (by omega)
              exact ⟨Int.mul_nonneg (by have := hpo.batch; omega) h1.1, by omega⟩
            have Hdb : Hid (∀ k d, k ≤ t.length → 0 ≤ due0 (ofL s (t.take k)) pt d ∧ due0 (ofL s (t.take k)) pt d ≤ 450) := Lib.hid fun k d hk => by
              have h1 := due0_bd (l := ofL s (t.take k)) (fun o ho => Hf.out.many o (by
                unfold ofL at ho ⊢
                obtain ⟨i, hi, rfl⟩ := List.mem_map.1 ho
                exact List.mem_map_of_mem (List.mem_of_mem_take hi))) pt d
              rw [ofL_len, List.length_take] at h1
              omega
            have hbt := hpo.batch
            have hst := hpo.stock
            rw [List.getD_eq_getElem?_getD] at hbt hst
            have P1 := Lib.hid p1
            clear hpp p0 p1 p2 hpo
            have Hin := Lib.hid (fun k hk => taken_in (k := k) Hte.out hk)
            go_wp2
            go_loopw [20, 21] (fun th dv wq => ∃ d : Nat, d ≤ s.hours.length ∧ dv = .int .i64 d ∧ th = .int .i64 (thereK s (ofL s t) pt d) ∧ Below wr.heap.size wr wq) (fun _ dv _ => s.hours.length - (intOf dv).toNat)
            case atStart => exact ⟨0, Nat.zero_le _, rfl, by rw [HT0.out]; simp [List.getElem?_eq_getElem hptl], Below.refl _ _⟩
            case round =>
              obtain ⟨d, hd, rfl, rfl, hbq⟩ := hrel
              have HR := Lib.hid (HR.out.next hbq)
              have p1 := (hbq.cell (cell_lt P1.out)).trans P1.out
              have P1 := Lib.hid p1
              have Hbr := Lib.hid (Hbr.out.trans (hbq.mono Hbr.out.size))
              have Hbr0 := Lib.hid hbq
              clear hbq c0 c1 c2 p3
              obtain ⟨c0, c1, c2⟩ := HR.out.sh.cells
              by_cases hdl : d < s.hours.length
              · have htb := HTb.out d hd
                go_wp2
                go_loop [20, 22] (fun th kv => ∃ k : Nat, k ≤ cs.length ∧ kv = .int .i64 k ∧ th = .int .i64 (thereK s (ofL s t) pt d + (s.parts[pt]?.getD default).batch * cntAt (cs.take k) pt d)) (fun _ kv => cs.length - (intOf kv).toNat)
                case atStart => exact ⟨0, Nat.zero_le _, rfl, by simp [cntAt]⟩
                case round =>
                  obtain ⟨k, hk, rfl, rfl⟩ := hrel
                  by_cases hkl : k < cs.length
                  · obtain ⟨p, e, hat, hp, he, _⟩ := Hca.out k hkl
                    obtain ⟨ac, rfl, _, k0, k1⟩ := HR.out.cs.cast hkl
                    rw [hat] at k0 k1
                    have k0 : wr.cell? (ac.add (k * 2)) = some (.int .i64 p) := k0
                    have k1 : wr.cell? ⟨(ac.add (k * 2)).block, (ac.add (k * 2)).off + 1, none⟩ = some (.int .i64 e) := k1
                    have hsn : cntAt (cs.take (k + 1)) pt d = cntAt (cs.take k) pt d + if (p : Int) = pt ∧ (e : Int) = d then 1 else 0 := by rw [List.take_add_one, hat, Option.toList_some, cntAt_snoc]
                    have hcb := Hcb.out k d
                    have Hsn := Lib.hid hsn
                    clear hat hsn
                    by_cases hed : e = d
                    · subst hed
                      by_cases hpp : p = pt
                      · subst hpp
                        rw [if_pos ⟨rfl, rfl⟩] at Hsn
                        generalize cntAt (cs.take k) p e = ca at *
                        generalize (s.parts[p]?.getD default).batch = ba at *
                        generalize thereK s (ofL s t) p e = tk at *
                        go_wp2
                        go_round
                        case rel => exact ⟨k + 1, by omega, by go_num, by rw [Hsn.out, Int.mul_add]; go_num⟩
                        case measure => simp [intOf]; omega
                      · rw [if_neg (by omega), Int.add_zero] at Hsn
                        have hpb : ((p : Int) == (pt : Int)) = false := beq_false_of_ne (by omega)
                        have hpb2 : (p == pt) = false := beq_false_of_ne hpp
                        go_wp2
                        go_round
                        case rel => exact ⟨k + 1, by omega, by go_num, by rw [Hsn.out]⟩
                        case measure => simp [intOf]; omega
                    · rw [if_neg (by omega), Int.add_zero] at Hsn
                      have hpb : ((e : Int) == (d : Int)) = false := beq_false_of_ne (by omega)
                      have hpb2 : (e == d) = false := beq_false_of_ne hed
                      go_wp2
                      go_round
                      case rel => exact ⟨k + 1, by omega, by go_num, by rw [Hsn.out]⟩
                      case measure => simp [intOf]; omega
                  · have hke : k = cs.length := by omega
                    subst hke
                    have hcb := Hcb.out cs.length d
                    rw [List.take_of_length_le (Nat.le_refl _)] at hcb ⊢
                    have hnx := HTn.out d hdl
                    have HTsd := Lib.hid (HTs.out d hdl)
                    have hnn := HTb.out (d + 1) (by omega)
                    rw [HTsd.out] at hnn
                    have Hnx := Lib.hid hnx
                    clear hkl hnx
                    generalize (s.parts[pt]?.getD default).batch * cntAt cs pt d = bc at *
                    go_wp2
                    go_loopw [20, 23] (fun th kv wq => ∃ k : Nat, k ≤ t.length ∧ kv = .int .i64 k ∧ th = .int .i64 (thereK s (ofL s t) pt d + bc - due0 (ofL s (t.take k)) pt d) ∧ Below wr.heap.size wr wq) (fun _ kv _ => t.length - (intOf kv).toNat)
                    case atStart => exact ⟨0, Nat.zero_le _, rfl, by simp [due0, ofL], Below.refl _ _⟩
                    case round =>
                      obtain ⟨k, hk, rfl, rfl, hbq⟩ := hrel
                      have HR := Lib.hid (HR.out.next hbq)
                      have Hbr := Lib.hid (Hbr.out.trans (hbq.mono Hbr.out.size))
                      have HBq := Lib.hid hbq
                      clear hbq c0 c1 c2 p1
                      obtain ⟨c0, c1, c2⟩ := HR.out.sh.cells
                      by_cases hkl : k < t.length
                      · obtain ⟨ad, rfl, _, d0⟩ := HR.out.tk.int hkl
                        obtain ⟨q0, q1⟩ := Hin.out k hkl
                        obtain ⟨q, hqe⟩ := Int.eq_ofNat_of_zero_le q0
                        have hq1 : (q : Int) < s.orders.length := by omega
                        obtain ⟨vh', vp', vo', hv, _, _, ho⟩ := id HR.out.sh.shop
                        cases hv
                        obtain ⟨ao, rfl, _, o0, o1, o2, o3⟩ := ho.ord (i := q) (by omega)
                        have hsn := ofL_snoc (s := s) hkl hqe
                        have hsum : due0 (ofL s (t.take (k + 1))) pt d = due0 (ofL s (t.take k)) pt d + if (s.orders[q]?.getD default).part = pt ∧ (s.orders[q]?.getD default).due = d then (s.orders[q]?.getD default).many else 0 := by rw [hsn, due0_one]
                        have hdb := Hdb.out k d (by omega)
                        have hdb1 := Hdb.out (k + 1) d (by omega)
                        rw [hsum] at hdb1
                        have Hsum := Lib.hid hsum
                        rw [hqe] at d0
                        clear hsn hsum q0 q1 ho hqe
                        generalize s.orders[q]?.getD default = o at *
                        generalize due0 (ofL s (t.take k)) pt d = dk at *
                        go_upto_region 33 with (fail)
                        refine wp_region_ghost (Kept33 wr w.heap.size (.slice (some ao) s.orders.length co) (.slice (some ad) t.length n1) k q (ad.add k) (ao.add (q * 4)) o) (by kernel_rfl) (by kernel_rfl) ?_ ?_ ?_
                        · exact ⟨fun _ => rfl, fun h => (by cases h), fun h => (by cases h), fun h => (by cases h), fun h => (by cases h), fun h => (by cases h), fun h => (by cases h), fun h => (by cases h), fun h => (by cases h), fun h => (by cases h), fun h => (by cases h), fun h => (by cases h)⟩
                        · have hX : ∀ {L : Nat → Bool} {vs : Nat → Value} {X : World} {u : Value} {a : Addr}, L 9 = false → Kept33 wr w.heap.size (.slice (some ao) s.orders.length co) (.slice (some ad) t.length n1) k q (ad.add k) (ao.add (q * 4)) o L vs X → wr.cell? a = some u → X.cell? a = some u := by
                            intro L vs X u a h9 hI h
                            cases h8 : L 8 with
                            | false => rw [hI.w0 h8]; exact h
                            | true => rw [hI.w1 h8 h9]; exact (World.cell?_alloc_lt _ _ _ (cell_lt h)).trans h
                          refine ⟨?_, ?_, ?_, ?_, ?_, ?_, ?_, ?_, ?_, ?_, trivial⟩
                          all_goals
                            intro L vs X b hL hw hcl hI hf
                          · have e3 := hf.old 3 (by kernel_rfl)
                            refine wp_of_run (v := .pointer (some ⟨w.heap.size, 2, none⟩)) (w' := X) (by clear hX; unfold execOp; go_simp) ?_
                            exact ⟨hI.w0, hI.w1, hI.w2, fun _ => rfl, hI.f1, hI.f2, hI.f3, hI.f4, hI.f5, hI.f6, hI.f7, hI.f8⟩
                          · have n6 : L 6 = false := not_yet hcl 6 hL rfl (by kernel_rfl)
                            have n7 : L 7 = false := not_yet hcl 7 n6 rfl (by kernel_rfl)
                            have n9 : L 9 = false := not_yet hcl 9 n7 rfl (by kernel_rfl)
                            have h0 : L 0 = true := done_of hw 0 (by kernel_rfl)
                            have e235 := (hf.new 0 235 rfl h0 (by simp)).trans (hI.f0 h0)
                            have x2 := hX n9 hI c2
                            refine wp_of_run (v := .slice (some ao) s.orders.length co) (w' := X) (by clear hX; unfold execOp; go_simp) ?_
                            exact ⟨hI.w0, hI.w1, hI.w2, hI.f0, fun _ => rfl, hI.f2, hI.f3, hI.f4, hI.f5, hI.f6, hI.f7, hI.f8⟩
                          · have e9 := hf.old 9 (by kernel_rfl)
                            refine wp_of_run (v := .slice (some ad) t.length n1) (w' := X) (by clear hX; unfold execOp; go_simp) ?_
                            exact ⟨hI.w0, hI.w1, hI.w2, hI.f0, hI.f1, fun _ => rfl, hI.f3, hI.f4, hI.f5, hI.f6, hI.f7, hI.f8⟩
                          · have e23 := hf.old 23 (by kernel_rfl)
                            refine wp_of_run (v := .int .i64 k) (w' := X) (by clear hX; unfold execOp; go_simp) ?_
                            exact ⟨hI.w0, hI.w1, hI.w2, hI.f0, hI.f1, hI.f2, fun _ => rfl, hI.f4, hI.f5, hI.f6, hI.f7, hI.f8⟩
                          · have h2 : L 2 = true := done_of hw 2 (by kernel_rfl)
                            have h3 : L 3 = true := done_of hw 3 (by kernel_rfl)
                            have e237 := (hf.new 2 237 rfl h2 (by simp)).trans (hI.f2 h2)
                            have e238 := (hf.new 3 238 rfl h3 (by simp)).trans (hI.f3 h3)
                            refine wp_of_run (v := .pointer (some (ad.add k))) (w' := X) (by clear hX; unfold execOp; go_simp) ?_
                            exact ⟨hI.w0, hI.w1, hI.w2, hI.f0, hI.f1, hI.f2, hI.f3, fun _ => rfl, hI.f5, hI.f6, hI.f7, hI.f8⟩
                          · have n6 : L 6 = false := not_yet hcl 6 hL rfl (by kernel_rfl)
                            have n7 : L 7 = false := not_yet hcl 7 n6 rfl (by kernel_rfl)
                            have n9 : L 9 = false := not_yet hcl 9 n7 rfl (by kernel_rfl)
                            have h4 : L 4 = true := done_of hw 4 (by kernel_rfl)
                            have e239 := (hf.new 4 239 rfl h4 (by simp)).trans (hI.f4 h4)
                            have x0 := hX n9 hI d0
                            refine wp_of_run (v := .int .i64 q) (w' := X) (by clear hX; unfold execOp; go_simp) ?_
                            exact ⟨hI.w0, hI.w1, hI.w2, hI.f0, hI.f1, hI.f2, hI.f3, hI.f4, fun _ => rfl, hI.f6, hI.f7, hI.f8⟩
                          · have h1 : L 1 = true := done_of hw 1 (by kernel_rfl)
                            have h5 : L 5 = true := done_of hw 5 (by kernel_rfl)
                            have e236 := (hf.new 1 236 rfl h1 (by simp)).trans (hI.f1 h1)
                            have e240 := (hf.new 5 240 rfl h5 (by simp)).trans (hI.f5 h5)
                            refine wp_of_run (v := .pointer (some (ao.add (q * 4)))) (w' := X) (by clear hX; unfold execOp; go_simp) ?_
                            exact ⟨hI.w0, hI.w1, hI.w2, hI.f0, hI.f1, hI.f2, hI.f3, hI.f4, hI.f5, fun _ => rfl, hI.f7, hI.f8⟩
                          · have n9 : L 9 = false := not_yet hcl 9 hL rfl (by kernel_rfl)
                            have h6 : L 6 = true := done_of hw 6 (by kernel_rfl)
                            have e241 := (hf.new 6 241 rfl h6 (by simp)).trans (hI.f6 h6)
                            have x0 := hX n9 hI o0
                            have x1 := hX n9 hI o1
                            have x2 := hX n9 hI o2
                            have x3 := hX n9 hI o3
                            refine wp_of_run (v := .agg #[.int .i64 o.part, .int .i64 o.many, .int .i64 o.due, .int .i64 o.worth]) (w' := X) (by clear hX; unfold execOp; go_simp) ?_
                            exact ⟨hI.w0, hI.w1, hI.w2, hI.f0, hI.f1, hI.f2, hI.f3, hI.f4, hI.f5, hI.f6, fun _ => rfl, hI.f8⟩
                          · have n9 : L 9 = false := not_yet hcl 9 hL rfl (by kernel_rfl)
                            have hXe := hI.w0 hL
                            subst hXe
                            refine wp_of_run (v := .pointer (some ⟨wr.heap.size, 0, none⟩)) (w' := wr.drew.alloc (.cells #[.int .i64 0, .int .i64 0, .int .i64 0, .int .i64 0] 60)) (by clear hX; unfold execOp; go_simp) ?_
                            exact ⟨fun h => (by cases h), fun _ _ => rfl, fun h => absurd (n9.symm.trans h) (by simp), hI.f0, hI.f1, hI.f2, hI.f3, hI.f4, hI.f5, hI.f6, hI.f7, fun _ => rfl⟩
                          · have h7 : L 7 = true := done_of hw 7 (by kernel_rfl)
                            have h8 : L 8 = true := done_of hw 8 (by kernel_rfl)
                            have e242 := (hf.new 7 242 rfl h7 (by simp)).trans (hI.f7 h7)
                            have e24 := (hf.new 8 24 rfl h8 (by simp)).trans (hI.f8 h8)
                            have hXe := hI.w1 h8 hL
                            have hr : X.heap[wr.heap.size]? = some (.cells #[.int .i64 0, .int .i64 0, .int .i64 0, .int .i64 0] 60) := by rw [hXe]; exact heap_alloc_new wr.drew _
                            have hbX : Below wr.heap.size wr X := by rw [hXe]; exact (Below.refl _ _).drew.alloc (Nat.le_refl _) _
                            have y0 := cellOf hr 0 (v := .int .i64 0) rfl
                            have y1 := cellOf hr 1 (v := .int .i64 0) rfl
                            have y2 := cellOf hr 2 (v := .int .i64 0) rfl
                            have y3 := cellOf hr 3 (v := .int .i64 0) rfl
                            have z0 : X.frozen? ⟨wr.heap.size, 0, none⟩ = false := by simp [World.frozen?, hr]
                            have z1 : X.frozen? ⟨wr.heap.size, 1, none⟩ = false := by simp [World.frozen?, hr]
                            have z2 : X.frozen? ⟨wr.heap.size, 2, none⟩ = false := by simp [World.frozen?, hr]
                            have z3 : X.frozen? ⟨wr.heap.size, 3, none⟩ = false := by simp [World.frozen?, hr]
                            refine wp_of_skip (w' := (((X.setCell ⟨wr.heap.size, 0, none⟩ (.int .i64 o.part)).setCell ⟨wr.heap.size, 1, none⟩ (.int .i64 o.many)).setCell ⟨wr.heap.size, 2, none⟩ (.int .i64 o.due)).setCell ⟨wr.heap.size, 3, none⟩ (.int .i64 o.worth)) (by clear hr hbX hXe hX; unfold execOp; go_simp) ?_
                            refine ⟨fun h => absurd (h8.symm.trans h) (by simp), fun _ h => (by cases h), fun _ => ⟨?_, ?_⟩, hI.f0, hI.f1, hI.f2, hI.f3, hI.f4, hI.f5, hI.f6, hI.f7, hI.f8⟩
                            · exact heap_setCell_same _ _ 3 _ _ _ (heap_setCell_same _ _ 2 _ _ _ (heap_setCell_same _ _ 1 _ _ _ (heap_setCell_same _ _ 0 _ _ _ hr)))
                            · exact (((hbX.setCell (p := ⟨wr.heap.size, 0, none⟩) (Nat.le_refl _) _).setCell (p := ⟨wr.heap.size, 1, none⟩) (Nat.le_refl _) _).setCell (p := ⟨wr.heap.size, 2, none⟩) (Nat.le_refl _) _).setCell (p := ⟨wr.heap.size, 3, none⟩) (Nat.le_refl _) _
                        · intro vs X hI
                          obtain ⟨hr, hbX⟩ := hI.w2 rfl
                          have k8 := hI.f8 rfl
                          have y0 := cellOf hr 0 (v := .int .i64 o.part) rfl
                          have y1 := cellOf hr 1 (v := .int .i64 o.many) rfl
                          have y2 := cellOf hr 2 (v := .int .i64 o.due) rfl
                          have HBX := Lib.hid (HBq.out.trans (hbX.mono HBq.out.size))
                          clear hI hr hbX c0 c1 c2 d0 o0 o1 o2 o3
                          generalize vs 0 = v0
                          generalize vs 1 = v1
                          generalize vs 2 = v2
                          generalize vs 3 = v3
                          generalize vs 4 = v4
                          generalize vs 5 = v5
                          generalize vs 6 = v6
                          generalize vs 7 = v7
                          simp [fill, slotOf, Act.put, k8]
                          simp only [Exit.inBlock, Exit.then]
                          clear k8
                          by_cases hdu : o.due = d
                          · have hdb0 : (o.due == (d : Int)) = true := by simp [hdu]
                            by_cases hpa : o.part = pt
                            · have hpb0 : (o.part == (pt : Int)) = true := by simp [hpa]
                              rw [if_pos ⟨hpa, hdu⟩] at Hsum hdb1
                              clear hdu hpa
                              go_wp2
                              go_roundw
                              case rel => exact ⟨k + 1, by omega, by go_num, by rw [Hsum.out]; go_num, HBX.out⟩
                              case measure => simp [intOf]; omega
                            · have hpb0 : (o.part == (pt : Int)) = false := beq_false_of_ne hpa
                              rw [if_neg (fun h => hpa h.1), Int.add_zero] at Hsum
                              clear hdu hpa hdb1
                              go_wp2
                              go_roundw
                              case rel => exact ⟨k + 1, by omega, by go_num, by rw [Hsum.out], HBX.out⟩
                              case measure => simp [intOf]; omega
                          · have hdb0 : (o.due == (d : Int)) = false := beq_false_of_ne hdu
                            rw [if_neg (fun h => hdu h.2), Int.add_zero] at Hsum
                            clear hdu hdb1
                            go_wp2
                            go_roundw
                            case rel => exact ⟨k + 1, by omega, by go_num, by rw [Hsum.out], HBX.out⟩
                            case measure => simp [intOf]; omega
                      · have hke : k = t.length := by omega
                        subst hke
                        rw [List.take_of_length_le (Nat.le_refl _)]
                        obtain ⟨ak, rfl, _, d0⟩ := HR.out.ks.int (i := d) (by rw [keptL_len]; exact hdl)
                        rw [Hnx.out] at d0
                        have hvb : decide (thereK s (ofL s t) pt d + bc - due0 (ofL s t) pt d < 0) = false := decide_eq_false (by omega)
                        obtain ⟨hn1, hn2⟩ := hnn
                        have HBd := Lib.hid ((Hbr0.out).trans (HBq.out.mono Hbr0.out.size))
                        clear hkl
                        generalize thereK s (ofL s t) pt d + bc - due0 (ofL s t) pt d = nv at *
                        go_wp2
                        go_roundw
                        case rel => exact ⟨d + 1, by omega, by go_num, by rw [HTsd.out], HBd.out⟩
                        case measure => simp [intOf]; omega
              · have hde : d = s.hours.length := by omega
                subst hde
                go_wp2_with (go_at_call 23; refine (awake_any _).mono ?_; rintro e w5 ⟨rfl, hb⟩; have HR := Lib.hid (HR.out.next hb); clear hb)
                go_ret
                exact ⟨rfl, HR.out.sh.below⟩
  · have HpP := Lib.hid (fun (W : World) (h : Given W.heap.size W (.agg #[.slice Ah s.hours.length ch, .slice Ap s.parts.length cp, .slice Ao s.orders.length co]) (.slice none 0 0) s []) => pplan_from h)
    unfold PlanF at HpP
    rw [show planF s [] = ([], errOf s) by unfold planF; rw [takenErr_shop he, if_pos he]] at HpP
    have heb : (errOf s == 0) = false := by simpa using he
    have hne : (errOf s != 0) = true := by simpa using he
    clear he
    go_wp2_with (first | (go_at_call 24; refine (HpP.out _ (HS.out.given (Rd.nil _ _))).mono ?_; rintro e w4 ⟨A3, n3, rfl, hr, _, hb⟩; have HS := Lib.hid (HS.out.next hb); clear hr hb c0 c1 c2; obtain ⟨c0, c1, c2⟩ := HS.out.cells) | (go_at_call 36; refine (valid_any HS.out.shop HS.out.nm HS.out.hB).mono ?_; rintro e w3 ⟨rfl, hb⟩; have HS := Lib.hid (HS.out.next hb); clear hb c0 c1 c2; obtain ⟨c0, c1, c2⟩ := HS.out.cells) | (go_at_call 23; refine (awake_any _).mono ?_; rintro e w4 ⟨rfl, hb⟩; have HS := Lib.hid (HS.out.next hb); clear hb))
    go_ret
    exact ⟨rfl, HS.out.below⟩
end Go.Proofs.Ytkmaapkbonkjfaa
