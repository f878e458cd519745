/- Walks of the layer order: OrderTurned. -/
import Derived.Test.YtkmaapkbonkjfaaTurnL
import Derived.Test.YtkmaapkbonkjfaaRowP
set_option linter.unusedSimpArgs false
set_option linter.unusedVariables false
namespace Go.Proofs.Ytkmaapkbonkjfaa
open Go.RowKit

/-- what holds while the two turned shops are begun -/
structure TuI (W : World) (va : Value) (cs zs : Array Value) (L : Nat → Bool) (vs : Nat → Value) (X : World) : Prop where
  bel : Below W.heap.size W X
  r0 : L 0 = true → vs 0 = va
  r1 : L 1 = true → vs 1 = va
  f2 : L 2 = true → ∃ g, W.heap.size ≤ g ∧ vs 2 = .pointer (some ⟨g, 0, none⟩) ∧ X.heap[g]? = some (.cells (bif L 4 then cs else zs) 26)
  f3 : L 3 = true → ∃ g, W.heap.size ≤ g ∧ vs 3 = .pointer (some ⟨g, 0, none⟩) ∧ X.heap[g]? = some (.cells (bif L 5 then cs else zs) 26)
  ap : L 2 = true → L 3 = true → vs 2 ≠ vs 3

theorem own_kept {base : Nat} {X w' : World} {v u : Value} {xs : List OrdR} {ys : List Int} (h : Own base 60 X v xs) (h3 : Own base 3 X u ys) (hgr : X.grownBy w' v.ownBlock) : Own base 3 w' u ys := by
  refine h3.same fun g hg _ => ?_
  rcases h3 with ⟨_, ⟨h0, _⟩ | ⟨g', cap, cur, h0, hb', hh, _⟩⟩
  · rw [h0] at hg; cases hg
  · rw [h0] at hg
    injection hg with hg
    subst hg
    refine hgr.block _ (lt_of_block hh) fun e => ?_
    rcases h with ⟨_, ⟨h1, _⟩ | ⟨g2, cap2, cur2, h1, _, hh2, _⟩⟩
    · rw [h1] at e; cases e
    · rw [h1] at e
      injection e with e
      subst e
      rw [hh] at hh2
      cases hh2
theorem own_keep {base : Nat} {X w' : World} {v : Value} {xs : List OrdR} (h : Own base 60 X v xs) (hk : ∀ (b : Nat) (o : Obj), X.heap[b]? = some o → (∀ c f, o ≠ .cells c 3 f) → w'.heap[b]? = some o) : Own base 60 w' v xs := by
  refine h.same fun g hg _ => ?_
  rcases h with ⟨_, ⟨h0, _⟩ | ⟨g', cap, cur, h0, hb', hh, _⟩⟩
  · rw [h0] at hg; cases hg
  · rw [h0] at hg
    injection hg with hg
    subst hg
    exact (hk _ _ hh (fun c f e => by cases e)).trans hh.symm
/-- a number more, and what else stays -/
theorem append_int2 {base : Nat} {w : World} {v : Value} {xs : List Int} (h : Own base 3 w v xs) (x : Int) (hn : xs.length ≤ 100000) (hbase : base ≤ w.heap.size) :
    ∃ A c w', (Builtin.append_ #[22, 22] 22 #[v, .slice (some ⟨w.heap.size, 0, none⟩) 1 1]).run Try.prog (w.alloc (.cells #[.int .i64 x] 3)) = .ok (.slice A (xs.length + 1) c) w' ∧ Own base 3 w' (.slice A (xs.length + 1) c) (xs ++ [x]) ∧
      Below base w w' ∧ base ≤ w'.heap.size ∧ xs.length + 1 ≤ c ∧ c ≤ 9223372036854775807 ∧ w.heap.size < w'.heap.size ∧
      (∀ (b : Nat) (o : Obj), w.heap[b]? = some o → (∀ c f, o ≠ .cells c 3 f) → w'.heap[b]? = some o) :=
  append_full (bytes := 8) (by kernel_rfl) (by kernel_rfl) (by omega) (by omega) (by simp [Enc.enc]; intros; rfl) h x hn hbase rfl
/-- the shop whose orders are turned, while it is made -/
structure TuS (w2 wd : World) (bk ot : Nat) (vh vp v8 : Value) (xs : List OrdR) (ys : List Int) (X : World) : Prop where
  bel : Below w2.heap.size w2 X
  sz : wd.heap.size ≤ X.heap.size
  oth : X.heap[ot]? = some (.cells #[vh, .slice none 0 0, .slice none 0 0] 26)
  bk : ∃ A c, X.heap[bk]? = some (.cells #[vh, vp, .slice A xs.length c] 26) ∧ Own wd.heap.size 60 X (.slice A xs.length c) xs
  sm : Own wd.heap.size 3 X v8 ys
/-- what holds within one round of it -/
structure TrI (w2 wd : World) (bk ot : Nat) (A : Option Addr) (c : Nat) (vh vp v8 : Value) (xs : List OrdR) (ys : List Int) (o : OrdR) (val : Nat → Value) (L : Nat → Bool) (vs : Nat → Value) (X : World) : Prop where
  bel : Below w2.heap.size w2 X
  sz : wd.heap.size ≤ X.heap.size
  rd : ∀ k, (k ≠ 7 ∧ k ≠ 8) → L k = true → vs k = val k
  oth : X.heap[ot]? = some (.cells #[vh, .slice none 0 0, .slice none 0 0] 26)
  blk : L 10 = false → X.heap[bk]? = some (.cells #[vh, vp, .slice A xs.length c] 26)
  own : L 8 = false → Own wd.heap.size 60 X (.slice A xs.length c) xs
  sm : Own wd.heap.size 3 X v8 ys
  f7 : L 7 = true → L 8 = false → ∃ g, vs 7 = .slice (some ⟨g, 0, none⟩) 1 1 ∧ X.heap[g]? = some (.cells #[.int .i64 o.part, .int .i64 o.many, .int .i64 o.due, .int .i64 o.worth] 60)
  f8 : L 8 = true → ∃ A' c', vs 8 = .slice A' (xs.length + 1) c' ∧ Own wd.heap.size 60 X (.slice A' (xs.length + 1) c') (xs ++ [o]) ∧ (L 10 = true → X.heap[bk]? = some (.cells #[vh, vp, .slice A' (xs.length + 1) c'] 26))

/-- the shop whose parts are turned, while its orders are made -/
structure TyS (w2 wp : World) (ot : Nat) (vh vpp : Value) (os : List OrdR) (X : World) : Prop where
  bel : Below w2.heap.size w2 X
  sz : wp.heap.size ≤ X.heap.size
  same : ∀ b, b < wp.heap.size → b ≠ ot → X.heap[b]? = wp.heap[b]?
  own : ∃ A c, X.heap[ot]? = some (.cells #[vh, vpp, .slice A os.length c] 26) ∧ Own wp.heap.size 60 X (.slice A os.length c) os

set_option maxRecDepth 100000 in
set_option maxHeartbeats 4000000 in
theorem turned_walk {B : Nat} {w : World} {v : Value} {s : ShopR} (hs : RdShop B w v s) (hn : ∀ p ∈ s.parts, p.name.size ≤ 9223372036854775807) (hB : B ≤ w.heap.size) (x : Nat) (hx : x < 256) :
    Calls Try.prog 14 #[v, .int .u8 x] w fun e w' => e = .returned (.bool true) ∧ Below w.heap.size w w' := by
  obtain ⟨vh, vp, vo, rfl, ⟨Ah, ch, rfl, _⟩, ⟨Ap, cp, rfl, _⟩, ⟨Ao, co, rfl, _⟩⟩ := id hs
  obtain ⟨W, hW⟩ : ∃ W, W = w.alloc (.cells #[.slice Ah s.hours.length ch, .slice Ap s.parts.length cp, .slice Ao s.orders.length co] 26) := ⟨_, rfl⟩
  have HS := Lib.hid (ShS.start hs hn hB)
  rw [← hW] at HS
  clear hs hn hB
  go_enter Try.func14, Try.ntmps14
  go_upto_region 1 with (fail)
  rw [← hW]
  clear hW
  obtain ⟨c0, c1, c2⟩ := HS.out.cells
  by_cases he : errOf s = 0
  · have heb : (errOf s == 0) = true := by simpa using he
    have He := Lib.hid he
    clear he
    go_upto_region 3 with (go_at_call 36; refine (valid_any HS.out.shop HS.out.nm HS.out.hB).mono ?_; rintro e w1 ⟨rfl, hb⟩; have HS := Lib.hid (HS.out.next hb); obtain ⟨c0, c1, c2⟩ := HS.out.cells; clear hb)
    go_upto_region 4 with (go_at_call 37; refine (chosen_any HS.out.shop HS.out.hB x hx).mono ?_; rintro e w2 ⟨A1, n1, rfl, hr, hb⟩; have HS := Lib.hid (HS.out.next hb); obtain ⟨c0, c1, c2⟩ := HS.out.cells; have HT := Lib.hid hr; clear hb hr)
    have Hup : Hid (∃ xs : List Nat, upTo x s.orders.length = xs.map Int.ofNat ∧ Rise s.orders.length xs) := Lib.hid ⟨_, rfl, rise_range s.orders.length fun i => x.testBit i⟩
    have Htl := Lib.hid (upTo_short x s.orders.length hx)
    generalize upTo x s.orders.length = t at *
    obtain ⟨xs, hxs, hri⟩ := Hup.out
    have Ht := Lib.hid hxs
    have Hri := Lib.hid hri
    clear hxs hri Hup
    refine wp_region_ghost (TuI w2 (.agg #[.slice Ah s.hours.length ch, .slice Ap s.parts.length cp, .slice Ao s.orders.length co]) #[.slice Ah s.hours.length ch, .slice Ap s.parts.length cp, .slice Ao s.orders.length co] #[.slice none 0 0, .slice none 0 0, .slice none 0 0]) (by kernel_rfl) (by kernel_rfl) ?_ ?_ ?_
    · exact ⟨(Below.refl _ _).drew, fun h => (by cases h), fun h => (by cases h), fun h => (by cases h), fun h => (by cases h), fun h => (by cases h)⟩
    · refine ⟨?_, ?_, ?_, ?_, ?_, ?_, trivial⟩
      all_goals
        intro L vs X b hL hw hcl hI hf
        have hb := hI.bel
      · have e2 := hf.old 2 (by kernel_rfl)
        obtain ⟨a0, a1, a2⟩ := (HS.out.next hb).cells
        refine wp_of_run (v := .agg #[.slice Ah s.hours.length ch, .slice Ap s.parts.length cp, .slice Ao s.orders.length co]) (w' := X) (by unfold execOp; go_simp) ?_
        exact ⟨hb, fun _ => rfl, hI.r1, hI.f2, hI.f3, hI.ap⟩
      · have e2 := hf.old 2 (by kernel_rfl)
        obtain ⟨a0, a1, a2⟩ := (HS.out.next hb).cells
        refine wp_of_run (v := .agg #[.slice Ah s.hours.length ch, .slice Ap s.parts.length cp, .slice Ao s.orders.length co]) (w' := X) (by unfold execOp; go_simp) ?_
        exact ⟨hb, hI.r0, fun _ => rfl, hI.f2, hI.f3, hI.ap⟩
      · have n4 : L 4 = false := not_yet hcl 4 hL rfl (by kernel_rfl)
        refine wp_of_run (v := .pointer (some ⟨X.heap.size, 0, none⟩)) (w' := X.alloc (.cells #[.slice none 0 0, .slice none 0 0, .slice none 0 0] 26)) (by unfold execOp; go_simp) ?_
        have hnew : ∃ g, w2.heap.size ≤ g ∧ Value.pointer (some ⟨X.heap.size, 0, none⟩) = .pointer (some ⟨g, 0, none⟩) ∧ (X.alloc (.cells #[.slice none 0 0, .slice none 0 0, .slice none 0 0] 26)).heap[g]? = some (.cells (bif L 4 then #[.slice Ah s.hours.length ch, .slice Ap s.parts.length cp, .slice Ao s.orders.length co] else #[.slice none 0 0, .slice none 0 0, .slice none 0 0]) 26) := ⟨_, hb.size, rfl, by rw [n4]; exact heap_alloc_new _ _⟩
        refine ⟨hb.alloc hb.size _, hI.r0, hI.r1, ?_, ?_, ?_⟩
        · exact fun _ => hnew
        · intro h; obtain ⟨g, q1, q2, q3⟩ := hI.f3 h; exact ⟨g, q1, q2, (Below.heap_alloc _ _ _ (lt_of_block q3)).trans q3⟩
        · intro _ h h2
          obtain ⟨g, q1, q2, q3⟩ := hI.f3 h
          have h2 : Value.pointer (some ⟨X.heap.size, 0, none⟩) = vs 3 := h2
          rw [q2] at h2
          injection h2 with h2; injection h2 with h2; injection h2 with h2 _ _
          have := lt_of_block q3; omega
      · have n5 : L 5 = false := not_yet hcl 5 hL rfl (by kernel_rfl)
        refine wp_of_run (v := .pointer (some ⟨X.heap.size, 0, none⟩)) (w' := X.alloc (.cells #[.slice none 0 0, .slice none 0 0, .slice none 0 0] 26)) (by unfold execOp; go_simp) ?_
        have hnew : ∃ g, w2.heap.size ≤ g ∧ Value.pointer (some ⟨X.heap.size, 0, none⟩) = .pointer (some ⟨g, 0, none⟩) ∧ (X.alloc (.cells #[.slice none 0 0, .slice none 0 0, .slice none 0 0] 26)).heap[g]? = some (.cells (bif L 5 then #[.slice Ah s.hours.length ch, .slice Ap s.parts.length cp, .slice Ao s.orders.length co] else #[.slice none 0 0, .slice none 0 0, .slice none 0 0]) 26) := ⟨_, hb.size, rfl, by rw [n5]; exact heap_alloc_new _ _⟩
        refine ⟨hb.alloc hb.size _, hI.r0, hI.r1, ?_, ?_, ?_⟩
        · intro h; obtain ⟨g, q1, q2, q3⟩ := hI.f2 h; exact ⟨g, q1, q2, (Below.heap_alloc _ _ _ (lt_of_block q3)).trans q3⟩
        · exact fun _ => hnew
        · intro h _ h2
          obtain ⟨g, q1, q2, q3⟩ := hI.f2 h
          have h2 : vs 2 = Value.pointer (some ⟨X.heap.size, 0, none⟩) := h2
          rw [q2] at h2
          injection h2 with h2; injection h2 with h2; injection h2 with h2 _ _
          have := lt_of_block q3; omega
      · have h2 : L 2 = true := done_of hw 2 (by kernel_rfl)
        have h0 : L 0 = true := done_of hw 0 (by kernel_rfl)
        obtain ⟨g, q1, q2, q3⟩ := hI.f2 h2
        rw [hL] at q3
        have q3 : X.heap[g]? = some (.cells #[.slice none 0 0, .slice none 0 0, .slice none 0 0] 26) := q3
        have e6 := (hf.new 2 6 rfl h2 (by simp)).trans q2
        have e38 := (hf.new 0 38 rfl h0 (by simp)).trans (hI.r0 h0)
        have a0 := cellOf q3 0 (v := .slice none 0 0) rfl
        have a1 := cellOf q3 1 (v := .slice none 0 0) rfl
        have a2 := cellOf q3 2 (v := .slice none 0 0) rfl
        have z0 : X.frozen? ⟨g, 0, none⟩ = false := by simp [World.frozen?, q3]
        have z1 : X.frozen? ⟨g, 1, none⟩ = false := by simp [World.frozen?, q3]
        have z2 : X.frozen? ⟨g, 2, none⟩ = false := by simp [World.frozen?, q3]
        refine wp_of_skip (w' := ((X.setCell ⟨g, 0, none⟩ (.slice Ah s.hours.length ch)).setCell ⟨g, 1, none⟩ (.slice Ap s.parts.length cp)).setCell ⟨g, 2, none⟩ (.slice Ao s.orders.length co)) (by unfold execOp; go_simp) ?_
        have k1 := heap_setCell_same _ _ 2 _ _ (.slice Ao s.orders.length co) (heap_setCell_same _ _ 1 _ _ (.slice Ap s.parts.length cp) (heap_setCell_same X _ 0 _ _ (.slice Ah s.hours.length ch) q3))
        refine ⟨((hb.setCell q1 _).setCell q1 _).setCell q1 _, hI.r0, hI.r1, ?_, ?_, hI.ap⟩
        · exact fun _ => ⟨g, q1, q2, k1⟩
        · intro h
          obtain ⟨g9, p1, p2, p3⟩ := hI.f3 h
          have hne : g9 ≠ g := fun e => hI.ap h2 h (by rw [q2, p2, e])
          exact ⟨g9, p1, p2, by rw [Below.heap_setCell _ _ _ _ hne, Below.heap_setCell _ _ _ _ hne, Below.heap_setCell _ _ _ _ hne]; exact p3⟩
      · have h3 : L 3 = true := done_of hw 3 (by kernel_rfl)
        have h1 : L 1 = true := done_of hw 1 (by kernel_rfl)
        obtain ⟨g, q1, q2, q3⟩ := hI.f3 h3
        rw [hL] at q3
        have q3 : X.heap[g]? = some (.cells #[.slice none 0 0, .slice none 0 0, .slice none 0 0] 26) := q3
        have e7 := (hf.new 3 7 rfl h3 (by simp)).trans q2
        have e39 := (hf.new 1 39 rfl h1 (by simp)).trans (hI.r1 h1)
        have a0 := cellOf q3 0 (v := .slice none 0 0) rfl
        have a1 := cellOf q3 1 (v := .slice none 0 0) rfl
        have a2 := cellOf q3 2 (v := .slice none 0 0) rfl
        have z0 : X.frozen? ⟨g, 0, none⟩ = false := by simp [World.frozen?, q3]
        have z1 : X.frozen? ⟨g, 1, none⟩ = false := by simp [World.frozen?, q3]
        have z2 : X.frozen? ⟨g, 2, none⟩ = false := by simp [World.frozen?, q3]
        refine wp_of_skip (w' := ((X.setCell ⟨g, 0, none⟩ (.slice Ah s.hours.length ch)).setCell ⟨g, 1, none⟩ (.slice Ap s.parts.length cp)).setCell ⟨g, 2, none⟩ (.slice Ao s.orders.length co)) (by unfold execOp; go_simp) ?_
        have k1 := heap_setCell_same _ _ 2 _ _ (.slice Ao s.orders.length co) (heap_setCell_same _ _ 1 _ _ (.slice Ap s.parts.length cp) (heap_setCell_same X _ 0 _ _ (.slice Ah s.hours.length ch) q3))
        refine ⟨((hb.setCell q1 _).setCell q1 _).setCell q1 _, hI.r0, hI.r1, ?_, ?_, hI.ap⟩
        · intro h
          obtain ⟨g9, p1, p2, p3⟩ := hI.f2 h
          have hne : g9 ≠ g := fun e => hI.ap h h3 (by rw [q2, p2, e])
          exact ⟨g9, p1, p2, by rw [Below.heap_setCell _ _ _ _ hne, Below.heap_setCell _ _ _ _ hne, Below.heap_setCell _ _ _ _ hne]; exact p3⟩
        · exact fun _ => ⟨g, q1, q2, k1⟩
    · intro vs X hI
      obtain ⟨bk, hb1, k2, b3⟩ := hI.f2 rfl
      obtain ⟨ot, ho1, k3, o3⟩ := hI.f3 rfl
      have hne : bk ≠ ot := fun e => hI.ap rfl rfl (by rw [k2, k3, e])
      have hne2 : ot ≠ bk := Ne.symm hne
      have b3 : X.heap[bk]? = some (.cells #[.slice Ah s.hours.length ch, .slice Ap s.parts.length cp, .slice Ao s.orders.length co] 26) := b3
      have o3 : X.heap[ot]? = some (.cells #[.slice Ah s.hours.length ch, .slice Ap s.parts.length cp, .slice Ao s.orders.length co] 26) := o3
      have hbX := hI.bel
      simp [fill, slotOf, Act.put, k2, k3]
      generalize vs 0 = y0
      generalize vs 1 = y1
      clear hI k2 k3
      simp only [Exit.inBlock, Exit.then]
      have m2 := cellOf b3 2 (v := .slice Ao s.orders.length co) rfl
      have l1 := cellOf o3 1 (v := .slice Ap s.parts.length cp) rfl
      have l2 := cellOf o3 2 (v := .slice Ao s.orders.length co) rfl
      have mf : X.frozen? ⟨bk, 2, none⟩ = false := by simp [World.frozen?, b3]
      have lf1 : X.frozen? ⟨ot, 1, none⟩ = false := by simp [World.frozen?, o3]
      have lf2 : X.frozen? ⟨ot, 2, none⟩ = false := by simp [World.frozen?, o3]
      have B3 := Lib.hid b3
      have O3 := Lib.hid o3
      have HbX := Lib.hid hbX
      have Hb1 := Lib.hid hb1
      have Ho1 := Lib.hid ho1
      clear c0 c1 c2 b3 o3 hbX hb1 ho1
      go_upto_region 6 with (fail)
      obtain ⟨wd, hwd⟩ : ∃ wd, wd = ((X.setCell ⟨bk, 2, none⟩ (.slice none 0 0)).setCell ⟨ot, 2, none⟩ (.slice none 0 0)).setCell ⟨ot, 1, none⟩ (.slice none 0 0) := ⟨_, rfl⟩
      have bD : Below w2.heap.size w2 wd := by rw [hwd]; exact ((HbX.out.setCell Hb1.out _).setCell Ho1.out _).setCell Ho1.out _
      have rB : wd.heap[bk]? = some (.cells #[.slice Ah s.hours.length ch, .slice Ap s.parts.length cp, .slice none 0 0] 26) := by
        rw [hwd, Below.heap_setCell _ _ _ _ hne, Below.heap_setCell _ _ _ _ hne]
        exact heap_setCell_same X _ 2 _ _ _ B3.out
      have rO : wd.heap[ot]? = some (.cells #[.slice Ah s.hours.length ch, .slice none 0 0, .slice none 0 0] 26) := by
        rw [hwd]
        exact heap_setCell_same _ _ 1 _ _ _ (heap_setCell_same _ _ 2 _ _ _ ((Below.heap_setCell _ _ _ _ hne2).trans O3.out))
      rw [← hwd]
      have BD := Lib.hid bD
      have RB := Lib.hid rB
      have RO := Lib.hid rO
      clear hwd bD rB rO m2 l1 l2 mf lf1 lf2 B3 O3 HbX
      have HSD := Lib.hid (HS.out.next BD.out)
      obtain ⟨c0, c1, c2⟩ := HSD.out.cells
      have hol8 := (good_of_valid He.out).olen
      have hbl : bk < wd.heap.size := lt_of_block RB.out
      have hol : ot < wd.heap.size := lt_of_block RO.out
      have htl8 := Htl.out
      obtain ⟨P, hP⟩ : ∃ P : Nat → Bool, P = fun k => decide (s.orders.length - 1 - k ∈ xs) := ⟨_, rfl⟩
      have HP := Lib.hid hP
      clear hP
      have HE0 : Hid (TuS w2 wd bk ot (.slice Ah s.hours.length ch) (.slice Ap s.parts.length cp) (.slice none 0 0) (s.orders.reverse.take 0) (pick 0 P) wd) := Lib.hid ⟨BD.out, Nat.le_refl _, RO.out, ⟨none, 0, RB.out, Own.nil _ _ _⟩, Own.nil _ _ _⟩
      have hwn : wrap64 ((s.orders.length : Int) - 1) = (s.orders.length : Int) - 1 := IntWalk.wrap64_in _ ⟨by omega, by omega⟩
      go_wp2
      go_loopw [8, 9] (fun v8 iv wr => ∃ d : Nat, d ≤ s.orders.length ∧ iv = .int .i64 ((s.orders.length : Int) - 1 - d) ∧ TuS w2 wd bk ot (.slice Ah s.hours.length ch) (.slice Ap s.parts.length cp) v8 (s.orders.reverse.take d) (pick d P) wr) (fun _ iv _ => (intOf iv + 1).toNat)
      case atStart => exact ⟨0, Nat.zero_le _, by simp, HE0.out⟩
      case round =>
        obtain ⟨d, hd, rfl, htu⟩ := hrel
        have HTu := Lib.hid htu
        clear htu hwn
        obtain ⟨c0, c1, c2⟩ := (HS.out.next HTu.out.bel).cells
        by_cases hlt : d < s.orders.length
        · obtain ⟨q, hq⟩ : ∃ q : Nat, q = s.orders.length - 1 - d := ⟨_, rfl⟩
          have hqi : (s.orders.length : Int) - 1 - d = (q : Int) := by omega
          have hql : q < s.orders.length := by omega
          rw [hqi]
          have Hq := Lib.hid hq
          have Hqi := Lib.hid hqi
          clear hq hqi
          have hqb : decide ((0 : Int) ≤ (q : Int)) = true := decide_eq_true (by omega)
          have hqn : (q : Int) < (s.orders.length : Int) := by omega
          obtain ⟨pk, hpk⟩ : ∃ l, l = s.orders.reverse.take d := ⟨_, rfl⟩
          obtain ⟨ys, hys⟩ : ∃ l, l = pick d P := ⟨_, rfl⟩
          rw [← hpk, ← hys] at HTu
          have hpl : pk.length = d := by rw [hpk, List.length_take, List.length_reverse]; omega
          have Hpk := Lib.hid hpk
          have Hys := Lib.hid hys
          have Hpl := Lib.hid hpl
          have hpl8 : pk.length ≤ 8 := by omega
          clear hpk hys hpl
          obtain ⟨A, cA, hblk, hown⟩ := HTu.out.bk
          obtain ⟨vh', vp', vo', hv, _, _, ho⟩ := id HS.out.shop
          cases hv
          obtain ⟨ao, rfl, _, o0, o1, o2, o3⟩ := ho.ord hql
          obtain ⟨o, hoe⟩ : ∃ o, s.orders[q]?.getD default = o := ⟨_, rfl⟩
          rw [hoe] at o0 o1 o2 o3
          have O0 := Lib.hid o0
          have O1 := Lib.hid o1
          have O2 := Lib.hid o2
          have O3 := Lib.hid o3
          have Hoe := Lib.hid hoe
          clear ho o0 o1 o2 o3 hoe c0 c1 c2
          go_upto_region 10 with (fail)
          refine wp_region_ghost (TrI w2 wd bk ot A cA (.slice Ah s.hours.length ch) (.slice Ap s.parts.length cp) u8 pk ys o (fun k => ([.pointer (some ⟨bk, 2, none⟩), .slice A pk.length cA, .pointer (some ⟨w.heap.size, 2, none⟩), .slice (some ao) s.orders.length co, .int .i64 q, .pointer (some (ao.add (q * 4))), .agg #[.int .i64 o.part, .int .i64 o.many, .int .i64 o.due, .int .i64 o.worth], undef, undef, .pointer (some ⟨bk, 2, none⟩), undef] : List Value).getD k undef)) (by kernel_rfl) (by kernel_rfl) ?_ ?_ ?_
          · exact ⟨HTu.out.bel.drew, by simpa using HTu.out.sz, fun _ _ h => (by cases h), HTu.out.oth, fun _ => hblk, fun _ => hown.qt ⟨1, rfl⟩, HTu.out.sm.qt ⟨1, rfl⟩, fun h => (by cases h), fun h => (by cases h)⟩
          · refine ⟨?_, ?_, ?_, ?_, ?_, ?_, ?_, ?_, ?_, ?_, ?_, trivial⟩
            all_goals
              intro L vs X b hL hw hcl hI hf
              have hb := hI.bel
            · have e6 := hf.old 6 (by kernel_rfl)
              refine wp_of_run (v := .pointer (some ⟨bk, 2, none⟩)) (w' := X) (by unfold execOp; go_simp) ?_
              exact ⟨hb, hI.sz, rd_step hI.rd (fun _ => rfl), hI.oth, hI.blk, hI.own, hI.sm, hI.f7, hI.f8⟩
            · have h0 : L 0 = true := done_of hw 0 (by kernel_rfl)
              have e51 : b.tmps[51]?.getD undef = .pointer (some ⟨bk, 2, none⟩) := (hf.new 0 51 rfl h0 (by simp)).trans (hI.rd 0 (by decide) h0)
              have a0 := cellOf (hI.blk (not_yet hcl 10 (not_yet hcl 8 hL rfl (by kernel_rfl)) rfl (by kernel_rfl))) 2 (v := .slice A pk.length cA) rfl
              refine wp_of_run (v := .slice A pk.length cA) (w' := X) (by unfold execOp; go_simp) ?_
              exact ⟨hb, hI.sz, rd_step hI.rd (fun _ => rfl), hI.oth, hI.blk, hI.own, hI.sm, hI.f7, hI.f8⟩
            · have e2 := hf.old 2 (by kernel_rfl)
              refine wp_of_run (v := .pointer (some ⟨w.heap.size, 2, none⟩)) (w' := X) (by unfold execOp; go_simp) ?_
              exact ⟨hb, hI.sz, rd_step hI.rd (fun _ => rfl), hI.oth, hI.blk, hI.own, hI.sm, hI.f7, hI.f8⟩
            · have h2 : L 2 = true := done_of hw 2 (by kernel_rfl)
              have e53 : b.tmps[53]?.getD undef = .pointer (some ⟨w.heap.size, 2, none⟩) := (hf.new 2 53 rfl h2 (by simp)).trans (hI.rd 2 (by decide) h2)
              obtain ⟨_, _, a0⟩ := (HS.out.next hb).cells
              refine wp_of_run (v := .slice (some ao) s.orders.length co) (w' := X) (by unfold execOp; go_simp) ?_
              exact ⟨hb, hI.sz, rd_step hI.rd (fun _ => rfl), hI.oth, hI.blk, hI.own, hI.sm, hI.f7, hI.f8⟩
            · have e9 := hf.old 9 (by kernel_rfl)
              refine wp_of_run (v := .int .i64 q) (w' := X) (by unfold execOp; go_simp) ?_
              exact ⟨hb, hI.sz, rd_step hI.rd (fun _ => rfl), hI.oth, hI.blk, hI.own, hI.sm, hI.f7, hI.f8⟩
            · have h3 : L 3 = true := done_of hw 3 (by kernel_rfl)
              have e54 : b.tmps[54]?.getD undef = .slice (some ao) s.orders.length co := (hf.new 3 54 rfl h3 (by simp)).trans (hI.rd 3 (by decide) h3)
              have h4 : L 4 = true := done_of hw 4 (by kernel_rfl)
              have e55 : b.tmps[55]?.getD undef = .int .i64 q := (hf.new 4 55 rfl h4 (by simp)).trans (hI.rd 4 (by decide) h4)
              refine wp_of_run (v := .pointer (some (ao.add (q * 4)))) (w' := X) (by unfold execOp; go_simp) ?_
              exact ⟨hb, hI.sz, rd_step hI.rd (fun _ => rfl), hI.oth, hI.blk, hI.own, hI.sm, hI.f7, hI.f8⟩
            · have h5 : L 5 = true := done_of hw 5 (by kernel_rfl)
              have e56 : b.tmps[56]?.getD undef = .pointer (some (ao.add (q * 4))) := (hf.new 5 56 rfl h5 (by simp)).trans (hI.rd 5 (by decide) h5)
              have a0 := (hb.cell (cell_lt O0.out)).trans O0.out
              have a1 := (hb.cell (cell_lt O1.out)).trans O1.out
              have a2 := (hb.cell (cell_lt O2.out)).trans O2.out
              have a3 := (hb.cell (cell_lt O3.out)).trans O3.out
              refine wp_of_run (v := .agg #[.int .i64 o.part, .int .i64 o.many, .int .i64 o.due, .int .i64 o.worth]) (w' := X) (by unfold execOp; go_simp) ?_
              exact ⟨hb, hI.sz, rd_step hI.rd (fun _ => rfl), hI.oth, hI.blk, hI.own, hI.sm, hI.f7, hI.f8⟩
            · have n8 : L 8 = false := not_yet hcl 8 hL rfl (by kernel_rfl)
              have h6 : L 6 = true := done_of hw 6 (by kernel_rfl)
              have e57 : b.tmps[57]?.getD undef = .agg #[.int .i64 o.part, .int .i64 o.many, .int .i64 o.due, .int .i64 o.worth] := (hf.new 6 57 rfl h6 (by simp)).trans (hI.rd 6 (by decide) h6)
              refine wp_of_run (v := .slice (some ⟨X.heap.size, 0, none⟩) 1 1) (w' := X.alloc (.cells #[.int .i64 o.part, .int .i64 o.many, .int .i64 o.due, .int .i64 o.worth] 60)) (by unfold execOp; go_simp) ?_
              have hk : ∀ {g o'}, X.heap[g]? = some o' → (X.alloc (.cells #[.int .i64 o.part, .int .i64 o.many, .int .i64 o.due, .int .i64 o.worth] 60)).heap[g]? = some o' := fun h => (Below.heap_alloc _ _ _ (lt_of_block h)).trans h
              exact ⟨hb.alloc hb.size _, by have := hI.sz; simp; omega, rd_step hI.rd (fun h => absurd rfl h.1), hk hI.oth, fun h => hk (hI.blk h), fun h => (hI.own h).alloc _, hI.sm.alloc _, fun _ _ => ⟨_, rfl, heap_alloc_new _ _⟩, fun h => absurd (n8.symm.trans h) (by simp)⟩
            · have n10 : L 10 = false := not_yet hcl 10 hL rfl (by kernel_rfl)
              have h7 : L 7 = true := done_of hw 7 (by kernel_rfl)
              have h1 : L 1 = true := done_of hw 1 (by kernel_rfl)
              have e52 : b.tmps[52]?.getD undef = .slice A pk.length cA := (hf.new 1 52 rfl h1 (by simp)).trans (hI.rd 1 (by decide) h1)
              obtain ⟨g, k1, k2⟩ := hI.f7 h7 hL
              have e58 := (hf.new 7 58 rfl h7 (by simp)).trans k1
              obtain ⟨A2, c2, w', hrun, hown2, hb2, hgr⟩ := append_ords (ys := [o]) (hI.own hL) (ord_row k2) (by simp; omega) hI.sz
              refine wp_append_run (.tmp 52) (.tmp 58) 24 rfl (by unfold Act.eval; simpa using e52) (by unfold Act.eval; simpa using e58) hrun ⟨_, rfl, ?_⟩
              have hbk := (hb2.block _ hbl).trans (hI.blk n10)
              exact ⟨hb.trans (hb2.mono BD.out.size), Nat.le_trans hI.sz hb2.size, rd_step hI.rd (fun h => absurd rfl h.2), (hb2.block _ hol).trans hI.oth, fun _ => hbk, fun h => (by cases h), own_kept (hI.own hL) hI.sm hgr, fun _ h => (by cases h), fun _ => ⟨A2, c2, rfl, hown2, fun h => absurd (n10.symm.trans h) (by simp)⟩⟩
            · have e6 := hf.old 6 (by kernel_rfl)
              refine wp_of_run (v := .pointer (some ⟨bk, 2, none⟩)) (w' := X) (by unfold execOp; go_simp) ?_
              exact ⟨hb, hI.sz, rd_step hI.rd (fun _ => rfl), hI.oth, hI.blk, hI.own, hI.sm, hI.f7, hI.f8⟩
            · have h8 : L 8 = true := done_of hw 8 (by kernel_rfl)
              have h9 : L 9 = true := done_of hw 9 (by kernel_rfl)
              have e60 : b.tmps[60]?.getD undef = .pointer (some ⟨bk, 2, none⟩) := (hf.new 9 60 rfl h9 (by simp)).trans (hI.rd 9 (by decide) h9)
              obtain ⟨A2, c2, k1, k2, _⟩ := hI.f8 h8
              have e59 := (hf.new 8 59 rfl h8 (by simp)).trans k1
              have hbk := hI.blk hL
              have a0 := cellOf hbk 2 (v := .slice A pk.length cA) rfl
              have a1 : X.frozen? ⟨bk, 2, none⟩ = false := by simp [World.frozen?, hbk]
              have a2 := heap_setCell_same X _ 2 _ _ (.slice A2 (pk.length + 1) c2) hbk
              refine wp_of_skip (w' := X.setCell ⟨bk, 2, none⟩ (.slice A2 (pk.length + 1) c2)) (by unfold execOp; go_simp) ?_
              exact ⟨hb.setCell Hb1.out _, by rw [World.size_setCell]; exact hI.sz, rd_step hI.rd (fun _ => rfl), (Below.heap_setCell _ _ _ _ hne2).trans hI.oth, fun h => (by cases h), fun h => absurd (h8.symm.trans h) (by simp), hI.sm.other hbl _, fun _ h => absurd (h8.symm.trans h) (by simp), fun _ => ⟨A2, c2, k1, k2.other hbl _, fun _ => a2⟩⟩
          · intro vs X hI
            obtain ⟨A2, c2, k1, k2, k3⟩ := hI.f8 rfl
            simp [fill, slotOf, Act.put, k1]
            generalize vs 0 = z0
            generalize vs 1 = z1
            generalize vs 2 = z2
            generalize vs 3 = z3
            generalize vs 4 = z4
            generalize vs 5 = z5
            generalize vs 6 = z6
            generalize vs 7 = z7
            generalize vs 9 = z9
            simp only [Exit.inBlock, Exit.then]
            have hpk1 : s.orders.reverse.take (d + 1) = pk ++ [o] := by
              have hdl : d < s.orders.reverse.length := by rw [List.length_reverse]; exact hlt
              rw [List.take_add_one, List.getElem?_eq_getElem hdl, Option.toList_some, ← Hpk.out]
              have e1 : s.orders.reverse[d] = o := by
                rw [List.getElem_reverse, ← Hoe.out, List.getElem?_eq_getElem hql, Option.getD_some]
                congr 1
                exact Hq.out.symm
              rw [e1]
            have e2 : (pk ++ [o]).length = pk.length + 1 := by simp
            have HTX : Hid (TuS w2 wd bk ot (.slice Ah s.hours.length ch) (.slice Ap s.parts.length cp) u8 (pk ++ [o]) ys X) := Lib.hid ⟨hI.bel, hI.sz, hI.oth, ⟨A2, c2, by rw [e2]; exact k3 rfl, by rw [e2]; exact k2⟩, hI.sm⟩
            have Hpk1 := Lib.hid hpk1
            have m2 := cellOf (k3 rfl) 2 (v := .slice A2 (pk.length + 1) c2) rfl
            obtain ⟨A8, c8, hu8, _, _⟩ := hI.sm.form
            subst hu8
            have HTq := Lib.hid (HT.out.below hI.bel)
            have hxq : decide ((q : Int) ∈ t) = P d := by
              rw [Ht.out, HP.out]
              show _ = decide (s.orders.length - 1 - d ∈ xs)
              rw [← Hq.out]
              exact decide_eq_decide.2 mem_cast
            have Hxq := Lib.hid hxq
            clear hpk1 k1 k2 k3 hI hblk hown e2 hxq
            have hqs : wrap64 ((q : Int) - 1) = (q : Int) - 1 := IntWalk.wrap64_in _ ⟨by omega, by omega⟩
            cases hpd : P d with
            | false =>
              rw [hpd] at Hxq
              have hfin : TuS w2 wd bk ot (.slice Ah s.hours.length ch) (.slice Ap s.parts.length cp) (.slice A8 ys.length c8) (s.orders.reverse.take (d + 1)) (pick (d + 1) P) X := by
                rw [pick_succ, hpd, Hpk1.out, ← Hys.out]; simpa using HTX.out
              have Hfin := Lib.hid hfin
              clear hfin hpd
              go_wp2_with (go_at_call 43; refine (has_any HTq.out (by omega) (q : Int)).mono ?_; rw [Hxq.out]; rintro e wy ⟨rfl, hwy⟩; have hwy := hwy.symm; subst hwy)
              go_roundw
              case rel => exact ⟨d + 1, by omega, by have := Hqi.out; congr 1 <;> omega, Hfin.out⟩
              case measure => simp [intOf]
            | true =>
              rw [hpd] at Hxq
              go_upto_region 12 with (go_at_call 43; refine (has_any HTq.out (by omega) (q : Int)).mono ?_; rw [Hxq.out]; rintro e wy ⟨rfl, hwy⟩; have hwy := hwy.symm; subst hwy)
              have hyl : ys.length ≤ 100000 := by
                have := pick_len d P
                rw [← Hys.out] at this
                omega
              obtain ⟨A9, c9, w', hrun, hown9, hb9, _, _, _, hsz9, hk9⟩ := append_int2 HTX.out.sm (pk.length : Int) hyl HTX.out.sz
              have hfin : TuS w2 wd bk ot (.slice Ah s.hours.length ch) (.slice Ap s.parts.length cp) (.slice A9 (ys.length + 1) c9) (s.orders.reverse.take (d + 1)) (pick (d + 1) P) w' := by
                rw [pick_succ, hpd, Hpk1.out, ← Hys.out]
                rw [Hpl.out] at hown9
                simp only [if_true, Bool.cond_true]
                obtain ⟨A5, c5, g1, g2⟩ := HTX.out.bk
                exact ⟨HTX.out.bel.trans (hb9.mono BD.out.size), Nat.le_trans HTX.out.sz hb9.size, (hb9.block _ hol).trans HTX.out.oth, ⟨A5, c5, (hb9.block _ hbl).trans g1, own_keep g2 hk9⟩, hown9⟩
              have Hfin := Lib.hid hfin
              have Hhk := Lib.hid hk9
              clear hfin hpd hown9 hb9 hsz9 hk9 hyl
              go_wp2_with (at_builtin; refine wpList_append_run rfl _ _ _ rfl rfl rfl hrun ?_)
              go_roundw
              case rel => exact ⟨d + 1, by omega, by have := Hqi.out; congr 1 <;> omega, Hfin.out⟩
              case measure => simp [intOf]
        · have hde : d = s.orders.length := by omega
          subst hde
          have hq1 : (s.orders.length : Int) - 1 - (s.orders.length : Int) = -1 := by omega
          rw [hq1]
          have hfull : s.orders.reverse.take s.orders.length = s.orders.reverse := List.take_of_length_le (by simp)
          have hpf : pick s.orders.length P = (turnX s.orders.length xs).map Int.ofNat := by
            have h1 := rise_filter (turn_rise Hri.out)
            rw [h1]
            unfold pick
            congr 1
            refine List.filter_congr fun k hk => ?_
            have hk := List.mem_range.1 hk
            rw [HP.out]
            refine decide_eq_decide.2 ⟨fun h => ?_, fun h => ?_⟩
            · unfold turnX
              exact List.mem_reverse.2 (List.mem_map.2 ⟨_, h, by omega⟩)
            · unfold turnX at h
              obtain ⟨i, hi, e⟩ := List.mem_map.1 (List.mem_reverse.1 h)
              have := Hri.out.2 i hi
              rw [show s.orders.length - 1 - k = i by omega]
              exact hi
          rw [hfull, hpf] at HTu
          obtain ⟨we, rfl⟩ : ∃ x, x = wr := ⟨_, rfl⟩
          have hwp : wrap64 ((s.parts.length : Int) - 1) = (s.parts.length : Int) - 1 := IntWalk.wrap64_in _ ⟨by have := (good_of_valid He.out).plen; omega, by have := (good_of_valid He.out).plen; omega⟩
          clear hfull hpf hq1 hlt HE0 HP
          go_wp2
          have hoe : ot < we.heap.size := lt_of_block HTu.out.oth
          have hwe : w2.heap.size ≤ we.heap.size := HTu.out.bel.size
          have HV0 : Hid (TvS w2 we ot (.slice Ah s.hours.length ch) (s.parts.reverse.take 0) we) := Lib.hid ⟨HTu.out.bel, Nat.le_refl _, fun _ _ _ => rfl, none, 0, HTu.out.oth, Own.nil _ _ _⟩
          go_loopw [10] (fun iv wr => ∃ d : Nat, d ≤ s.parts.length ∧ iv = .int .i64 ((s.parts.length : Int) - 1 - d) ∧ TvS w2 we ot (.slice Ah s.hours.length ch) (s.parts.reverse.take d) wr) (fun iv _ => (intOf iv + 1).toNat)
          case atStart => exact ⟨0, Nat.zero_le _, by simp, HV0.out⟩
          case round =>
            obtain ⟨d, hd, rfl, htv⟩ := hrel
            have HTv := Lib.hid htv
            clear htv hwp
            obtain ⟨c0, c1, c2⟩ := (HS.out.next HTv.out.bel).cells
            by_cases hlt : d < s.parts.length
            · obtain ⟨q, hq⟩ : ∃ q : Nat, q = s.parts.length - 1 - d := ⟨_, rfl⟩
              have hqi : (s.parts.length : Int) - 1 - d = (q : Int) := by omega
              have hql : q < s.parts.length := by omega
              rw [hqi]
              have Hq := Lib.hid hq
              have Hqi := Lib.hid hqi
              clear hq hqi
              have hqb : decide ((0 : Int) ≤ (q : Int)) = true := decide_eq_true (by omega)
              have hqn : (q : Int) < (s.parts.length : Int) := by omega
              obtain ⟨pk, hpk⟩ : ∃ l, l = s.parts.reverse.take d := ⟨_, rfl⟩
              rw [← hpk] at HTv
              have hpl : pk.length = d := by rw [hpk, List.length_take, List.length_reverse]; omega
              have hpp := (good_of_valid He.out).plen
              have Hpk := Lib.hid hpk
              have Hpl := Lib.hid hpl
              have hpl8 : pk.length ≤ 8 := by omega
              clear hpk hpl
              obtain ⟨A, cA, hblk, hown⟩ := HTv.out.own
              obtain ⟨vh', vp', vo', hv, _, hpr, _⟩ := id HS.out.shop
              cases hv
              obtain ⟨ap, rfl, _, o0, o1, o2, o3⟩ := hpr.part hql
              obtain ⟨p, hoe2⟩ : ∃ p, s.parts[q]?.getD default = p := ⟨_, rfl⟩
              rw [hoe2] at o0 o1 o2 o3
              have P0 := Lib.hid o0
              have P1 := Lib.hid o1
              have P2 := Lib.hid o2
              have P3 := Lib.hid o3
              have Hoe := Lib.hid hoe2
              clear hpr o0 o1 o2 o3 hoe2 c0 c1 c2
              go_upto_region 16 with (fail)
              refine wp_region_ghost (TwI w2 we ot A cA (.slice Ah s.hours.length ch) pk p (fun k => ([.pointer (some ⟨ot, 1, none⟩), .slice A pk.length cA, .pointer (some ⟨w.heap.size, 1, none⟩), .slice (some ap) s.parts.length cp, .int .i64 q, .pointer (some (ap.add (q * 4))), .agg #[.string p.name, .int .i64 p.batch, .int .i64 p.long, .int .i64 p.stock], undef, undef, .pointer (some ⟨ot, 1, none⟩), undef] : List Value).getD k undef)) (by kernel_rfl) (by kernel_rfl) ?_ ?_ ?_
              · exact ⟨HTv.out.bel.drew, by simpa using HTv.out.sz, fun _ _ h => (by cases h), HTv.out.same, fun _ => hblk, fun _ => hown.qt ⟨1, rfl⟩, fun h => (by cases h), fun h => (by cases h)⟩
              · refine ⟨?_, ?_, ?_, ?_, ?_, ?_, ?_, ?_, ?_, ?_, ?_, trivial⟩
                all_goals
                  intro L vs X b hL hw hcl hI hf
                  have hb := hI.bel
                · have e7 := hf.old 7 (by kernel_rfl)
                  refine wp_of_run (v := .pointer (some ⟨ot, 1, none⟩)) (w' := X) (by unfold execOp; go_simp) ?_
                  exact ⟨hb, hI.sz, rd_step hI.rd (fun _ => rfl), hI.same, hI.blk, hI.own, hI.f7, hI.f8⟩
                · have h0 : L 0 = true := done_of hw 0 (by kernel_rfl)
                  have e79 : b.tmps[79]?.getD undef = .pointer (some ⟨ot, 1, none⟩) := (hf.new 0 79 rfl h0 (by simp)).trans (hI.rd 0 (by decide) h0)
                  have a0 := cellOf (hI.blk (not_yet hcl 10 (not_yet hcl 8 hL rfl (by kernel_rfl)) rfl (by kernel_rfl))) 1 (v := .slice A pk.length cA) rfl
                  refine wp_of_run (v := .slice A pk.length cA) (w' := X) (by unfold execOp; go_simp) ?_
                  exact ⟨hb, hI.sz, rd_step hI.rd (fun _ => rfl), hI.same, hI.blk, hI.own, hI.f7, hI.f8⟩
                · have e2 := hf.old 2 (by kernel_rfl)
                  refine wp_of_run (v := .pointer (some ⟨w.heap.size, 1, none⟩)) (w' := X) (by unfold execOp; go_simp) ?_
                  exact ⟨hb, hI.sz, rd_step hI.rd (fun _ => rfl), hI.same, hI.blk, hI.own, hI.f7, hI.f8⟩
                · have h2 : L 2 = true := done_of hw 2 (by kernel_rfl)
                  have e81 : b.tmps[81]?.getD undef = .pointer (some ⟨w.heap.size, 1, none⟩) := (hf.new 2 81 rfl h2 (by simp)).trans (hI.rd 2 (by decide) h2)
                  obtain ⟨_, a0, _⟩ := (HS.out.next hb).cells
                  refine wp_of_run (v := .slice (some ap) s.parts.length cp) (w' := X) (by unfold execOp; go_simp) ?_
                  exact ⟨hb, hI.sz, rd_step hI.rd (fun _ => rfl), hI.same, hI.blk, hI.own, hI.f7, hI.f8⟩
                · have e10 := hf.old 10 (by kernel_rfl)
                  refine wp_of_run (v := .int .i64 q) (w' := X) (by unfold execOp; go_simp) ?_
                  exact ⟨hb, hI.sz, rd_step hI.rd (fun _ => rfl), hI.same, hI.blk, hI.own, hI.f7, hI.f8⟩
                · have h3 : L 3 = true := done_of hw 3 (by kernel_rfl)
                  have e82 : b.tmps[82]?.getD undef = .slice (some ap) s.parts.length cp := (hf.new 3 82 rfl h3 (by simp)).trans (hI.rd 3 (by decide) h3)
                  have h4 : L 4 = true := done_of hw 4 (by kernel_rfl)
                  have e83 : b.tmps[83]?.getD undef = .int .i64 q := (hf.new 4 83 rfl h4 (by simp)).trans (hI.rd 4 (by decide) h4)
                  refine wp_of_run (v := .pointer (some (ap.add (q * 4)))) (w' := X) (by unfold execOp; go_simp) ?_
                  exact ⟨hb, hI.sz, rd_step hI.rd (fun _ => rfl), hI.same, hI.blk, hI.own, hI.f7, hI.f8⟩
                · have h5 : L 5 = true := done_of hw 5 (by kernel_rfl)
                  have e84 : b.tmps[84]?.getD undef = .pointer (some (ap.add (q * 4))) := (hf.new 5 84 rfl h5 (by simp)).trans (hI.rd 5 (by decide) h5)
                  have a0 := (hb.cell (cell_lt P0.out)).trans P0.out
                  have a1 := (hb.cell (cell_lt P1.out)).trans P1.out
                  have a2 := (hb.cell (cell_lt P2.out)).trans P2.out
                  have a3 := (hb.cell (cell_lt P3.out)).trans P3.out
                  refine wp_of_run (v := .agg #[.string p.name, .int .i64 p.batch, .int .i64 p.long, .int .i64 p.stock]) (w' := X) (by unfold execOp; go_simp) ?_
                  exact ⟨hb, hI.sz, rd_step hI.rd (fun _ => rfl), hI.same, hI.blk, hI.own, hI.f7, hI.f8⟩
                · have n8 : L 8 = false := not_yet hcl 8 hL rfl (by kernel_rfl)
                  have h6 : L 6 = true := done_of hw 6 (by kernel_rfl)
                  have e85 : b.tmps[85]?.getD undef = .agg #[.string p.name, .int .i64 p.batch, .int .i64 p.long, .int .i64 p.stock] := (hf.new 6 85 rfl h6 (by simp)).trans (hI.rd 6 (by decide) h6)
                  refine wp_of_run (v := .slice (some ⟨X.heap.size, 0, none⟩) 1 1) (w' := X.alloc (.cells #[.string p.name, .int .i64 p.batch, .int .i64 p.long, .int .i64 p.stock] 57)) (by unfold execOp; go_simp) ?_
                  exact ⟨hb.alloc hb.size _, by have := hI.sz; simp; omega, rd_step hI.rd (fun h => absurd rfl h.1), fun g hg hn => (Below.heap_alloc _ _ _ (Nat.lt_of_lt_of_le hg hI.sz)).trans (hI.same g hg hn), fun h => (Below.heap_alloc _ _ _ (lt_of_block (hI.blk h))).trans (hI.blk h), fun h => (hI.own h).alloc _, fun _ _ => ⟨_, rfl, heap_alloc_new _ _⟩, fun h => absurd (n8.symm.trans h) (by simp)⟩
                · have n10 : L 10 = false := not_yet hcl 10 hL rfl (by kernel_rfl)
                  have h7 : L 7 = true := done_of hw 7 (by kernel_rfl)
                  have h1 : L 1 = true := done_of hw 1 (by kernel_rfl)
                  have e80 : b.tmps[80]?.getD undef = .slice A pk.length cA := (hf.new 1 80 rfl h1 (by simp)).trans (hI.rd 1 (by decide) h1)
                  obtain ⟨g, k1, k2⟩ := hI.f7 h7 hL
                  have e86 := (hf.new 7 86 rfl h7 (by simp)).trans k1
                  obtain ⟨A2, c2, w', hrun, hown2, hb2, hgr⟩ := append_part_at (hI.own hL) k2 (by omega) hI.sz
                  refine wp_append_run (.tmp 80) (.tmp 86) 23 rfl (by unfold Act.eval; simpa using e80) (by unfold Act.eval; simpa using e86) hrun ⟨_, rfl, ?_⟩
                  have hbk := (hb2.block _ hoe).trans (hI.blk n10)
                  exact ⟨hb.trans (hb2.mono hwe), Nat.le_trans hI.sz hb2.size, rd_step hI.rd (fun h => absurd rfl h.2), fun g hg hn => (hb2.block _ hg).trans (hI.same g hg hn), fun _ => hbk, fun h => (by cases h), fun _ h => (by cases h), fun _ => ⟨A2, c2, rfl, hown2, fun h => absurd (n10.symm.trans h) (by simp)⟩⟩
                · have e7 := hf.old 7 (by kernel_rfl)
                  refine wp_of_run (v := .pointer (some ⟨ot, 1, none⟩)) (w' := X) (by unfold execOp; go_simp) ?_
                  exact ⟨hb, hI.sz, rd_step hI.rd (fun _ => rfl), hI.same, hI.blk, hI.own, hI.f7, hI.f8⟩
                · have h8 : L 8 = true := done_of hw 8 (by kernel_rfl)
                  have h9 : L 9 = true := done_of hw 9 (by kernel_rfl)
                  have e88 : b.tmps[88]?.getD undef = .pointer (some ⟨ot, 1, none⟩) := (hf.new 9 88 rfl h9 (by simp)).trans (hI.rd 9 (by decide) h9)
                  obtain ⟨A2, c2, k1, k2, _⟩ := hI.f8 h8
                  have e87 := (hf.new 8 87 rfl h8 (by simp)).trans k1
                  have hbk := hI.blk hL
                  have a0 := cellOf hbk 1 (v := .slice A pk.length cA) rfl
                  have a1 : X.frozen? ⟨ot, 1, none⟩ = false := by simp [World.frozen?, hbk]
                  have a2 := heap_setCell_same X _ 1 _ _ (.slice A2 (pk.length + 1) c2) hbk
                  refine wp_of_skip (w' := X.setCell ⟨ot, 1, none⟩ (.slice A2 (pk.length + 1) c2)) (by unfold execOp; go_simp) ?_
                  exact ⟨hb.setCell Ho1.out _, by rw [World.size_setCell]; exact hI.sz, rd_step hI.rd (fun _ => rfl), fun g hg hn => (Below.heap_setCell _ _ _ _ hn).trans (hI.same g hg hn), fun h => (by cases h), fun h => absurd (h8.symm.trans h) (by simp), fun _ h => absurd (h8.symm.trans h) (by simp), fun _ => ⟨A2, c2, k1, k2.other hoe _, fun _ => a2⟩⟩
              · intro vs X hI
                obtain ⟨A2, c2, k1, k2, k3⟩ := hI.f8 rfl
                simp [fill, slotOf, Act.put, k1]
                generalize vs 0 = z0
                generalize vs 1 = z1
                generalize vs 2 = z2
                generalize vs 3 = z3
                generalize vs 4 = z4
                generalize vs 5 = z5
                generalize vs 6 = z6
                generalize vs 7 = z7
                generalize vs 9 = z9
                simp only [Exit.inBlock, Exit.then]
                have hpk1 : s.parts.reverse.take (d + 1) = pk ++ [p] := by
                  have hdl : d < s.parts.reverse.length := by rw [List.length_reverse]; exact hlt
                  rw [List.take_add_one, List.getElem?_eq_getElem hdl, Option.toList_some, ← Hpk.out]
                  have e1 : s.parts.reverse[d] = p := by
                    rw [List.getElem_reverse, ← Hoe.out, List.getElem?_eq_getElem hql, Option.getD_some]
                    congr 1
                    exact Hq.out.symm
                  rw [e1]
                have e2 : (pk ++ [p]).length = pk.length + 1 := by simp
                have HTX : Hid (TvS w2 we ot (.slice Ah s.hours.length ch) (s.parts.reverse.take (d + 1)) X) := Lib.hid (by
                  rw [hpk1]
                  exact ⟨hI.bel, hI.sz, hI.same, A2, c2, by rw [e2]; exact k3 rfl, by rw [e2]; exact k2⟩)
                have hqs : wrap64 ((q : Int) - 1) = (q : Int) - 1 := IntWalk.wrap64_in _ ⟨by omega, by omega⟩
                clear hpk1 k1 k2 k3 hI hblk hown e2
                go_wp2
                go_roundw
                case rel => exact ⟨d + 1, by omega, by have := Hqi.out; congr 1 <;> omega, HTX.out⟩
                case measure => simp [intOf]
            · have hde : d = s.parts.length := by omega
              subst hde
              have hq1 : (s.parts.length : Int) - 1 - (s.parts.length : Int) = -1 := by omega
              rw [hq1]
              have hfull : s.parts.reverse.take s.parts.length = s.parts.reverse := List.take_of_length_le (by simp)
              rw [hfull] at HTv
              obtain ⟨wp, rfl⟩ : ∃ x, x = wr := ⟨_, rfl⟩
              obtain ⟨A5, c5, hblk5, hown5⟩ := HTv.out.own
              have Hblk5 := Lib.hid hblk5
              have Hown5 := Lib.hid hown5
              have Hg := Lib.hid (good_of_valid He.out)
              obtain ⟨oe, hoe3⟩ : ∃ l : List OrdR, l = s.orders.map (flipO s.parts.length) := ⟨_, rfl⟩
              have Hoe3 := Lib.hid hoe3
              have hol3 : oe.length = s.orders.length := by rw [hoe3, List.length_map]
              have Hol := Lib.hid hol3
              have Hoat : Hid (∀ k, k < s.orders.length → oe[k]?.getD default = flipO s.parts.length (s.orders[k]?.getD default) ∧ OrdOK s.parts.length s.hours.length (s.orders[k]?.getD default)) := Lib.hid fun k hk => by
                have hh := Hg.out.orders _ (List.getElem_mem hk)
                rw [hoe3, List.getElem?_map, List.getElem?_eq_getElem hk]
                exact ⟨rfl, hh⟩
              have hpp := Hg.out.plen
              have hwp : wrap64 ((s.parts.length : Int) - 1) = (s.parts.length : Int) - 1 := IntWalk.wrap64_in _ ⟨by omega, by omega⟩
              clear hfull hq1 hlt HV0 hblk5 hown5 hoe3 hol3
              have hop : ot < wp.heap.size := lt_of_block Hblk5.out
              have hwpp : w2.heap.size ≤ wp.heap.size := HTv.out.bel.size
              have HY0 : Hid (TyS w2 wp ot (.slice Ah s.hours.length ch) (.slice A5 s.parts.reverse.length c5) (oe.take 0) wp) := Lib.hid ⟨HTv.out.bel, Nat.le_refl _, fun _ _ _ => rfl, none, 0, Hblk5.out, Own.nil _ _ _⟩
              go_wp2
              go_loopw [11] (fun iv wr => ∃ k : Nat, k ≤ s.orders.length ∧ iv = .int .i64 k ∧ TyS w2 wp ot (.slice Ah s.hours.length ch) (.slice A5 s.parts.reverse.length c5) (oe.take k) wr) (fun iv _ => s.orders.length - (intOf iv).toNat)
              case atStart => exact ⟨0, Nat.zero_le _, rfl, HY0.out⟩
              case round =>
                obtain ⟨k, hk, rfl, hty⟩ := hrel
                have HTy := Lib.hid hty
                clear hty
                obtain ⟨c0, c1, c2⟩ := (HS.out.next HTy.out.bel).cells
                by_cases hlt : k < s.orders.length
                · obtain ⟨pk, hpk⟩ : ∃ l, l = oe.take k := ⟨_, rfl⟩
                  rw [← hpk] at HTy
                  have Hpk := Lib.hid hpk
                  clear hpk
                  obtain ⟨A, cA, hblk, hown⟩ := HTy.out.own
                  have Hblk := Lib.hid hblk
                  have Hown := Lib.hid hown
                  obtain ⟨vh', vp', vo', hv, _, _, ho⟩ := id (HS.out.next HTy.out.bel).shop
                  cases hv
                  obtain ⟨ao, rfl, _, o0, o1, o2, o3⟩ := ho.ord hlt
                  obtain ⟨hoe1, hoo⟩ := Hoat.out k hlt
                  clear ho hblk hown
                  generalize s.orders[k]?.getD default = o at *
                  go_upto_region 21 with (fail)
                  obtain ⟨W7, hW7, r7, z7, b7⟩ := box_any wr #[.int .i64 o.part, .int .i64 o.many, .int .i64 o.due, .int .i64 o.worth] 60
                  rw [← hW7]
                  have y0 := cellOf r7 0 (v := .int .i64 o.part) rfl
                  have f0 : W7.frozen? ⟨wr.heap.size, 0, none⟩ = false := by simp [World.frozen?, r7]
                  have R7 := Lib.hid r7
                  have B7 := Lib.hid b7
                  obtain ⟨c0, c1, c2⟩ := (HS.out.next (HTy.out.bel.trans (b7.mono HTy.out.bel.size))).cells
                  have hop2 := hoo.part
                  have hq4 : wrap64 ((s.parts.length : Int) - 1 - o.part) = (s.parts.length : Int) - 1 - o.part := IntWalk.wrap64_in _ ⟨by omega, by omega⟩
                  clear hW7 r7 z7 b7 o0 o1 o2 o3 hop2
                  go_upto_region 22 with (fail)
                  obtain ⟨o', ho'⟩ : ∃ o', o' = flipO s.parts.length o := ⟨_, rfl⟩
                  have i0 : (s.parts.length : Int) - 1 - o.part = o'.part := by rw [ho']; rfl
                  have i1 : o.many = o'.many := by rw [ho']; rfl
                  have i2 : o.due = o'.due := by rw [ho']; rfl
                  have i3 : o.worth = o'.worth := by rw [ho']; rfl
                  rw [i0]
                  obtain ⟨V, hV⟩ : ∃ V, V = W7.setCell ⟨wr.heap.size, 0, none⟩ (.int .i64 o'.part) := ⟨_, rfl⟩
                  have r8 : V.heap[wr.heap.size]? = some (.cells #[.int .i64 o'.part, .int .i64 o'.many, .int .i64 o'.due, .int .i64 o'.worth] 60) := by
                    rw [hV, ← i1, ← i2, ← i3]
                    exact heap_setCell_same W7 _ 0 _ _ _ R7.out
                  have b8 : Below wr.heap.size wr V := by rw [hV]; exact B7.out.setCell (Nat.le_refl _) _
                  rw [← hV]
                  clear hV i0 i1 i2 i3 hq4 y0 f0 hoo c0 c1 c2
                  have y0 := cellOf r8 0 (v := .int .i64 o'.part) rfl
                  have y1 := cellOf r8 1 (v := .int .i64 o'.many) rfl
                  have y2 := cellOf r8 2 (v := .int .i64 o'.due) rfl
                  have y3 := cellOf r8 3 (v := .int .i64 o'.worth) rfl
                  have hlr : ot < wr.heap.size := Nat.lt_of_lt_of_le hop HTy.out.sz
                  have e1 := cellOf ((b8.block _ hlr).trans Hblk.out) 2 (v := .slice A pk.length cA) rfl
                  have hkl : pk.length ≤ 100000 := by
                    have h2 : pk.length ≤ k := by rw [Hpk.out, List.length_take]; omega
                    omega
                  obtain ⟨A2, c2, w', hrun, hown2, hb2, hsz2, _, _⟩ := append_ord (Hown.out.below b8) o' hkl (Nat.le_trans HTy.out.sz b8.size)
                  have hblk2 := (hb2.block _ hop).trans ((b8.block _ hlr).trans Hblk.out)
                  have u1 := cellOf hblk2 2 (v := .slice A pk.length cA) rfl
                  have uf : w'.frozen? ⟨ot, 2, none⟩ = false := by simp [World.frozen?, hblk2]
                  have hfin : TyS w2 wp ot (.slice Ah s.hours.length ch) (.slice A5 s.parts.reverse.length c5) (oe.take (k + 1)) (w'.setCell ⟨ot, 2, none⟩ (.slice A2 (pk.length + 1) c2)) := by
                    have hkl2 : k < oe.length := by rw [Hol.out]; exact hlt
                    have q1 : oe.take (k + 1) = pk ++ [o'] := by
                      rw [Hpk.out, List.take_add_one, List.getElem?_eq_getElem hkl2, Option.toList_some]
                      have := hoe1
                      rw [List.getElem?_eq_getElem hkl2] at this
                      rw [show oe[k] = o' from this.trans ho'.symm]
                    rw [q1]
                    have q2 : (pk ++ [o']).length = pk.length + 1 := by simp
                    have k2 := heap_setCell_same w' _ 2 _ _ (.slice A2 (pk.length + 1) c2) hblk2
                    have hbe : Below w2.heap.size w2 w' := (HTy.out.bel.trans (b8.mono HTy.out.bel.size)).trans (hb2.mono hwpp)
                    refine ⟨hbe.setCell Ho1.out _, by rw [World.size_setCell]; exact hsz2, fun b hb hne => ?_, A2, c2, ?_, ?_⟩
                    · rw [Below.heap_setCell _ _ _ _ hne, hb2.block _ hb, b8.block _ (Nat.lt_of_lt_of_le hb HTy.out.sz), HTy.out.same b hb hne]
                    · rw [q2]; exact k2
                    · rw [q2]; exact hown2.other hop _
                  have Hfin := Lib.hid hfin
                  clear hfin r8 b8 hown2 hb2 hsz2 hblk2 hkl ho' hoe1 hlr
                  go_wp2_with (at_builtin; refine wpList_append_run rfl _ _ _ rfl rfl rfl hrun ?_)
                  go_roundw
                  case rel => exact ⟨k + 1, by omega, by go_num, Hfin.out⟩
                  case measure => simp [intOf]; omega
                · have hke : k = s.orders.length := by omega
                  subst hke
                  obtain ⟨wl, rfl⟩ : ∃ x, x = wr := ⟨_, rfl⟩
                  have hfull : oe.take s.orders.length = oe := by rw [← Hol.out, List.take_length]
                  rw [hfull] at HTy
                  clear hfull
                  have hkeep : ∀ b, b < we.heap.size → b ≠ ot → wl.heap[b]? = we.heap[b]? := fun b hb hn => (HTy.out.same b (Nat.lt_of_lt_of_le hb HTv.out.sz) hn).trans (HTv.out.same b hb hn)
                  obtain ⟨A7, c7, hblk7, hown7⟩ := HTu.out.bk
                  have hbl2 : bk < we.heap.size := lt_of_block hblk7
                  have hown7' : Own wd.heap.size 60 wl (.slice A7 s.orders.reverse.length c7) s.orders.reverse := hown7.same fun g hg hb => hkeep g (by
                    rcases hown7 with ⟨_, ⟨h0, _⟩ | ⟨g', cap, cur, h0, hb', hh, _⟩⟩
                    · rw [h0] at hg; cases hg
                    · rw [h0] at hg
                      injection hg with hg
                      subst hg
                      exact lt_of_block hh) (by omega)
                  have hsm' : Own wd.heap.size 3 wl u8 ((turnX s.orders.length xs).map Int.ofNat) := HTu.out.sm.same fun g hg hb => hkeep g (by
                    rcases HTu.out.sm with ⟨_, ⟨h0, _⟩ | ⟨g', cap, cur, h0, hb', hh, _⟩⟩
                    · rw [h0] at hg; cases hg
                    · rw [h0] at hg
                      injection hg with hg
                      subst hg
                      exact lt_of_block hh) (by omega)
                  have hown5 : Own we.heap.size 57 wl (.slice A5 s.parts.reverse.length c5) s.parts.reverse := Hown5.out.same fun g hg hb => HTy.out.same g (by
                    rcases Hown5.out with ⟨_, ⟨h0, _⟩ | ⟨g', cap, cur, h0, hb', hh, _⟩⟩
                    · rw [h0] at hg; cases hg
                    · rw [h0] at hg
                      injection hg with hg
                      subst hg
                      exact lt_of_block hh) (by omega)
                  obtain ⟨A6, c6, hblk6, hown6⟩ := HTy.out.own
                  have HSL := Lib.hid (HS.out.next HTy.out.bel)
                  have HTL := Lib.hid ((HT.out.below HTy.out.bel).mono HTy.out.bel.size)
                  obtain ⟨_, _, _, hv, q1, q2, q3⟩ := id HSL.out.shop
                  cases hv
                  have hrd7 := hown7'.rd
                  have hrd5 := hown5.rd
                  have hrd6 := hown6.rd
                  rw [List.length_reverse] at hrd7 hrd5 hblk7 hblk6
                  rw [Hol.out] at hrd6 hblk6
                  have HSB : Hid (ShS w wl.heap.size bk (.slice Ah s.hours.length ch) (.slice Ap s.parts.length cp) (.slice A7 s.orders.length c7) (backS s) wl) := Lib.hid
                    ⟨⟨_, _, _, rfl, q1.mono HSL.out.hB, q2.mono HSL.out.hB, hrd7⟩, HSL.out.nm, Nat.le_refl _, (hkeep bk hbl2 hne).trans hblk7, HSL.out.below⟩
                  have HSO : Hid (ShS w wl.heap.size ot (.slice Ah s.hours.length ch) (.slice A5 s.parts.length c5) (.slice A6 s.orders.length c6) (otherS s) wl) := Lib.hid
                    ⟨⟨_, _, _, rfl, q1.mono HSL.out.hB, hrd5, by rw [Hoe3.out] at hrd6; exact hrd6⟩, fun p hp => HSL.out.nm p (by have : p ∈ s.parts.reverse := hp; simpa using this), Nat.le_refl _, hblk6, HSL.out.below⟩
                  have HSM := Lib.hid hsm'.rd
                  have hb1 := bestF_ok He.out
                  have hb2 := bestF_ok (back_valid He.out)
                  have hb3 := bestF_ok (other_valid He.out)
                  have hl2 := back_late He.out Hri.out
                  have hl3 := other_late He.out Hri.out
                  rw [← Ht.out] at hl2 hl3
                  rw [back_best He.out] at hb2
                  rw [other_best He.out] at hb3
                  obtain ⟨⟨l1, l2, l3⟩, hl⟩ : ∃ p, lateF s t = p := ⟨_, rfl⟩
                  have Hl1 := Lib.hid (lateFV_eq hl)
                  have Hl2 := Lib.hid (lateFV_eq (hl2.trans hl))
                  have Hl3 := Lib.hid (lateFV_eq (hl3.trans hl))
                  obtain ⟨bn, hbn⟩ : ∃ n, (bestL s).2 = n := ⟨_, rfl⟩
                  rw [hbn] at hb1 hb2 hb3
                  have HpB := Lib.hid (fun (s : ShopR) (v : Value) (W : World) (B : Nat) (hs : RdShop B W v s) (hn : ∀ p ∈ s.parts, p.name.size ≤ 9223372036854775807) (hB : B ≤ W.heap.size) (l : List Int) (h : bestF s = (l, bn, 0)) =>
                    (by have := pbest_any hs hn hB; unfold BestR at this; rw [h] at this; exact this : Calls Try.prog 31 #[v] W fun e w' => ∃ A c, e = .returned (.tuple #[.slice A l.length c, .int .i64 bn, .int .i64 0]) ∧ Rd IntAt 1 w'.heap.size w' (.slice A l.length c) l ∧ Below W.heap.size W w'))
                  have Hb1 := Lib.hid hb1
                  have Hb2 := Lib.hid hb2
                  have Hb3 := Lib.hid hb3
                  obtain ⟨c0, c1, c2⟩ := HSL.out.cells
                  obtain ⟨m0, m1, m2⟩ := HSB.out.cells
                  obtain ⟨o0, o1, o2⟩ := HSO.out.cells
                  clear hkeep hblk7 hown7 hbl2 hown7' hsm' hown5 hblk6 hown6 hrd7 hrd5 hrd6 q1 q2 q3 hb1 hb2 hb3 hl2 hl3 hl hbn HTu HTv HTy Hblk5 Hown5 Hoat Hoe3 Hol HY0
                  go_upto_region 24 with (go_at_call 18; refine (plate_any (HSL.out.given HTL.out)).mono ?_; rw [Hl1.out]; rintro e wz ⟨rfl, hb⟩; have HSL := Lib.hid (HSL.out.next hb); have HSB := Lib.hid (HSB.out.next hb); have HSO := Lib.hid (HSO.out.next hb); have HTL := Lib.hid ((HTL.out.below hb).mono hb.size); have HSM := Lib.hid ((HSM.out.below hb).mono hb.size); obtain ⟨c0, c1, c2⟩ := HSL.out.cells; obtain ⟨m0, m1, m2⟩ := HSB.out.cells; obtain ⟨o0, o1, o2⟩ := HSO.out.cells; clear hb)
                  go_upto_region 25 with (go_at_call 18; refine (plate_any (HSB.out.given HSM.out)).mono ?_; rw [Hl2.out]; rintro e wz ⟨rfl, hb⟩; have HSL := Lib.hid (HSL.out.next hb); have HSB := Lib.hid (HSB.out.next hb); have HSO := Lib.hid (HSO.out.next hb); have HTL := Lib.hid ((HTL.out.below hb).mono hb.size); obtain ⟨c0, c1, c2⟩ := HSL.out.cells; obtain ⟨m0, m1, m2⟩ := HSB.out.cells; obtain ⟨o0, o1, o2⟩ := HSO.out.cells; clear hb)
                  go_upto_region 26 with (go_at_call 18; refine (plate_any (HSO.out.given HTL.out)).mono ?_; rw [Hl3.out]; rintro e wz ⟨rfl, hb⟩; have HSL := Lib.hid (HSL.out.next hb); have HSB := Lib.hid (HSB.out.next hb); have HSO := Lib.hid (HSO.out.next hb); obtain ⟨c0, c1, c2⟩ := HSL.out.cells; obtain ⟨m0, m1, m2⟩ := HSB.out.cells; obtain ⟨o0, o1, o2⟩ := HSO.out.cells; clear hb)
                  go_upto_region 29 with (go_at_call 31; refine (HpB.out _ _ _ _ HSL.out.shop HSL.out.nm HSL.out.hB _ Hb1.out).mono ?_; rintro e wz ⟨A21, n21, rfl, _, hb⟩; have HSL := Lib.hid (HSL.out.next hb); have HSB := Lib.hid (HSB.out.next hb); have HSO := Lib.hid (HSO.out.next hb); obtain ⟨c0, c1, c2⟩ := HSL.out.cells; obtain ⟨m0, m1, m2⟩ := HSB.out.cells; obtain ⟨o0, o1, o2⟩ := HSO.out.cells; clear hb)
                  go_upto_region 30 with (go_at_call 31; refine (HpB.out _ _ _ _ HSB.out.shop HSB.out.nm HSB.out.hB _ Hb2.out).mono ?_; rintro e wz ⟨A22, n22, rfl, _, hb⟩; have HSL := Lib.hid (HSL.out.next hb); have HSO := Lib.hid (HSO.out.next hb); obtain ⟨o0, o1, o2⟩ := HSO.out.cells; clear hb c0 c1 c2 m0 m1 m2)
                  go_upto_region 31 with (go_at_call 31; refine (HpB.out _ _ _ _ HSO.out.shop HSO.out.nm HSO.out.hB _ Hb3.out).mono ?_; rintro e wz ⟨A23, n23, rfl, _, hb⟩; have HSL := Lib.hid (HSL.out.next hb); clear hb o0 o1 o2)
                  go_wp2_with (go_at_call 23; refine (awake_any _).mono ?_; rintro e w9 ⟨rfl, hb⟩; have HSL := Lib.hid (HSL.out.next hb); clear hb)
                  go_ret
                  exact ⟨rfl, HSL.out.below⟩
  · have heb : (errOf s == 0) = false := beq_false_of_ne he
    clear he
    go_wp2_with (first | (go_at_call 36; refine (valid_any HS.out.shop HS.out.nm HS.out.hB).mono ?_; rintro e w1 ⟨rfl, hb⟩; have HS := Lib.hid (HS.out.next hb); clear hb c0 c1 c2) | (go_at_call 23; refine (awake_any _).mono ?_; rintro e w4 ⟨rfl, hb⟩; have HS := Lib.hid (HS.out.next hb); clear hb))
    go_ret
    exact ⟨rfl, HS.out.below⟩
end Go.Proofs.Ytkmaapkbonkjfaa
