/- Walks of the layer order: OrderApart. -/
import Derived.Test.YtkmaapkbonkjfaaLawP
set_option linter.unusedSimpArgs false
set_option linter.unusedVariables false
namespace Go.Proofs.Ytkmaapkbonkjfaa
open Go.RowKit

theorem flat_many : ∀ (xs : List OrdR) (k : Nat) (x : Int), k < xs.length → (xs.flatMap (Enc.enc (α := OrdR))).set (k * 4 + 1) (.int .i64 x) = (xs.set k { xs[k]?.getD default with many := x }).flatMap Enc.enc := by
  intro xs
  induction xs with
  | nil => intro k x h; simp at h
  | cons o r ih =>
    intro k x h
    cases k with
    | zero => simp [Enc.enc]
    | succ k =>
      have := ih k x (by simpa using h)
      rw [List.flatMap_cons, show (k + 1) * 4 + 1 = (k * 4 + 1) + 1 + 1 + 1 + 1 by omega]
      simp only [Enc.enc, List.cons_append, List.nil_append, List.set_cons_succ, List.flatMap_cons, List.getElem?_cons_succ] at this ⊢
      rw [this]
/-- an element of a slice of the call's own, written anew -/
theorem Own.many {base : Nat} {w : World} {A : Option Addr} {m c : Nat} {xs : List OrdR} (h : Own base 60 w (.slice A m c) xs) {k : Nat} (hk : k < xs.length) (x : Int) :
    ∃ g, A = some ⟨g, 0, none⟩ ∧ base ≤ g ∧ g < w.heap.size ∧ (∃ u, w.cell? ⟨g, k * 4 + 1, none⟩ = some u) ∧ w.frozen? ⟨g, k * 4 + 1, none⟩ = false ∧
      Own base 60 (w.setCell ⟨g, k * 4 + 1, none⟩ (.int .i64 x)) (.slice A m c) (xs.set k { xs[k]?.getD default with many := x }) := by
  have h0 := h
  rcases h with ⟨hl, ⟨_, h0⟩ | ⟨g, cap, cur, hv, hb, hh, hn, hc, hsz, hx⟩⟩
  · omega
  · injection hv with e1 e2 e3
    subst e1 e2 e3
    have hlt : k * 4 + 1 < xs.length * 4 := by omega
    have hcell := World.ownsRow.cellAt h0 (k * 4 + 1) hlt
    have hfl : k * 4 + 1 < (xs.flatMap (Enc.enc (α := OrdR))).length := by rw [flat_len]; exact hlt
    refine ⟨g, rfl, hb, lt_of_block hh, ⟨_, hcell.trans (List.getElem?_eq_getElem hfl)⟩, World.ownsRow.frozenAt h0 _, ?_⟩
    have := (World.ownsRow.stored h0 (k * 4 + 1) (.int .i64 x)).1
    unfold Own
    rw [← flat_many xs k x hk, List.length_set]
    exact this

theorem late_eq {s s' : ShopR} {t t' : List Int} (hh : s'.hours = s.hours) (hp : s'.parts = s.parts) (h1 : takenErr s t = 0) (h2 : takenErr s' t' = 0) (hd : ∀ i d : Int, due (ofL s' t') i d = due (ofL s t) i d) : lateF s' t' = lateF s t ∧ neededF s' t' = neededF s t := by
  have ht : ∀ d : Int, takes s' (ofL s' t') d = takes s (ofL s t) d := fun d => by
    unfold takes byy
    rw [hp]
    congr 1
    refine List.map_congr_left fun i _ => ?_
    rw [hd]
  have ho : ∀ d : Nat, over s' (ofL s' t') d = over s (ofL s t) d := fun d => by
    unfold over worked
    rw [ht, hh]
  have hf : first? s' (ofL s' t') = first? s (ofL s t) := by
    unfold first?
    rw [hh]
    congr 1
    funext d
    rw [ho]
  constructor
  · unfold lateF
    rw [h1, h2, hf]
    simp only [ho]
  · unfold neededF
    rw [h1, h2]
    simp only [ne_eq, not_true_eq_false, if_false]
    congr 1
    unfold neededL byy
    rw [hp, hh]
    refine List.map_congr_left fun i _ => ?_
    rw [hd]
theorem apart_law {s : ShopR} {f : Nat → Bool} {k : Nat} {one : Int} (he : errOf s = 0) (hl : s.orders.length < 8) (hk : k < s.orders.length) (hf : f k = true) (h1 : 1 ≤ one) (h2 : one < (s.orders.getD k default).many) :
    lateF (partedS s k one) (pick s.orders.length f ++ [(s.orders.length : Int)]) = lateF s (pick s.orders.length f) ∧ neededF (partedS s k one) (pick s.orders.length f ++ [(s.orders.length : Int)]) = neededF s (pick s.orders.length f) := by
  have hv := parted_valid he hl hk h1 h2
  have hl2 : (partedS s k one).orders.length = s.orders.length + 1 := by simp [partedS]
  have e : pick s.orders.length f ++ [(s.orders.length : Int)] = (((List.range s.orders.length).filter f) ++ [s.orders.length]).map Int.ofNat := by simp [pick]
  refine late_eq rfl rfl (taken_pick he f) ?_ fun i d => ?_
  · refine takenErr_ok hv (in_out fun x hx => ?_) (rise_bad ?_)
    · rw [hl2]
      rcases List.mem_append.1 hx with hx | hx
      · have := pick_mem hx; omega
      · rw [List.mem_singleton.1 hx]; omega
    · rw [List.pairwise_append]
      refine ⟨pick_rise _ _, by simp, fun a ha b hb => ?_⟩
      rw [List.mem_singleton.1 hb]
      exact (pick_mem ha).2
  · have e2 : ofL (partedS s k one) (pick s.orders.length f ++ [(s.orders.length : Int)]) = ordsOf (partedS s k one) (((List.range s.orders.length).filter f) ++ [s.orders.length]) := by
      rw [e]
      unfold ofL ordsOf
      rw [List.map_map]
      refine List.map_congr_left fun i _ => ?_
      simp
    rw [e2, ofL_pick]
    exact due_parted (rise_range _ _) (List.mem_filter.2 ⟨List.mem_range.2 hk, hf⟩) i d

set_option maxRecDepth 100000 in
set_option maxHeartbeats 2000000 in
theorem apart_walk {B : Nat} {w : World} {v : Value} {s : ShopR} (hs : RdShop B w v s) (hn : ∀ p ∈ s.parts, p.name.size ≤ 9223372036854775807) (hB : B ≤ w.heap.size) (x x0 x1 : Nat) (hx : x < 256) (h0 : x0 < 256) (h1 : x1 < 256) :
    Calls Try.prog 15 #[v, .int .u8 x, .agg #[.int .u8 x0, .int .u8 x1]] w fun e w' => e = .returned (.bool true) ∧ Below w.heap.size w w' := by
  obtain ⟨vh, vp, vo, rfl, ⟨Ah, ch, rfl, _⟩, ⟨Ap, cp, rfl, _⟩, ⟨Ao, co, rfl, _⟩⟩ := id hs
  obtain ⟨W, hW⟩ : ∃ W, W = (w.alloc (.cells #[.slice Ah s.hours.length ch, .slice Ap s.parts.length cp, .slice Ao s.orders.length co] 26)).alloc (.cells #[.int .u8 x0, .int .u8 x1] 73) := ⟨_, rfl⟩
  have HS := Lib.hid ((ShS.start hs hn hB).next ((Below.refl _ _).alloc (Nat.le_refl _) (.cells #[.int .u8 x0, .int .u8 x1] 73)))
  rw [← hW] at HS
  have T1 : W.heap[w.heap.size + 1]? = some (.cells #[.int .u8 x0, .int .u8 x1] 73) := by
    rw [hW]
    have := heap_alloc_new (w.alloc (.cells #[.slice Ah s.hours.length ch, .slice Ap s.parts.length cp, .slice Ao s.orders.length co] 26)) (.cells #[.int .u8 x0, .int .u8 x1] 73)
    rwa [World.size_alloc] at this
  have B0 := Lib.hid (cellOf T1 0 (v := .int .u8 x0) rfl)
  have B1 := Lib.hid (cellOf T1 1 (v := .int .u8 x1) rfl)
  clear hs hn hB T1
  go_enter Try.func15, Try.ntmps15
  go_upto_region 1 with (fail)
  rw [← hW]
  clear hW
  obtain ⟨c0, c1, c2⟩ := HS.out.cells
  go_upto_region 2 with (go_at_call 37; refine (chosen_any HS.out.shop HS.out.hB x hx).mono ?_; rintro e w1 ⟨A1, n1, rfl, hr, hb⟩; have HS := Lib.hid (HS.out.next hb); obtain ⟨c0, c1, c2⟩ := HS.out.cells; have HT := Lib.hid hr; have B0 := Lib.hid ((hb.cell (cell_lt B0.out)).trans B0.out); have B1 := Lib.hid ((hb.cell (cell_lt B1.out)).trans B1.out); clear hb hr)
  have Htl := Lib.hid (upTo_short x s.orders.length hx)
  have Hpk := Lib.hid (pick_upTo x s.orders.length)
  generalize upTo x s.orders.length = t at *
  by_cases he : errOf s = 0
  · have heb : (errOf s == 0) = true := by simpa using he
    have hg := good_of_valid he
    have hol := hg.olen
    by_cases ht0 : t.length = 0
    · have htb : ((t.length : Int) == 0) = true := by simp [ht0]
      clear he hg ht0
      go_wp2_with (first | (go_at_call 36; refine (valid_any HS.out.shop HS.out.nm HS.out.hB).mono ?_; rintro e w3 ⟨rfl, hb⟩; have HS := Lib.hid (HS.out.next hb); obtain ⟨c0, c1, c2⟩ := HS.out.cells; clear hb) | (go_at_call 23; refine (awake_any _).mono ?_; rintro e w4 ⟨rfl, hb⟩; have HS := Lib.hid (HS.out.next hb); clear hb))
      go_ret
      exact ⟨rfl, HS.out.below⟩
    · have htb : ((t.length : Int) == 0) = false := beq_false_of_ne (by omega)
      by_cases h8 : s.orders.length = 8
      · have h8b : ((s.orders.length : Int) == 8) = true := by simp [h8]
        clear he hg ht0 h8
        go_wp2_with (first | (go_at_call 36; refine (valid_any HS.out.shop HS.out.nm HS.out.hB).mono ?_; rintro e w3 ⟨rfl, hb⟩; have HS := Lib.hid (HS.out.next hb); obtain ⟨c0, c1, c2⟩ := HS.out.cells; clear hb) | (go_at_call 23; refine (awake_any _).mono ?_; rintro e w4 ⟨rfl, hb⟩; have HS := Lib.hid (HS.out.next hb); clear hb))
        go_ret
        exact ⟨rfl, HS.out.below⟩
      · have h8b : ((s.orders.length : Int) == 8) = false := beq_false_of_ne (by omega)
        -- which order
        obtain ⟨j, hj, hjl⟩ : ∃ j : Nat, (x0 : Int) % (t.length : Int) = j ∧ j < t.length := ⟨x0 % t.length, by omega, Nat.mod_lt _ (by omega)⟩
        have hte : takenErr s t = 0 := by rw [Hpk.out]; exact taken_pick he _
        obtain ⟨q0, q1⟩ := taken_in (k := j) hte hjl
        obtain ⟨q, hq⟩ := Int.eq_ofNat_of_zero_le q0
        have hqm : q ∈ (List.range s.orders.length).filter fun i => x.testBit i := by
          have h1 : t[j]?.getD 0 ∈ t := by rw [List.getElem?_eq_getElem hjl]; exact List.getElem_mem hjl
          rw [hq, Hpk.out] at h1
          unfold pick at h1
          obtain ⟨i, hi, e⟩ := List.mem_map.1 h1
          have : i = q := Int.ofNat.inj e
          exact this ▸ hi
        have hqx := (List.mem_filter.1 hqm).2
        have hql : q < s.orders.length := by omega
        have htl := Htl.out
        have hjw : IntKind.i64.wrap ((x0 : Int).tmod t.length) = j := by rw [Int.tmod_eq_emod_of_nonneg (by omega), hj]; exact IntWalk.i64_in _ (by omega)
        go_upto_region 4 with (go_at_call 36; refine (valid_any HS.out.shop HS.out.nm HS.out.hB).mono ?_; rintro e w3 ⟨rfl, hb⟩; have HS := Lib.hid (HS.out.next hb); have HT := Lib.hid ((HT.out.below hb).mono hb.size); have B0 := Lib.hid ((hb.cell (cell_lt B0.out)).trans B0.out); have B1 := Lib.hid ((hb.cell (cell_lt B1.out)).trans B1.out); obtain ⟨c0, c1, c2⟩ := HS.out.cells; clear hb)
        have b0 := B0.out
        have b1 := B1.out
        obtain ⟨ad, rfl, _, d0⟩ := HT.out.int hjl
        rw [hq] at d0
        go_upto_region 5 with (fail)
        obtain ⟨vh', vp', vo', hv, _, _, ho⟩ := id HS.out.shop
        cases hv
        obtain ⟨ao, rfl, _, o0, o1, o2, o3⟩ := ho.ord (i := q) (by omega)
        have hoo := hg.ord hql
        obtain ⟨o, hodef⟩ : ∃ o, o = s.orders.getD q default := ⟨_, rfl⟩
        rw [← List.getD_eq_getElem?_getD, ← hodef] at o0 o1 o2 o3
        rw [← hodef] at hoo
        have Hodef := Lib.hid hodef
        have hom := hoo.many
        have Hoo := Lib.hid hoo
        clear ho hodef hoo d0 b0
        go_upto_region 6 with (fail)
        obtain ⟨W5, hW5, r5, z5, bb5⟩ := box_any w3 #[.int .i64 o.part, .int .i64 o.many, .int .i64 o.due, .int .i64 o.worth] 60
        rw [← hW5]
        have HS := Lib.hid (HS.out.next bb5)
        have HT := Lib.hid ((HT.out.below bb5).mono bb5.size)
        have b1 := (bb5.cell (cell_lt B1.out)).trans B1.out
        have R5 := Lib.hid r5
        have Z5 := Lib.hid z5
        clear z5
        have y0 := cellOf r5 0 (v := .int .i64 o.part) rfl
        have y1 := cellOf r5 1 (v := .int .i64 o.many) rfl
        have y2 := cellOf r5 2 (v := .int .i64 o.due) rfl
        have y3 := cellOf r5 3 (v := .int .i64 o.worth) rfl
        clear hW5 o0 o1 o2 o3 c0 c1 c2 r5 bb5
        by_cases hm2 : o.many < 2
        · have hm2b : decide (o.many < 2) = true := decide_eq_true hm2
          clear he hg ht0 h8
          go_wp2_with (go_at_call 23; refine (awake_any _).mono ?_; rintro e w4 ⟨rfl, hb⟩; have HS := Lib.hid (HS.out.next hb); clear hb)
          go_ret
          exact ⟨rfl, HS.out.below⟩
        · have hm2b : decide (o.many < 2) = false := decide_eq_false hm2
          go_upto_region 9 with (fail)
          obtain ⟨on, hon, hon1, hon2⟩ : ∃ on : Int, 1 + (x1 : Int) % (o.many - 1) = on ∧ 1 ≤ on ∧ on < o.many := ⟨_, rfl, by have := Int.emod_nonneg (x1 : Int) (show o.many - 1 ≠ 0 by omega); omega, by have := Int.emod_lt_of_pos (x1 : Int) (show 0 < o.many - 1 by omega); omega⟩
          have how : wrap64 on = on := IntWalk.wrap64_in _ ⟨by omega, by omega⟩
          rw [hon, how]
          clear hon how b1
          go_upto_region 10 with (fail)
          obtain ⟨W6, hW6, r6, z6, bb6⟩ := box_any W5 #[.int .i64 o.part, .int .i64 o.many, .int .i64 o.due, .int .i64 o.worth] 60
          rw [← hW6]
          have y1 := (bb6.cell (cell_lt y1)).trans y1
          have u1 := cellOf r6 1 (v := .int .i64 o.many) rfl
          have uf : W6.frozen? ⟨W5.heap.size, 1, none⟩ = false := by simp [World.frozen?, r6]
          have R6 := Lib.hid r6
          have BB6 := Lib.hid bb6
          clear hW6 r6 bb6 y0 y2 y3 z6
          go_upto_region 11 with (fail)
          obtain ⟨W7, hW7⟩ : ∃ W7, W7 = W6.setCell ⟨W5.heap.size, 1, none⟩ (.int .i64 (o.many - on)) := ⟨_, rfl⟩
          have r7 : W7.heap[W5.heap.size]? = some (.cells #[.int .i64 o.part, .int .i64 (o.many - on), .int .i64 o.due, .int .i64 o.worth] 60) := by rw [hW7]; exact heap_setCell_same _ _ 1 _ _ _ R6.out
          have bb7 : Below W5.heap.size W5 W7 := by rw [hW7]; exact BB6.out.setCell (Nat.le_refl _) _
          rw [← hW7]
          have HS := Lib.hid (HS.out.next bb7)
          have HT := Lib.hid ((HT.out.below bb7).mono bb7.size)
          obtain ⟨c0, c1, c2⟩ := HS.out.cells
          have y0 := cellOf r7 0 (v := .int .i64 o.part) rfl
          have y2 := cellOf r7 2 (v := .int .i64 o.due) rfl
          have y3 := cellOf r7 3 (v := .int .i64 o.worth) rfl
          have x1 := cellOf r7 1 (v := .int .i64 (o.many - on)) rfl
          clear hW7 r7 bb7 y1 u1 uf
          go_upto_region 12 with (go_at_call 40; refine (asked_own (HS.out.shop.mono HS.out.hB) HT.out (Nat.le_refl _) (by omega) (by omega) ⟨o.part, o.many - on, o.due, o.worth⟩).mono ?_; rintro e w8 ⟨vh', vp', vo', A3, c3, A4, c4, hv3, rfl, hown, hrd, hap, hb⟩; cases hv3; have HU := Lib.hid hrd; have HAp := Lib.hid hap; have HO := Lib.hid hown; have HB8 := Lib.hid hb; clear c0 c1 c2 hb hown hrd y0 y2 y3 x1)
          have bb9 : Below w8.heap.size w8 (w8.alloc (.cells #[.slice Ah s.hours.length ch, .slice Ap s.parts.length cp, .slice A3 (s.orders.length + 1) c3] 26)) := (Below.refl _ _).alloc (Nat.le_refl _) _
          have r9 : (w8.alloc (.cells #[.slice Ah s.hours.length ch, .slice Ap s.parts.length cp, .slice A3 (s.orders.length + 1) c3] 26)).heap[w8.heap.size]? = some (.cells #[.slice Ah s.hours.length ch, .slice Ap s.parts.length cp, .slice A3 (s.orders.length + 1) c3] 26) := heap_alloc_new w8 _
          have hown9 := HO.out.alloc (.cells #[.slice Ah s.hours.length ch, .slice Ap s.parts.length cp, .slice A3 (s.orders.length + 1) c3] 26)
          have hown9' := HU.out.alloc (.cells #[.slice Ah s.hours.length ch, .slice Ap s.parts.length cp, .slice A3 (s.orders.length + 1) c3] 26)
          generalize w8.alloc (.cells #[.slice Ah s.hours.length ch, .slice Ap s.parts.length cp, .slice A3 (s.orders.length + 1) c3] 26) = W9 at *
          have hlx : q < (s.orders ++ [(⟨o.part, o.many - on, o.due, o.worth⟩ : OrdR)]).length := by simp; omega
          obtain ⟨g, hA3, hg1, hg2, ⟨gu, hgu⟩, hgf, hown10⟩ := Own.many hown9 hlx on
          subst hA3
          have hg8 : g < w8.heap.size := HO.out.blk g rfl
          have bb10 : Below W7.heap.size W7 (W9.setCell ⟨g, q * 4 + 1, none⟩ (.int .i64 on)) := ((HB8.out).trans (bb9.mono HB8.out.size)).setCell hg1 _
          have hU10 : Own W7.heap.size 3 (W9.setCell ⟨g, q * 4 + 1, none⟩ (.int .i64 on)) (.slice A4 (t.length + 1) c4) (t ++ [(s.orders.length : Int)]) := hown9'.same fun b hb _ => Below.heap_setCell _ _ _ _ (by
            intro e
            have e' : b = g := e
            subst e'
            exact HAp.out b rfl hb)
          have r10 : (W9.setCell ⟨g, q * 4 + 1, none⟩ (.int .i64 on)).heap[w8.heap.size]? = some (.cells #[.slice Ah s.hours.length ch, .slice Ap s.parts.length cp, .slice (some ⟨g, 0, none⟩) (s.orders.length + 1) c3] 26) := (Below.heap_setCell _ _ _ _ (by show w8.heap.size ≠ g; omega)).trans r9
          have c2 := cellOf r9 2 (v := .slice (some ⟨g, 0, none⟩) (s.orders.length + 1) c3) rfl
          have Hown10 := Lib.hid hown10
          have BB10 := Lib.hid bb10
          have HU10 := Lib.hid hU10
          have R10 := Lib.hid r10
          clear bb9 r9 hown9 hown9' hown10 bb10 hU10 r10 hg1 hg2 hlx
          go_upto_region 13 with (fail)
          obtain ⟨W10, hW10⟩ : ∃ W10, W10 = W9.setCell ⟨g, q * 4 + 1, none⟩ (.int .i64 on) := ⟨_, rfl⟩
          rw [← hW10] at Hown10 BB10 HU10 R10 ⊢
          clear hW10 hgu hgf c2
          have HS := Lib.hid (HS.out.next BB10.out)
          have HT := Lib.hid ((HT.out.below BB10.out).mono BB10.out.size)
          have hords : (s.orders ++ [(⟨o.part, o.many - on, o.due, o.worth⟩ : OrdR)]).set q { (s.orders ++ [(⟨o.part, o.many - on, o.due, o.worth⟩ : OrdR)])[q]?.getD default with many := on } = (partedS s q on).orders := by
            unfold partedS
            rw [List.set_append_left _ _ hql, List.getElem?_append_left hql, ← List.getD_eq_getElem?_getD, ← Hodef.out]
          have hplen : (partedS s q on).orders.length = s.orders.length + 1 := by simp [partedS]
          have HP : Hid (ShS W7 W10.heap.size w8.heap.size (.slice Ah s.hours.length ch) (.slice Ap s.parts.length cp) (.slice (some ⟨g, 0, none⟩) (s.orders.length + 1) c3) (partedS s q on) W10) := Lib.hid (by
            have hR := Hown10.out.rd
            rw [hords] at hR
            obtain ⟨_, _, _, hv, k1, k2, _⟩ := HS.out.shop
            cases hv
            exact ⟨⟨_, _, _, rfl, k1.mono HS.out.hB, k2.mono HS.out.hB, hR⟩, HS.out.nm, Nat.le_refl _, R10.out, BB10.out⟩)
          have HU := Lib.hid HU10.out.rd
          have hlaw := apart_law (f := fun i => x.testBit i) he (by omega) hql hqx hon1 (by rw [← Hodef.out]; exact hon2)
          rw [← Hpk.out] at hlaw
          obtain ⟨hlw1, hlw2⟩ := hlaw
          obtain ⟨⟨l1, l2, l3⟩, hl⟩ : ∃ p, lateF s t = p := ⟨_, rfl⟩
          have Hl1 := Lib.hid hl
          have Hl2 := Lib.hid (hlw1.trans hl)
          have hnl := neededF_len (s := s) t
          have HpN := Lib.hid (fun (W : World) (h : Given W.heap.size W (.agg #[.slice Ah s.hours.length ch, .slice Ap s.parts.length cp, .slice (some ao) s.orders.length co]) (.slice (some ad) t.length n1) s t) => pneeded_any h)
          have HqN := Lib.hid (fun (W : World) (h : Given W.heap.size W (.agg #[.slice Ah s.hours.length ch, .slice Ap s.parts.length cp, .slice (some ⟨g, 0, none⟩) (s.orders.length + 1) c3]) (.slice A4 (t.length + 1) c4) (partedS s q on) (t ++ [(s.orders.length : Int)])) => pneeded_any h)
          unfold NeededR at HpN HqN
          rw [hlw2] at HqN
          generalize neededF s t = nf at *
          obtain ⟨nl, ne⟩ := nf
          simp only at HpN HqN hnl
          clear hl hlw1 hlw2 he hg ht0 h8 hte hords hplen Hown10 HU10 R10 BB10 hq hqm hj
          obtain ⟨c0, c1, c2⟩ := HS.out.cells
          go_upto_region 14 with (go_at_call 18; refine (plate_any (HS.out.given HT.out)).mono ?_; unfold lateFV; rw [Hl1.out]; rintro e w11 ⟨rfl, hb⟩; have HS := Lib.hid (HS.out.next hb); have HP := Lib.hid (HP.out.next hb); have HT := Lib.hid ((HT.out.below hb).mono hb.size); have HU := Lib.hid ((HU.out.below hb).mono hb.size); clear hb c0 c1 c2)
          obtain ⟨p0, p1, p2⟩ := HP.out.cells
          go_upto_region 15 with (go_at_call 18; refine (plate_any (HP.out.given HU.out)).mono ?_; unfold lateFV; rw [Hl2.out]; rintro e w12 ⟨rfl, hb⟩; have HS := Lib.hid (HS.out.next hb); have HP := Lib.hid (HP.out.next hb); have HT := Lib.hid ((HT.out.below hb).mono hb.size); have HU := Lib.hid ((HU.out.below hb).mono hb.size); clear hb p0 p1 p2)
          obtain ⟨c0, c1, c2⟩ := HS.out.cells
          go_upto_region 16 with (go_at_call 20; refine (HpN.out _ (HS.out.given HT.out)).mono ?_; rintro e w13 ⟨A5, c5, rfl, hr, hb⟩; have HS := Lib.hid (HS.out.next hb); have HP := Lib.hid (HP.out.next hb); have HU := Lib.hid ((HU.out.below hb).mono hb.size); have HN := Lib.hid hr; clear hb hr c0 c1 c2)
          obtain ⟨p0, p1, p2⟩ := HP.out.cells
          go_upto_region 17 with (go_at_call 20; refine (HqN.out _ (HP.out.given HU.out)).mono ?_; rintro e w14 ⟨A6, c6, rfl, hr, hb⟩; have HS := Lib.hid (HS.out.next hb); have HN := Lib.hid (HN.out.below hb); have HM := Lib.hid hr; clear hb hr p0 p1 p2)
          go_wp2_with (first | (go_at_call 22; refine (ints_any HN.out HM.out hnl).mono ?_; rw [beq_self_eq_true]; rintro e w15 ⟨rfl, hq⟩; have HS := Lib.hid (HS.out.next (hq.below _)); clear hq) | (go_at_call 23; refine (awake_any _).mono ?_; rintro e w16 ⟨rfl, hb⟩; have HS := Lib.hid (HS.out.next hb); clear hb))
          go_ret
          exact ⟨rfl, HS.out.below⟩
  · have heb : (errOf s == 0) = false := by simpa using he
    have hne : (errOf s != 0) = true := by simpa using he
    clear he
    go_wp2_with (first | (go_at_call 36; refine (valid_any HS.out.shop HS.out.nm HS.out.hB).mono ?_; rintro e w3 ⟨rfl, hb⟩; have HS := Lib.hid (HS.out.next hb); obtain ⟨c0, c1, c2⟩ := HS.out.cells; clear hb) | (go_at_call 23; refine (awake_any _).mono ?_; rintro e w4 ⟨rfl, hb⟩; have HS := Lib.hid (HS.out.next hb); clear hb))
    go_ret
    exact ⟨rfl, HS.out.below⟩
end Go.Proofs.Ytkmaapkbonkjfaa
