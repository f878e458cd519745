/- Walks of the layer order: OrderLate. -/
import Derived.Test.YtkmaapkbonkjfaaHelp
import Derived.Test.YtkmaapkbonkjfaaApart
set_option linter.unusedSimpArgs false
set_option linter.unusedVariables false
namespace Go.Proofs.Ytkmaapkbonkjfaa
open Go.RowKit

/-- a law's shop alone, in a block of its own -/
structure ShS (w0 : World) (B tb : Nat) (vh vp vo : Value) (s : ShopR) (W : World) : Prop where
  shop : RdShop B W (.agg #[vh, vp, vo]) s
  nm : ∀ p ∈ s.parts, p.name.size ≤ 9223372036854775807
  hB : B ≤ W.heap.size
  box : W.heap[tb]? = some (.cells #[vh, vp, vo] 26)
  below : Below w0.heap.size w0 W
section
variable {w0 : World} {B tb : Nat} {vh vp vo : Value} {s : ShopR} {W W' : World}
theorem ShS.next (h : ShS w0 B tb vh vp vo s W) (hb : Below W.heap.size W W') : ShS w0 B tb vh vp vo s W' :=
  ⟨h.shop.below (hb.mono h.hB), h.nm, Nat.le_trans h.hB hb.size, (hb.block _ (lt_of_block h.box)).trans h.box, h.below.trans (hb.mono h.below.size)⟩
theorem ShS.cells (h : ShS w0 B tb vh vp vo s W) : W.cell? ⟨tb, 0, none⟩ = some vh ∧ W.cell? ⟨tb, 1, none⟩ = some vp ∧ W.cell? ⟨tb, 2, none⟩ = some vo :=
  ⟨cellOf h.box 0 rfl, cellOf h.box 1 rfl, cellOf h.box 2 rfl⟩
theorem ShS.given (h : ShS w0 B tb vh vp vo s W) {vt : Value} {t : List Int} (hr : Rd IntAt 1 W.heap.size W vt t) : Given W.heap.size W (.agg #[vh, vp, vo]) vt s t :=
  ⟨h.shop.mono h.hB, hr, h.nm, Nat.le_refl _⟩
end
theorem ShS.start {B : Nat} {w : World} {vh vp vo : Value} {s : ShopR} (h : RdShop B w (.agg #[vh, vp, vo]) s) (hn : ∀ p ∈ s.parts, p.name.size ≤ 9223372036854775807) (hB : B ≤ w.heap.size) : ShS w B w.heap.size vh vp vo s (w.alloc (.cells #[vh, vp, vo] 26)) := by
  have hb : Below w.heap.size w (w.alloc (.cells #[vh, vp, vo] 26)) := (Below.refl _ _).alloc (Nat.le_refl _) _
  exact ⟨h.below (hb.mono hB), hn, Nat.le_trans hB hb.size, heap_alloc_new w _, hb⟩

theorem lateF_bad {s : ShopR} (t : List Int) (h : errOf s ≠ 0) : lateF s t = (0, 0, errOf s) := by
  unfold lateF
  rw [takenErr_shop h, if_pos h]
theorem lateF_some {s : ShopR} {t : List Int} {d : Nat} (h : takenErr s t = 0) (hd : first? s (ofL s t) = some d) : lateF s t = ((d : Int), over s (ofL s t) d, 0) := by
  unfold lateF
  rw [if_neg (by simp [h]), hd]
theorem lateF_none {s : ShopR} {t : List Int} (h : takenErr s t = 0) (hd : first? s (ofL s t) = none) : lateF s t = (0, 0, 4) := by
  unfold lateF
  rw [if_neg (by simp [h]), hd]

/-- taken orders of a shop that pass -/
def sel (s : ShopR) (q : OrdR → Bool) (t : List Int) : List Int := t.filter fun i => q (s.orders[i.toNat]?.getD default)
theorem sel_len (s : ShopR) (q : OrdR → Bool) (t : List Int) : (sel s q t).length ≤ t.length := List.length_filter_le _ _
theorem sel_next {s : ShopR} {q : OrdR → Bool} {t : List Int} {k : Nat} (hk : k < t.length) {i : Nat} (hi : t[k]?.getD 0 = i) : sel s q (t.take (k + 1)) = sel s q (t.take k) ++ if q (s.orders[i]?.getD default) then [(i : Int)] else [] := by
  rw [take_succ_getD hk 0, List.getD_eq_getElem?_getD, hi]
  unfold sel
  rw [List.filter_append]
  by_cases h : q (s.orders[i]?.getD default) = true
  · simp [h]
  · simp [h]
theorem sel_pick (s : ShopR) (q : OrdR → Bool) (n : Nat) (f : Nat → Bool) : sel s q (pick n f) = pick n fun i => f i && q (s.orders.getD i default) := by
  unfold sel pick
  rw [List.filter_map, List.filter_filter]
  congr 1
  refine List.filter_congr fun i _ => ?_
  simp [Bool.and_comm]

theorem canV_ok {s : ShopR} {t : List Int} {x y : Int} (h : lateF s t = (x, y, 0)) : canV s t = .tuple #[.bool false, .bool true] := by
  unfold canV; rw [h]; simp
theorem canV_none {s : ShopR} {t : List Int} {x y : Int} (h : lateF s t = (x, y, 4)) : canV s t = .tuple #[.bool true, .bool true] := by
  unfold canV; rw [h]; simp
theorem late_split {s : ShopR} {t : List Int} {d : Nat} {f : Nat → Bool} (he : errOf s = 0) (hf : first? s (ofL s t) = some d) (ht : t = pick s.orders.length f) :
    lateF s (sel s (fun o => decide (o.due ≤ (d : Int))) t) = ((d : Int), over s (ofL s t) d, 0) ∧ lateF s (sel s (fun o => decide (o.due < (d : Int))) t) = (0, 0, 4) := by
  have hte : takenErr s t = 0 := by rw [ht]; exact taken_pick he _
  obtain ⟨_, hg, hfit, _⟩ := fit_of hte
  have e1 : sel s (fun o => decide (o.due ≤ (d : Int))) t = pick s.orders.length fun i => f i && decide ((s.orders.getD i default).due ≤ (d : Int)) := by rw [ht]; exact sel_pick s _ _ _
  have e2 : sel s (fun o => decide (o.due < (d : Int))) t = pick s.orders.length fun i => f i && decide ((s.orders.getD i default).due < (d : Int)) := by rw [ht]; exact sel_pick s _ _ _
  have o1 : ofL s (sel s (fun o => decide (o.due ≤ (d : Int))) t) = (ofL s t).filter fun o => decide (o.due ≤ (d : Int)) := by rw [e1, ht]; exact pick_filter s _ _ fun o => decide (o.due ≤ (d : Int))
  have o2 : ofL s (sel s (fun o => decide (o.due < (d : Int))) t) = (ofL s t).filter fun o => decide (o.due < (d : Int)) := by rw [e2, ht]; exact pick_filter s _ _ fun o => decide (o.due < (d : Int))
  obtain ⟨h1, h2⟩ := first_by hf
  refine ⟨?_, lateF_none (by rw [e2]; exact taken_pick he _) (by rw [o2]; exact first_before hg (fun o ho => (hfit.all o ho).due.1) hf)⟩
  rw [lateF_some (by rw [e1]; exact taken_pick he _) (by rw [o1]; exact h1), o1, h2]

set_option maxRecDepth 100000 in
set_option maxHeartbeats 2000000 in
theorem late_law {B : Nat} {w : World} {v : Value} {s : ShopR} (hs : RdShop B w v s) (hn : ∀ p ∈ s.parts, p.name.size ≤ 9223372036854775807) (hB : B ≤ w.heap.size) (x : Nat) (hx : x < 256) :
    Calls Try.prog 9 #[v, .int .u8 x] w fun e w' => e = .returned (.bool true) ∧ Below w.heap.size w w' := by
  obtain ⟨vh, vp, vo, rfl, ⟨Ah, ch, rfl, _⟩, ⟨Ap, cp, rfl, _⟩, ⟨Ao, co, rfl, _⟩⟩ := id hs
  obtain ⟨W, hW⟩ : ∃ W, W = w.alloc (.cells #[.slice Ah s.hours.length ch, .slice Ap s.parts.length cp, .slice Ao s.orders.length co] 26) := ⟨_, rfl⟩
  have HS := Lib.hid (ShS.start hs hn hB)
  rw [← hW] at HS
  clear hs hn hB
  go_enter Try.func9, Try.ntmps9
  go_upto_region 1 with (fail)
  rw [← hW]
  clear hW
  obtain ⟨c0, c1, c2⟩ := HS.out.cells
  go_upto_region 2 with (go_at_call 37; refine (chosen_any HS.out.shop HS.out.hB x hx).mono ?_; rintro e w1 ⟨A1, n1, rfl, hr, hb⟩; have HS := Lib.hid (HS.out.next hb); obtain ⟨c0, c1, c2⟩ := HS.out.cells; have HT := Lib.hid hr; clear hb hr)
  have Htl := Lib.hid (upTo_short x s.orders.length hx)
  have Hpk := Lib.hid (pick_upTo x s.orders.length)
  generalize upTo x s.orders.length = t at *
  by_cases he : errOf s = 0
  · have hte : takenErr s t = 0 := by rw [Hpk.out]; exact taken_pick he _
    have hg := good_of_valid he
    cases hf : first? s (ofL s t) with
    | none =>
      have Hl := Lib.hid (lateF_none hte hf)
      have heb : (errOf s == 0) = true := by simpa using he
      clear he hte hf
      go_wp2_with (first | (go_at_call 18; refine (plate_any (HS.out.given HT.out)).mono ?_; unfold lateFV; rw [Hl.out]; rintro e w2 ⟨rfl, hb⟩; have HS := Lib.hid (HS.out.next hb); obtain ⟨c0, c1, c2⟩ := HS.out.cells; clear hb) | (go_at_call 36; refine (valid_any HS.out.shop HS.out.nm HS.out.hB).mono ?_; rintro e w3 ⟨rfl, hb⟩; have HS := Lib.hid (HS.out.next hb); obtain ⟨c0, c1, c2⟩ := HS.out.cells; clear hb) | (go_at_call 23; refine (awake_any _).mono ?_; rintro e w4 ⟨rfl, hb⟩; have HS := Lib.hid (HS.out.next hb); clear hb))
      go_ret
      exact ⟨rfl, HS.out.below⟩
    | some d =>
      have Hsp := Lib.hid (late_split he hf Hpk.out)
      have Hin := Lib.hid (fun k hk => taken_in (k := k) hte hk)
      have Hl := Lib.hid (lateF_some hte hf)
      have Hd := Lib.hid (first_over hf).1
      have Hov := Lib.hid (first_over hf).2.1
      have heb : (errOf s == 0) = true := by simpa using he
      have hx1 : decide ((d : Int) < 0) = false := by simp
      have hx2 : decide ((d : Int) ≥ (s.hours.length : Int)) = false := by have := Hd.out; simp; omega
      have hx4 : decide ((s.hours.length : Int) ≤ (d : Int)) = false := by have := Hd.out; simp; omega
      have hx5 : decide (s.hours.length ≤ d) = false := by have := Hd.out; simp; omega
      have hx6 : d < s.hours.length := Hd.out
      have hx3 : decide (over s (ofL s t) d < 1) = false := by have := Hov.out; simp; omega
      clear hg hte hf he
      go_upto_region 10 with (first | (go_at_call 18; refine (plate_any (HS.out.given HT.out)).mono ?_; unfold lateFV; rw [Hl.out]; rintro e w2 ⟨rfl, hb⟩; have HS := Lib.hid (HS.out.next hb); have HT := Lib.hid ((HT.out.below hb).mono hb.size); obtain ⟨c0, c1, c2⟩ := HS.out.cells; clear hb) | (go_at_call 36; refine (valid_any HS.out.shop HS.out.nm HS.out.hB).mono ?_; rintro e w3 ⟨rfl, hb⟩; have HS := Lib.hid (HS.out.next hb); have HT := Lib.hid ((HT.out.below hb).mono hb.size); obtain ⟨c0, c1, c2⟩ := HS.out.cells; clear hb))
      have C2 := Lib.hid c2
      clear c0 c1 c2
      go_wp2
      go_loopw [9, 10, 11] (fun u1 u2 i wr => ∃ (k : Nat) (A2 : Option Addr) (n2 : Nat) (A3 : Option Addr) (n3 : Nat), k ≤ t.length ∧ i = .int .i64 k ∧ u1 = .slice A2 (sel s (fun o => decide (o.due ≤ (d : Int))) (t.take k)).length n2 ∧ u2 = .slice A3 (sel s (fun o => decide (o.due < (d : Int))) (t.take k)).length n3 ∧
        Own w3.heap.size 3 wr u1 (sel s (fun o => decide (o.due ≤ (d : Int))) (t.take k)) ∧ Own w3.heap.size 3 wr u2 (sel s (fun o => decide (o.due < (d : Int))) (t.take k)) ∧ Apart u1 u2 ∧ Below w3.heap.size w3 wr) (fun _ _ i _ => t.length - (intOf i).toNat)
      case atStart => exact ⟨0, none, 0, none, 0, Nat.zero_le _, rfl, rfl, rfl, Own.nil _ _ _, Own.nil _ _ _, apart_nil _, Below.refl _ _⟩
      case round =>
        obtain ⟨k, A2, n2, A3, n3, hk, rfl, rfl, rfl, ho1, ho2, hap, hbr⟩ := hrel
        have hszr := hbr.size
        have htl := Htl.out
        by_cases hlt : k < t.length
        · obtain ⟨ad, rfl, _, d0⟩ := HT.out.int hlt
          obtain ⟨q0, q1⟩ := Hin.out k hlt
          obtain ⟨q, hq⟩ := Int.eq_ofNat_of_zero_le q0
          have hq1 : (q : Int) < s.orders.length := by omega
          obtain ⟨vh', vp', vo', hv, _, _, ho⟩ := HS.out.shop
          cases hv
          obtain ⟨ao, rfl, _, o0, o1, o2, o3⟩ := ho.ord (i := q) (by omega)
          have Hs1 := Lib.hid (sel_next (s := s) (q := fun o => decide (o.due ≤ (d : Int))) hlt hq)
          have Hs2 := Lib.hid (sel_next (s := s) (q := fun o => decide (o.due < (d : Int))) hlt hq)
          rw [hq] at d0
          have hl1 : (sel s (fun o => decide (o.due ≤ (d : Int))) (t.take k)).length ≤ 8 := by have := sel_len s (fun o => decide (o.due ≤ (d : Int))) (t.take k); have := Htl.out; rw [List.length_take] at *; omega
          have hl2 : (sel s (fun o => decide (o.due < (d : Int))) (t.take k)).length ≤ 8 := by have := sel_len s (fun o => decide (o.due < (d : Int))) (t.take k); have := Htl.out; rw [List.length_take] at *; omega
          have Ho1 := Lib.hid ho1
          have Ho2 := Lib.hid ho2
          have Hap := Lib.hid hap
          have Hbr := Lib.hid hbr
          have Hl1 := Lib.hid hl1
          have Hl2 := Lib.hid hl2
          have D0 := Lib.hid d0
          have O2 := Lib.hid o2
          clear hq q0 q1 ho ho1 ho2 hap hbr hl1 hl2 o0 o1 o3 d0 o2
          generalize s.orders[q]?.getD default = o at *
          generalize sel s (fun o => decide (o.due ≤ (d : Int))) (t.take k) = l1 at *
          generalize sel s (fun o => decide (o.due < (d : Int))) (t.take k) = l2 at *
          have c2 := (Hbr.out.cell (cell_lt C2.out)).trans C2.out
          have d0 := (Hbr.out.cell (cell_lt D0.out)).trans D0.out
          have o2 := (Hbr.out.cell (cell_lt O2.out)).trans O2.out
          by_cases h1 : o.due ≤ (d : Int)
          · have hb1 : decide (o.due ≤ (d : Int)) = true := by simpa using h1
            go_upto_region 13 with (fail)
            go_quiet (fail)
            obtain ⟨wq, hwq⟩ : ∃ wq, wq = wr.drewN nq := ⟨_, rfl⟩
            rw [← hwq]
            have hbq : Below w3.heap.size w3 wq := by rw [hwq]; exact below_drewN Hbr.out nq
            have ho1q : Own w3.heap.size 3 wq (.slice A2 l1.length n2) l1 := by rw [hwq]; exact Ho1.out.qt ⟨nq, rfl⟩
            have ho2q : Own w3.heap.size 3 wq (.slice A3 l2.length n3) l2 := by rw [hwq]; exact Ho2.out.qt ⟨nq, rfl⟩
            obtain ⟨A4, n4, w4, hrun, ho4, ho24, hap4, hb4, hsz4⟩ := append_apart ho1q ho2q Hap.out.symm (q : Int) (by have := Hl1.out; omega) hbq.size
            have Hb4 := Lib.hid (hbq.trans hb4)
            have Ho4 := Lib.hid ho4
            have Ho24 := Lib.hid ho24
            have Hap4 := Lib.hid hap4
            clear c2 d0 o2 ho4 ho24 hap4 hb4
            have Hbq := Lib.hid hbq
            clear hbq
            have c2 := (Hbq.out.cell (cell_lt C2.out)).trans C2.out
            have d0 := (Hbq.out.cell (cell_lt D0.out)).trans D0.out
            have o2 := (Hbq.out.cell (cell_lt O2.out)).trans O2.out
            clear hwq
            by_cases h2 : o.due < (d : Int)
            · have hb2 : decide (o.due < (d : Int)) = true := by simpa using h2
              go_upto_region 15 with (at_builtin; refine wpList_append_run rfl _ _ _ rfl rfl rfl hrun ?_; have c2 := (Hb4.out.cell (cell_lt C2.out)).trans C2.out; have d0 := (Hb4.out.cell (cell_lt D0.out)).trans D0.out; have o2 := (Hb4.out.cell (cell_lt O2.out)).trans O2.out)
              go_quiet (fail)
              obtain ⟨wp, hwp⟩ : ∃ wp, wp = w4.drewN nq := ⟨_, rfl⟩
              rw [← hwp]
              have hbp : Below w3.heap.size w3 wp := by rw [hwp]; exact below_drewN Hb4.out nq
              have ho4p : Own w3.heap.size 3 wp (.slice A4 (l1.length + 1) n4) (l1 ++ [(q : Int)]) := by rw [hwp]; exact Ho4.out.qt ⟨nq, rfl⟩
              have ho2p : Own w3.heap.size 3 wp (.slice A3 l2.length n3) l2 := by rw [hwp]; exact Ho24.out.qt ⟨nq, rfl⟩
              obtain ⟨A5, n5, w5, hrun5, ho5, ho45, hap5, hb5, hsz5⟩ := append_apart ho2p ho4p Hap4.out.symm (q : Int) (by have := Hl2.out; omega) hbp.size
              have Hbp := Lib.hid hbp
              have Hb5 := Lib.hid (hbp.trans hb5)
              have Ho5 := Lib.hid ho5
              have Ho45 := Lib.hid ho45
              have Hap5 := Lib.hid hap5
              clear hwp hbp ho4p ho2p ho5 ho45 hap5 hb5 hrun c2 d0 o2
              have c2 := (Hbp.out.cell (cell_lt C2.out)).trans C2.out
              have d0 := (Hbp.out.cell (cell_lt D0.out)).trans D0.out
              have o2 := (Hbp.out.cell (cell_lt O2.out)).trans O2.out
              go_wp2_with (at_builtin; refine wpList_append_run rfl _ _ _ rfl rfl rfl hrun5 ?_)
              go_roundw
              case rel =>
                refine ⟨k + 1, A4, n4, A5, n5, by omega, by go_num, ?_, ?_, ?_, ?_, Hap5.out, Hb5.out⟩
                · rw [Hs1.out, hb1]; simp
                · rw [Hs2.out, hb2]; simp
                · rw [Hs1.out, hb1]; simpa using Ho45.out
                · rw [Hs2.out, hb2]; simpa using Ho5.out
              case measure => simp [intOf]; omega
            · have hb2 : decide (o.due < (d : Int)) = false := by simpa using h2
              go_upto_region 15 with (at_builtin; refine wpList_append_run rfl _ _ _ rfl rfl rfl hrun ?_; have c2 := (Hb4.out.cell (cell_lt C2.out)).trans C2.out; have d0 := (Hb4.out.cell (cell_lt D0.out)).trans D0.out; have o2 := (Hb4.out.cell (cell_lt O2.out)).trans O2.out)
              go_quiet (fail)
              go_wp2
              go_roundw
              case rel =>
                refine ⟨k + 1, A4, n4, A3, n3, by omega, by go_num, ?_, ?_, ?_, ?_, Hap4.out.symm, below_drewN Hb4.out _⟩
                · rw [Hs1.out, hb1]; simp
                · rw [Hs2.out, hb2]; simp
                · rw [Hs1.out, hb1]; simpa using Ho4.out.qt ⟨_, rfl⟩
                · rw [Hs2.out, hb2]; simpa using Ho24.out.qt ⟨_, rfl⟩
              case measure => simp [intOf]; omega
          · have hb1 : decide (o.due ≤ (d : Int)) = false := by simpa using h1
            have hb2 : decide (o.due < (d : Int)) = false := by simp; omega
            go_upto_region 13 with (fail)
            go_quiet (fail)
            obtain ⟨wq, hwq⟩ : ∃ wq, wq = wr.drewN nq := ⟨_, rfl⟩
            rw [← hwq]
            have hbq : Below w3.heap.size w3 wq := by rw [hwq]; exact below_drewN Hbr.out nq
            have Ho1q := Lib.hid (show Own w3.heap.size 3 wq (.slice A2 l1.length n2) l1 by rw [hwq]; exact Ho1.out.qt ⟨nq, rfl⟩)
            have Ho2q := Lib.hid (show Own w3.heap.size 3 wq (.slice A3 l2.length n3) l2 by rw [hwq]; exact Ho2.out.qt ⟨nq, rfl⟩)
            have Hbq := Lib.hid hbq
            clear hbq c2 d0 o2 hwq
            have c2 := (Hbq.out.cell (cell_lt C2.out)).trans C2.out
            have d0 := (Hbq.out.cell (cell_lt D0.out)).trans D0.out
            have o2 := (Hbq.out.cell (cell_lt O2.out)).trans O2.out
            go_upto_region 15 with (fail)
            go_quiet (fail)
            go_wp2
            go_roundw
            case rel =>
              refine ⟨k + 1, A2, n2, A3, n3, by omega, by go_num, ?_, ?_, ?_, ?_, Hap.out, below_drewN Hbq.out _⟩
              · rw [Hs1.out, hb1]; simp
              · rw [Hs2.out, hb2]; simp
              · rw [Hs1.out, hb1]; simpa using Ho1q.out.qt ⟨_, rfl⟩
              · rw [Hs2.out, hb2]; simpa using Ho2q.out.qt ⟨_, rfl⟩
            case measure => simp [intOf]; omega
        · have hkm : k = t.length := by omega
          subst hkm
          rw [List.take_of_length_le (Nat.le_refl _)] at ho1 ho2
          rw [List.take_of_length_le (Nat.le_refl _)]
          have HS := Lib.hid (HS.out.next hbr)
          obtain ⟨c0, c1, c2⟩ := HS.out.cells
          have R1 := Lib.hid ho1.rd
          have R2 := Lib.hid ho2.rd
          have L1 := Lib.hid Hsp.out.1
          have L2 := Lib.hid Hsp.out.2
          have K1 := Lib.hid (canV_ok L1.out)
          have K2 := Lib.hid (canV_none L2.out)
          clear ho1 ho2 hap hbr
          generalize sel s (fun o => decide (o.due ≤ (d : Int))) t = l1 at *
          generalize sel s (fun o => decide (o.due < (d : Int))) t = l2 at *
          generalize over s (ofL s t) d = ov at *
          go_upto_region 18 with (go_at_call 38; refine (lcan_any (HS.out.given R1.out)).mono ?_; rw [K1.out]; rintro e w5 ⟨rfl, hb⟩; have HS := Lib.hid (HS.out.next hb); have R1 := Lib.hid ((R1.out.below hb).mono hb.size); have R2 := Lib.hid ((R2.out.below hb).mono hb.size); obtain ⟨c0, c1, c2⟩ := HS.out.cells; clear hb)
          go_upto_region 19 with (go_at_call 38; refine (lcan_any (HS.out.given R2.out)).mono ?_; rw [K2.out]; rintro e w6 ⟨rfl, hb⟩; have HS := Lib.hid (HS.out.next hb); have R1 := Lib.hid ((R1.out.below hb).mono hb.size); obtain ⟨c0, c1, c2⟩ := HS.out.cells; clear hb)
          go_upto_region 20 with (go_at_call 18; refine (plate_any (HS.out.given R1.out)).mono ?_; unfold lateFV; rw [L1.out]; rintro e w7 ⟨rfl, hb⟩; have HS := Lib.hid (HS.out.next hb); clear hb)
          go_wp2_with (go_at_call 23; refine (awake_any _).mono ?_; rintro e w8 ⟨rfl, hb⟩; have HS := Lib.hid (HS.out.next hb); clear hb)
          go_ret
          exact ⟨rfl, HS.out.below⟩
  · have Hl := Lib.hid (lateF_bad t he)
    have heb : (errOf s == 0) = false := by simpa using he
    have hne : (errOf s != 0) = true := by simpa using he
    clear he
    go_wp2_with (first | (go_at_call 18; refine (plate_any (HS.out.given HT.out)).mono ?_; unfold lateFV; rw [Hl.out]; rintro e w2 ⟨rfl, hb⟩; have HS := Lib.hid (HS.out.next hb); obtain ⟨c0, c1, c2⟩ := HS.out.cells; clear hb) | (go_at_call 36; refine (valid_any HS.out.shop HS.out.nm HS.out.hB).mono ?_; rintro e w3 ⟨rfl, hb⟩; have HS := Lib.hid (HS.out.next hb); obtain ⟨c0, c1, c2⟩ := HS.out.cells; clear hb) | (go_at_call 23; refine (awake_any _).mono ?_; rintro e w4 ⟨rfl, hb⟩; have HS := Lib.hid (HS.out.next hb); clear hb))
    go_ret
    exact ⟨rfl, HS.out.below⟩
end Go.Proofs.Ytkmaapkbonkjfaa
