/- Walks of the layer order: OrderPromised. -/
import Derived.Test.YtkmaapkbonkjfaaLawL
import Derived.Test.YtkmaapkbonkjfaaAskL
import Derived.Test.YtkmaapkbonkjfaaValidL
set_option linter.unusedSimpArgs false
set_option linter.unusedVariables false
namespace Go.Proofs.Ytkmaapkbonkjfaa
open Go.RowKit

theorem promiseF_bad {s : ShopR} (t : List Int) (part many : Int) (h : errOf s ≠ 0) : promiseF s t part many = (0, errOf s) := by
  unfold promiseF
  rw [takenErr_shop h, if_pos h]
theorem promiseF_some {s : ShopR} {t : List Int} {part many : Int} {d : Nat} (h : takenErr s t = 0) (hp : inB part 0 (s.parts.length - 1) = true) (hm : inB many 1 50 = true) (hd : promiseL s (ofL s t) part many = some d) : promiseF s t part many = ((d : Int), 0) := by
  unfold promiseF
  rw [if_neg (by simp [h]), if_neg (by simp [hp]), if_neg (by simp [hm]), hd]
theorem promiseF_none {s : ShopR} {t : List Int} {part many : Int} (h : takenErr s t = 0) (hp : inB part 0 (s.parts.length - 1) = true) (hm : inB many 1 50 = true) (hd : promiseL s (ofL s t) part many = none) : promiseF s t part many = (0, 9) := by
  unfold promiseF
  rw [if_neg (by simp [h]), if_neg (by simp [hp]), if_neg (by simp [hm]), hd]
theorem canV_of {s : ShopR} {t : List Int} (h : takenErr s t = 0) : canV s t = .tuple #[.bool (canB s (ofL s t)), .bool true] := by
  unfold canB
  cases hf : first? s (ofL s t) with
  | none => exact canV_none (lateF_none h hf)
  | some d => exact canV_ok (lateF_some h hf)
theorem taken_more {s : ShopR} {o : OrdR} {f : Nat → Bool} (he : errOf (moreS s o) = 0) : takenErr (moreS s o) (pick s.orders.length f ++ [(s.orders.length : Int)]) = 0 := by
  refine takenErr_ok he (in_out fun x hx => ?_) (rise_bad ?_)
  · show 0 ≤ x ∧ x ≤ ((s.orders ++ [o]).length : Int) - 1
    rw [List.length_append, List.length_singleton]
    rcases List.mem_append.1 hx with hx | hx
    · have := pick_mem hx; omega
    · rw [List.mem_singleton.1 hx]; omega
  · rw [List.pairwise_append]
    refine ⟨pick_rise _ _, by simp, fun a ha b hb => ?_⟩
    rw [List.mem_singleton.1 hb]
    exact (pick_mem ha).2
theorem canV_more {s : ShopR} {o : OrdR} {f : Nat → Bool} (he : errOf s = 0) (hl : s.orders.length < 8) (ho : OrdOK s.parts.length s.hours.length o) :
    canV (moreS s o) (pick s.orders.length f ++ [(s.orders.length : Int)]) = .tuple #[.bool (canB s (ofL s (pick s.orders.length f) ++ [o])), .bool true] := by
  rw [canV_of (taken_more (more_valid he hl ho)), canB_more, ofL_more fun i hi => pick_mem hi]

set_option maxRecDepth 100000 in
set_option maxHeartbeats 2000000 in
theorem promised_law {B : Nat} {w : World} {v : Value} {s : ShopR} (hs : RdShop B w v s) (hn : ∀ p ∈ s.parts, p.name.size ≤ 9223372036854775807) (hB : B ≤ w.heap.size) (x x0 x1 x2 : Nat) (hx : x < 256) (h0 : x0 < 256) (h1 : x1 < 256) (h2 : x2 < 256) :
    Calls Try.prog 10 #[v, .int .u8 x, .agg #[.int .u8 x0, .int .u8 x1, .int .u8 x2]] w fun e w' => e = .returned (.bool true) ∧ Below w.heap.size w w' := by
  obtain ⟨vh, vp, vo, rfl, ⟨Ah, ch, rfl, _⟩, ⟨Ap, cp, rfl, _⟩, ⟨Ao, co, rfl, _⟩⟩ := id hs
  obtain ⟨W, hW⟩ : ∃ W, W = (w.alloc (.cells #[.slice Ah s.hours.length ch, .slice Ap s.parts.length cp, .slice Ao s.orders.length co] 26)).alloc (.cells #[.int .u8 x0, .int .u8 x1, .int .u8 x2] 63) := ⟨_, rfl⟩
  have HS := Lib.hid ((ShS.start hs hn hB).next ((Below.refl _ _).alloc (Nat.le_refl _) (.cells #[.int .u8 x0, .int .u8 x1, .int .u8 x2] 63)))
  rw [← hW] at HS
  have T1 : W.heap[w.heap.size + 1]? = some (.cells #[.int .u8 x0, .int .u8 x1, .int .u8 x2] 63) := by
    rw [hW]
    have := heap_alloc_new (w.alloc (.cells #[.slice Ah s.hours.length ch, .slice Ap s.parts.length cp, .slice Ao s.orders.length co] 26)) (.cells #[.int .u8 x0, .int .u8 x1, .int .u8 x2] 63)
    rwa [World.size_alloc] at this
  have B0 := Lib.hid (cellOf T1 0 (v := .int .u8 x0) rfl)
  have B1 := Lib.hid (cellOf T1 1 (v := .int .u8 x1) rfl)
  have B2 := Lib.hid (cellOf T1 2 (v := .int .u8 x2) rfl)
  clear hs hn hB T1
  go_enter Try.func10, Try.ntmps10
  go_upto_region 1 with (fail)
  rw [← hW]
  clear hW
  obtain ⟨c0, c1, c2⟩ := HS.out.cells
  by_cases he : errOf s = 0
  · have heb : (errOf s == 0) = true := by simpa using he
    have hg := good_of_valid he
    have hpl := hg.plen
    have hhl := hg.hlen
    go_upto_region 4 with (go_at_call 36; refine (valid_any HS.out.shop HS.out.nm HS.out.hB).mono ?_; rintro e w1 ⟨rfl, hb⟩; have HS := Lib.hid (HS.out.next hb); obtain ⟨c0, c1, c2⟩ := HS.out.cells; have b0 := (hb.cell (cell_lt B0.out)).trans B0.out; have b1 := (hb.cell (cell_lt B1.out)).trans B1.out; have b2 := (hb.cell (cell_lt B2.out)).trans B2.out; have B0 := Lib.hid b0; have B1 := Lib.hid b1; have B2 := Lib.hid b2; clear hb b0 b1 b2)
    go_upto_region 5 with (go_at_call 37; refine (chosen_any HS.out.shop HS.out.hB x hx).mono ?_; rintro e w1 ⟨A1, n1, rfl, hr, hb⟩; have HS := Lib.hid (HS.out.next hb); obtain ⟨c0, c1, c2⟩ := HS.out.cells; have HT := Lib.hid hr; have b0 := (hb.cell (cell_lt B0.out)).trans B0.out; have b1 := (hb.cell (cell_lt B1.out)).trans B1.out; have b2 := (hb.cell (cell_lt B2.out)).trans B2.out; clear hb hr)
    go_quiet (fail)
    go_upto_region 6 with (fail)
    obtain ⟨pt, hpt, hptl⟩ : ∃ pt : Nat, (x0 : Int) % (s.parts.length : Int) = pt ∧ pt < s.parts.length := ⟨x0 % s.parts.length, by omega, Nat.mod_lt _ (by omega)⟩
    obtain ⟨mn, hmn, hmnl⟩ : ∃ mn : Int, 1 + (x1 : Int) % 50 = mn ∧ (1 ≤ mn ∧ mn ≤ 50) := ⟨_, rfl, by omega, by omega⟩
    obtain ⟨dy, hdy, hdyl⟩ : ∃ dy : Nat, (x2 : Int) % (s.hours.length : Int) = dy ∧ dy < s.hours.length := ⟨x2 % s.hours.length, by omega, Nat.mod_lt _ (by omega)⟩
    rw [hpt, hmn, hdy]
    have Htl := Lib.hid (upTo_short x s.orders.length hx)
    have Hpk := Lib.hid (pick_upTo x s.orders.length)
    generalize upTo x s.orders.length = t at *
    have hte : takenErr s t = 0 := by rw [Hpk.out]; exact taken_pick he _
    have hip : inB (pt : Int) 0 (s.parts.length - 1) = true := by rw [inB_iff]; omega
    have him : inB mn 1 50 = true := by rw [inB_iff]; omega
    have HS : Hid (ShS w B w.heap.size _ _ _ s (w1.drewN nq)) := Lib.hid (HS.out.next (below_drewN (Below.refl _ _) nq))
    have HT : Hid (Rd IntAt 1 (w1.drewN nq).heap.size (w1.drewN nq) (.slice A1 t.length n1) t) := Lib.hid (HT.out.below (below_drewN (Below.refl _ _) nq))
    obtain ⟨Wq, hWq⟩ : ∃ Wq, Wq = w1.drewN nq := ⟨_, rfl⟩
    rw [← hWq] at HS HT ⊢
    clear hWq hpt hmn hdy c0 c1 c2 b0 b1 b2
    obtain ⟨c0, c1, c2⟩ := HS.out.cells
    have Hlaw := Lib.hid (promise_law (l := ofL s t) (part := pt) hg (show 0 ≤ mn by omega) dy hdyl)
    have Hord : Hid (OrdOK s.parts.length s.hours.length ⟨pt, mn, dy, 0⟩) := Lib.hid ⟨by show 0 ≤ (pt : Int) ∧ (pt : Int) < s.parts.length; omega, hmnl, by show 0 ≤ (dy : Int) ∧ (dy : Int) < s.hours.length; omega, by show (0 : Int) ≤ 0 ∧ (0 : Int) ≤ 10000; omega⟩
    have holen := hg.olen
    by_cases h8 : s.orders.length = 8
    · have h8b : ((s.orders.length : Int) == 8) = true := by simp [h8]
      cases hpl : promiseL s (ofL s t) pt mn with
      | some d =>
        have Hp := Lib.hid (promiseF_some hte hip him hpl)
        clear hte hip him hpl he hg h8
        go_wp2_with (first | (go_at_call 29; refine (ppromise_any (HS.out.given HT.out) _ _).mono ?_; unfold promiseFV; rw [Hp.out]; rintro e w2 ⟨rfl, hb⟩; have HS := Lib.hid (HS.out.next hb); obtain ⟨c0, c1, c2⟩ := HS.out.cells; clear hb) | (go_at_call 23; refine (awake_any _).mono ?_; rintro e w4 ⟨rfl, hb⟩; have HS := Lib.hid (HS.out.next hb); clear hb))
        go_ret
        exact ⟨rfl, HS.out.below⟩
      | none =>
        have Hp := Lib.hid (promiseF_none hte hip him hpl)
        clear hte hip him hpl he hg h8
        go_wp2_with (first | (go_at_call 29; refine (ppromise_any (HS.out.given HT.out) _ _).mono ?_; unfold promiseFV; rw [Hp.out]; rintro e w2 ⟨rfl, hb⟩; have HS := Lib.hid (HS.out.next hb); obtain ⟨c0, c1, c2⟩ := HS.out.cells; clear hb) | (go_at_call 23; refine (awake_any _).mono ?_; rintro e w4 ⟨rfl, hb⟩; have HS := Lib.hid (HS.out.next hb); clear hb))
        go_ret
        exact ⟨rfl, HS.out.below⟩
    · have h8b : ((s.orders.length : Int) == 8) = false := by simp; omega
      have Hcan := Lib.hid (canV_more (f := fun i => x.testBit i) he (by omega) Hord.out)
      rw [← Hpk.out] at Hcan
      have key : ∃ (pd pe : Int), promiseF s t pt mn = (pd, pe) := ⟨_, _, rfl⟩
      obtain ⟨pd, pe, hpf⟩ := key
      have Hpf := Lib.hid hpf
      have Hte := Lib.hid hte
      have He := Lib.hid he
      have Hg := Lib.hid hg
      clear hte hpf he hg h8
      go_upto_region 9 with (go_at_call 29; refine (ppromise_any (HS.out.given HT.out) _ _).mono ?_; unfold promiseFV; rw [Hpf.out]; rintro e w2 ⟨rfl, hb⟩; have HS := Lib.hid (HS.out.next hb); have HT := Lib.hid ((HT.out.below hb).mono hb.size); obtain ⟨c0, c1, c2⟩ := HS.out.cells; clear hb)
      have Htl := Htl.out
      go_upto_region 10 with (go_at_call 40; refine (asked_any (HS.out.shop.mono HS.out.hB) HT.out (Nat.le_refl _) (by omega) (by omega) ⟨pt, mn, dy, 0⟩).mono ?_; rintro e w3 ⟨vh', vp', vo', A3, c3, A4, c4, hv3, rfl, hown, hrd, hb⟩; cases hv3; have HS := Lib.hid (HS.out.next hb); have HT := Lib.hid hrd; have HO := Lib.hid hown; obtain ⟨c0, c1, c2⟩ := HS.out.cells; clear hb hown hrd)
      have HM := Lib.hid (ShS.start (w := w3) (B := w3.heap.size) (s := moreS s ⟨pt, mn, dy, 0⟩) (vh := .slice Ah s.hours.length ch) (vp := .slice Ap s.parts.length cp) (vo := .slice A3 (s.orders.length + 1) c3)
        (by obtain ⟨_, _, _, hv, k1, k2, _⟩ := HS.out.shop
            cases hv
            exact ⟨_, _, _, rfl, k1.mono HS.out.hB, k2.mono HS.out.hB, by have := HO.out.rd; simpa [moreS] using this⟩) HS.out.nm (Nat.le_refl _))
      have hb4 : Below w3.heap.size w3 (w3.alloc (.cells #[.slice Ah s.hours.length ch, .slice Ap s.parts.length cp, .slice A3 (s.orders.length + 1) c3] 26)) := (Below.refl _ _).alloc (Nat.le_refl _) _
      have HS := Lib.hid (HS.out.next hb4)
      have HT := Lib.hid ((HT.out.below hb4).mono hb4.size)
      clear hb4 c0 c1 c2
      obtain ⟨W4, hW4⟩ : ∃ W4, W4 = w3.alloc (.cells #[.slice Ah s.hours.length ch, .slice Ap s.parts.length cp, .slice A3 (s.orders.length + 1) c3] 26) := ⟨_, rfl⟩
      rw [← hW4] at HM HS HT ⊢
      clear hW4
      obtain ⟨c0, c1, c2⟩ := HS.out.cells
      obtain ⟨m0, m1, m2⟩ := HM.out.cells
      go_upto_region 11 with (go_at_call 38; refine (lcan_any (HM.out.given (by simpa using HT.out))).mono ?_; rw [Hcan.out]; rintro e w5 ⟨rfl, hb⟩; have HS := Lib.hid (HS.out.next hb); clear hb; obtain ⟨c0, c1, c2⟩ := HS.out.cells; clear m0 m1 m2)
      cases hpl : promiseL s (ofL s t) pt mn with
      | none =>
        have e1 := Hpf.out.symm.trans (promiseF_none Hte.out hip him hpl)
        have e2 := Hlaw.out
        rw [hpl] at e2
        simp only at e2
        rw [e2]
        cases e1
        clear hpl e2
        go_wp2_with (go_at_call 23; refine (awake_any _).mono ?_; rintro e w4 ⟨rfl, hb⟩; have HS := Lib.hid (HS.out.next hb); clear hb)
        go_ret
        exact ⟨rfl, HS.out.below⟩
      | some d =>
        have e1 := Hpf.out.symm.trans (promiseF_some Hte.out hip him hpl)
        have e2 := Hlaw.out
        rw [hpl] at e2
        simp only at e2
        obtain ⟨e3, e2⟩ := e2
        rw [e2]
        cases e1
        have hx1 : decide ((d : Int) < (s.hours.length : Int)) = true := by simp; omega
        have hx2 : d < s.hours.length := e3
        by_cases hdd : d ≤ dy
        · rw [decide_eq_true hdd]
          have hx3 : decide ((dy : Int) ≥ (d : Int)) = true := by simp; omega
          clear hpl e2
          go_wp2_with (go_at_call 23; refine (awake_any _).mono ?_; rintro e w4 ⟨rfl, hb⟩; have HS := Lib.hid (HS.out.next hb); clear hb)
          go_ret
          exact ⟨rfl, HS.out.below⟩
        · rw [decide_eq_false hdd]
          have hx3 : decide ((dy : Int) ≥ (d : Int)) = false := by simp; omega
          clear hpl e2
          go_wp2_with (go_at_call 23; refine (awake_any _).mono ?_; rintro e w4 ⟨rfl, hb⟩; have HS := Lib.hid (HS.out.next hb); clear hb)
          go_ret
          exact ⟨rfl, HS.out.below⟩
  · have Hl := Lib.hid (promiseF_bad [] 0 1 he)
    have heb : (errOf s == 0) = false := by simpa using he
    have hne : (errOf s != 0) = true := by simpa using he
    clear he
    go_wp2_with (first | (go_at_call 29; refine (ppromise_any (HS.out.given (Rd.nil _ _)) 0 1).mono ?_; unfold promiseFV; rw [Hl.out]; rintro e w2 ⟨rfl, hb⟩; have HS := Lib.hid (HS.out.next hb); obtain ⟨c0, c1, c2⟩ := HS.out.cells; clear hb) | (go_at_call 36; refine (valid_any HS.out.shop HS.out.nm HS.out.hB).mono ?_; rintro e w3 ⟨rfl, hb⟩; have HS := Lib.hid (HS.out.next hb); obtain ⟨c0, c1, c2⟩ := HS.out.cells; clear hb) | (go_at_call 23; refine (awake_any _).mono ?_; rintro e w4 ⟨rfl, hb⟩; have HS := Lib.hid (HS.out.next hb); clear hb))
    go_ret
    exact ⟨rfl, HS.out.below⟩
end Go.Proofs.Ytkmaapkbonkjfaa
