/- Walks of the layer order: OrderPlans. -/
import Derived.Test.YtkmaapkbonkjfaaRProm
set_option linter.unusedSimpArgs false
set_option linter.unusedVariables false
namespace Go.Proofs.Ytkmaapkbonkjfaa
open Go.RowKit

theorem planF_len {s : ShopR} (t : List Int) : (planF s t).1.length ≤ 1000000 := by
  by_cases h : takenErr s t = 0
  · obtain ⟨_, hg, hf, _⟩ := fit_of h
    cases hc : canB s (ofL s t) with
    | false => rw [planF_no h hc]; simp
    | true => rw [planF_ok h hc]; have := casts_len hg hf; simp only; omega
  · rw [planF_bad h]; simp
theorem keptF_len {s : ShopR} (t : List Int) (part : Int) : (keptF s t part).1.length ≤ 1000000 := by
  by_cases h : takenErr s t = 0
  · obtain ⟨_, hg, hf, _⟩ := fit_of h
    cases hi : inB part 0 (s.parts.length - 1) with
    | false => rw [keptF_out h hi]; simp
    | true =>
      cases hc : canB s (ofL s t) with
      | false => rw [keptF_no h hi hc]; simp
      | true =>
        obtain ⟨i, rfl⟩ := Int.eq_ofNat_of_zero_le (inB_iff.1 hi).1
        rw [keptF_ok h hi hc]
        have := hg.hlen
        simp only [keptL_size]
        omega
  · rw [keptF_bad part h]; simp

set_option maxRecDepth 100000 in
set_option maxHeartbeats 2000000 in
theorem plans_any {B : Nat} {w : World} {v vt : Value} {s : ShopR} {t : List Int} (hs : RdShop B w v s) (hn : ∀ p ∈ s.parts, p.name.size ≤ 9223372036854775807) (hB : B ≤ w.heap.size) (ht : Rd IntAt 1 B w vt t) (i j : Int) :
    Calls Try.prog 4 #[v, vt, .agg #[.int .i64 i, .int .i64 j]] w fun e w' => e = .returned (.bool true) ∧ Below w.heap.size w w' := by
  have h : Given B w v vt s t := ⟨hs, ht, hn, hB⟩
  obtain ⟨Ah, ch, Ap, cp, Ao, co, At_, ct, rfl, rfl⟩ := h.form
  obtain ⟨W, hW⟩ : ∃ W, W = (w.alloc (.cells #[.slice Ah s.hours.length ch, .slice Ap s.parts.length cp, .slice Ao s.orders.length co] 26)).alloc (.cells #[.int .i64 i, .int .i64 j] 36) := ⟨_, rfl⟩
  have HL := Lib.hid ((LwS.start h).next ((Below.refl _ _).alloc (Nat.le_refl _) (.cells #[.int .i64 i, .int .i64 j] 36)))
  rw [← hW] at HL
  have T1 : W.heap[w.heap.size + 1]? = some (.cells #[.int .i64 i, .int .i64 j] 36) := by
    rw [hW]
    have := heap_alloc_new (w.alloc (.cells #[.slice Ah s.hours.length ch, .slice Ap s.parts.length cp, .slice Ao s.orders.length co] 26)) (.cells #[.int .i64 i, .int .i64 j] 36)
    rwa [World.size_alloc] at this
  have X0 := Lib.hid (cellOf T1 0 (v := .int .i64 i) rfl)
  have X1 := Lib.hid (cellOf T1 1 (v := .int .i64 j) rfl)
  have hpl := planF_len (s := s) t
  have hkl := keptF_len (s := s) t i
  have HpP := Lib.hid (fun (W : World) (h : Given B W (.agg #[.slice Ah s.hours.length ch, .slice Ap s.parts.length cp, .slice Ao s.orders.length co]) (.slice At_ t.length ct) s t) => pplan_any h)
  have HrP := Lib.hid (fun (W : World) (h : Given B W (.agg #[.slice Ah s.hours.length ch, .slice Ap s.parts.length cp, .slice Ao s.orders.length co]) (.slice At_ t.length ct) s t) => rplan_any h)
  have HpK := Lib.hid (fun (W : World) (h : Given B W (.agg #[.slice Ah s.hours.length ch, .slice Ap s.parts.length cp, .slice Ao s.orders.length co]) (.slice At_ t.length ct) s t) => pkept_any h i)
  have HrK := Lib.hid (fun (W : World) (h : Given B W (.agg #[.slice Ah s.hours.length ch, .slice Ap s.parts.length cp, .slice Ao s.orders.length co]) (.slice At_ t.length ct) s t) => rkept_any h i)
  unfold PlanR at HpP HrP
  unfold KeptR at HpK HrK
  generalize planF s t = pf at *
  generalize keptF s t i = kf at *
  obtain ⟨pl, pe⟩ := pf
  obtain ⟨kl, ke⟩ := kf
  simp only at hpl hkl HpP HrP HpK HrK
  clear h hs hn hB ht T1
  go_enter Try.func4, Try.ntmps4
  go_upto_region 1 with (fail)
  rw [← hW]
  clear hW
  obtain ⟨c0, c1, c2⟩ := HL.out.cells
  go_upto_region 2 with (go_at_call 24; refine (HpP.out _ HL.out.given).mono ?_; rintro e w1 ⟨A1, n1, rfl, hr, hb⟩; have HL := Lib.hid (HL.out.next hb); obtain ⟨c0, c1, c2⟩ := HL.out.cells; have HN := Lib.hid hr; have X0 := Lib.hid ((hb.cell (cell_lt X0.out)).trans X0.out); have X1 := Lib.hid ((hb.cell (cell_lt X1.out)).trans X1.out); clear hb hr)
  go_upto_region 3 with (go_at_call 25; refine (HrP.out _ HL.out.given).mono ?_; rintro e w2 ⟨A2, n2, rfl, hr, hb⟩; have HL := Lib.hid (HL.out.next hb); obtain ⟨c0, c1, c2⟩ := HL.out.cells; have HN := Lib.hid (HN.out.below hb); have HM := Lib.hid hr; have X0 := Lib.hid ((hb.cell (cell_lt X0.out)).trans X0.out); have X1 := Lib.hid ((hb.cell (cell_lt X1.out)).trans X1.out); clear hb hr)
  have x0 := X0.out
  go_upto_region 5 with (go_at_call 26; refine (same_any HN.out HM.out hpl).mono ?_; rw [beq_self_eq_true]; rintro e w3 ⟨rfl, hq⟩; have HL := Lib.hid (HL.out.next (hq.below _)); obtain ⟨c0, c1, c2⟩ := HL.out.cells; have X0 := Lib.hid (hq.cell X0.out); have X1 := Lib.hid (hq.cell X1.out); clear hq x0)
  have x0 := X0.out
  go_upto_region 6 with (go_at_call 27; refine (HpK.out _ HL.out.given).mono ?_; rintro e w4 ⟨A3, n3, rfl, hr, hb⟩; have HL := Lib.hid (HL.out.next hb); obtain ⟨c0, c1, c2⟩ := HL.out.cells; have HN := Lib.hid hr; have X0 := Lib.hid ((hb.cell (cell_lt X0.out)).trans X0.out); have X1 := Lib.hid ((hb.cell (cell_lt X1.out)).trans X1.out); clear hb hr x0)
  have x0 := X0.out
  go_upto_region 7 with (go_at_call 28; refine (HrK.out _ HL.out.given).mono ?_; rintro e w5 ⟨A4, n4, rfl, hr, hb⟩; have HL := Lib.hid (HL.out.next hb); obtain ⟨c0, c1, c2⟩ := HL.out.cells; have HN := Lib.hid (HN.out.below hb); have HM := Lib.hid hr; have X0 := Lib.hid ((hb.cell (cell_lt X0.out)).trans X0.out); have X1 := Lib.hid ((hb.cell (cell_lt X1.out)).trans X1.out); clear hb hr x0)
  go_upto_region 9 with (go_at_call 22; refine (ints_any HN.out HM.out hkl).mono ?_; rw [beq_self_eq_true]; rintro e w6 ⟨rfl, hq⟩; have HL := Lib.hid (HL.out.next (hq.below _)); obtain ⟨c0, c1, c2⟩ := HL.out.cells; have X0 := Lib.hid (hq.cell X0.out); have X1 := Lib.hid (hq.cell X1.out); clear hq)
  have x0 := X0.out
  have x1 := X1.out
  have Hp1 := Lib.hid (fun (W : World) (h : Given B W (.agg #[.slice Ah s.hours.length ch, .slice Ap s.parts.length cp, .slice Ao s.orders.length co]) (.slice At_ t.length ct) s t) => ppromise_any h i j)
  have Hp2 := Lib.hid (fun (W : World) (h : Given B W (.agg #[.slice Ah s.hours.length ch, .slice Ap s.parts.length cp, .slice Ao s.orders.length co]) (.slice At_ t.length ct) s t) => rpromise_any h i j)
  unfold promiseFV at Hp1 Hp2
  generalize promiseF s t i j = qf at *
  go_upto_region 10 with (go_at_call 29; refine (Hp1.out _ HL.out.given).mono ?_; rintro e w7 ⟨rfl, hb⟩; have HL := Lib.hid (HL.out.next hb); obtain ⟨c0, c1, c2⟩ := HL.out.cells; have X0 := Lib.hid ((hb.cell (cell_lt X0.out)).trans X0.out); have X1 := Lib.hid ((hb.cell (cell_lt X1.out)).trans X1.out); clear hb x0 x1)
  have x0 := X0.out
  have x1 := X1.out
  go_wp2_with (first | (go_at_call 30; refine (Hp2.out _ HL.out.given).mono ?_; rintro e w8 ⟨rfl, hb⟩; have HL := Lib.hid (HL.out.next hb); clear hb x0 x1 c0 c1 c2) | (go_at_call 23; refine (awake_any _).mono ?_; rintro e w9 ⟨rfl, hb⟩; have HL := Lib.hid (HL.out.next hb); clear hb))
  go_ret
  exact ⟨rfl, HL.out.below⟩
end Go.Proofs.Ytkmaapkbonkjfaa
