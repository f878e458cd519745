/- Walks of the layer order: OrderCosts. -/
import Derived.Test.YtkmaapkbonkjfaaLawW2
set_option linter.unusedSimpArgs false
set_option linter.unusedVariables false
namespace Go.Proofs.Ytkmaapkbonkjfaa
open Go.RowKit

theorem costsF_bad {s : ShopR} (o : Int) (h : errOf s ≠ 0) : costsF s o = (0, errOf s) := by unfold costsF; rw [if_pos h]
theorem costsF_out {s : ShopR} (o : Int) (h : errOf s = 0) (h2 : inB o 0 (s.orders.length - 1) = false) : costsF s o = (0, 4) := by unfold costsF; rw [if_neg (by simp [h]), if_pos h2]
theorem mem_cast {x : List Nat} {i : Nat} : ((i : Int) ∈ x.map Int.ofNat) ↔ i ∈ x := by
  constructor
  · intro h
    obtain ⟨j, hj, e⟩ := List.mem_map.1 h
    have : j = i := Int.ofNat.inj e
    exact this ▸ hj
  · intro h
    exact List.mem_map.2 ⟨i, h, rfl⟩

set_option maxRecDepth 100000 in
set_option maxHeartbeats 2000000 in
theorem costs_walk {B : Nat} {w : World} {v : Value} {s : ShopR} (hs : RdShop B w v s) (hn : ∀ p ∈ s.parts, p.name.size ≤ 9223372036854775807) (hB : B ≤ w.heap.size) (x : Nat) (hx : x < 256) :
    Calls Try.prog 12 #[v, .int .u8 x] w fun e w' => e = .returned (.bool true) ∧ Below w.heap.size w w' := by
  obtain ⟨vh, vp, vo, rfl, ⟨Ah, ch, rfl, _⟩, ⟨Ap, cp, rfl, _⟩, ⟨Ao, co, rfl, _⟩⟩ := id hs
  obtain ⟨W, hW⟩ : ∃ W, W = w.alloc (.cells #[.slice Ah s.hours.length ch, .slice Ap s.parts.length cp, .slice Ao s.orders.length co] 26) := ⟨_, rfl⟩
  have HS := Lib.hid (ShS.start hs hn hB)
  rw [← hW] at HS
  clear hs hn hB
  have HpB := Lib.hid (fun (W : World) (B : Nat) (hs : RdShop B W (.agg #[.slice Ah s.hours.length ch, .slice Ap s.parts.length cp, .slice Ao s.orders.length co]) s) (hn : ∀ p ∈ s.parts, p.name.size ≤ 9223372036854775807) (hB : B ≤ W.heap.size) => pbest_any hs hn hB)
  unfold BestR at HpB
  go_enter Try.func12, Try.ntmps12
  go_upto_region 1 with (fail)
  rw [← hW]
  clear hW
  obtain ⟨c0, c1, c2⟩ := HS.out.cells
  by_cases he : errOf s = 0
  · rw [bestF_ok he] at HpB
    have heb : (errOf s == 0) = true := by simpa using he
    have hg := good_of_valid he
    have hol := hg.olen
    by_cases hl0 : s.orders.length = 0
    · have hlb : ((s.orders.length : Int) == 0) = true := by simp [hl0]
      have Hl := Lib.hid (costsF_out (s := s) 0 he (by rw [inB_false]; omega))
      clear he hg hl0
      go_wp2_with (first | (go_at_call 33; refine (pcosts_any HS.out.shop HS.out.nm HS.out.hB 0).mono ?_; unfold costsFV; rw [Hl.out]; rintro e w2 ⟨rfl, hb⟩; have HS := Lib.hid (HS.out.next hb); obtain ⟨c0, c1, c2⟩ := HS.out.cells; clear hb) | (go_at_call 36; refine (valid_any HS.out.shop HS.out.nm HS.out.hB).mono ?_; rintro e w3 ⟨rfl, hb⟩; have HS := Lib.hid (HS.out.next hb); obtain ⟨c0, c1, c2⟩ := HS.out.cells; clear hb) | (go_at_call 23; refine (awake_any _).mono ?_; rintro e w4 ⟨rfl, hb⟩; have HS := Lib.hid (HS.out.next hb); clear hb))
      go_ret
      exact ⟨rfl, HS.out.below⟩
    · have hlb : ((s.orders.length : Int) == 0) = false := beq_false_of_ne (by omega)
      obtain ⟨i, hi, hil⟩ : ∃ i : Nat, (x : Int) % (s.orders.length : Int) = i ∧ i < s.orders.length := ⟨x % s.orders.length, by omega, Nat.mod_lt _ (by omega)⟩
      go_upto_region 5 with (go_at_call 36; refine (valid_any HS.out.shop HS.out.nm HS.out.hB).mono ?_; rintro e w3 ⟨rfl, hb⟩; have HS := Lib.hid (HS.out.next hb); obtain ⟨c0, c1, c2⟩ := HS.out.cells; clear hb)
      rw [hi]
      have hlaw := costs_law hg he hil
      have hbl := bestL_len hg
      have hit : takenErr s [(i : Int)] = 0 := taken_rise (x := [i]) he ⟨by simp, by simpa using hil⟩
      have hio : ofL s [(i : Int)] = [s.orders.getD i default] := by simp [ofL]
      have hcv : canV s [(i : Int)] = .tuple #[.bool (canB s [s.orders.getD i default]), .bool true] := by rw [canV_of hit, hio]
      have hmem : ((i : Int) ∈ (bestL s).1.map Int.ofNat) ↔ i ∈ (bestL s).1 := mem_cast
      have hbl2 : ((bestL s).1.map Int.ofNat).length ≤ 1000000 := by rw [List.length_map]; omega
      obtain ⟨vh', vp', vo', hv, _, _, ho⟩ := id HS.out.shop
      cases hv
      obtain ⟨ao, rfl, _, _, _, _, o3⟩ := ho.ord hil
      rw [← List.getD_eq_getElem?_getD] at o3
      have O3 := Lib.hid o3
      generalize s.orders.getD i default = o at *
      rw [← hmem] at hlaw
      have Hcv := Lib.hid hcv
      have Hbl := Lib.hid hbl2
      obtain ⟨⟨cn, ce⟩, hc⟩ : ∃ p, costsF s (i : Int) = p := ⟨_, rfl⟩
      rw [hc] at hlaw
      have Hc := Lib.hid hc
      have Hlaw := Lib.hid hlaw
      clear he hg hl0 hlaw hbl hit hio hcv hmem hbl2 ho o3 hi hc
      generalize (bestL s).1.map Int.ofNat = bl at *
      generalize (bestL s).2 = bn at *
      go_upto_region 6 with (go_at_call 31; refine (HpB.out _ _ HS.out.shop HS.out.nm HS.out.hB).mono ?_; rintro e w1 ⟨A1, n1, rfl, hr, hb⟩; have HS := Lib.hid (HS.out.next hb); obtain ⟨c0, c1, c2⟩ := HS.out.cells; have HT := Lib.hid hr; have O3 := Lib.hid ((hb.cell (cell_lt O3.out)).trans O3.out); clear hb hr)
      go_upto_region 7 with (go_at_call 33; refine (pcosts_any HS.out.shop HS.out.nm HS.out.hB _).mono ?_; unfold costsFV; rw [Hc.out]; rintro e w2 ⟨rfl, hb⟩; have HS := Lib.hid (HS.out.next hb); obtain ⟨c0, c1, c2⟩ := HS.out.cells; have HT := Lib.hid ((HT.out.below hb).mono hb.size); have O3 := Lib.hid ((hb.cell (cell_lt O3.out)).trans O3.out); clear hb)
      go_upto_region 8 with (go_at_call 43; refine (has_any HT.out Hbl.out _).mono ?_; rintro e w2 ⟨rfl, rfl⟩)
      cases hcb : canB s [o] with
      | false =>
        have h := Hlaw.out
        rw [hcb, if_neg (by simp)] at h
        obtain ⟨h1, h2⟩ := h
        cases h1
        rw [decide_eq_false h2]
        rw [hcb] at Hcv
        clear hcb h2
        have h0 : (i : Int) ≤ 8 := by omega
        go_upto_region 10 with (go_at_call 38; refine (lcan_any ((HS.out.next ((Below.refl _ _).alloc (Nat.le_refl _) _)).given (by have := Rd.one w2 (i : Int); simpa using this))).mono ?_; rw [Hcv.out]; rintro e w5 ⟨rfl, hb⟩; have HS := Lib.hid (HS.out.next (((Below.refl _ _).alloc (Nat.le_refl _) _).trans (hb.mono (by simp)))); obtain ⟨c0, c1, c2⟩ := HS.out.cells; clear hb)
        go_wp2_with (go_at_call 23; refine (awake_any _).mono ?_; rintro e w4 ⟨rfl, hb⟩; have HS := Lib.hid (HS.out.next hb); clear hb)
        go_ret
        exact ⟨rfl, HS.out.below⟩
      | true =>
        have h := Hlaw.out
        rw [hcb, if_pos rfl] at h
        obtain ⟨h1, h2, h3, h4⟩ := h
        have h1 : ce = 0 := h1
        have h2 : 0 ≤ cn := h2
        have h3 : cn < o.worth → (i : Int) ∈ bl := h3
        have h4 : o.worth < cn → (i : Int) ∉ bl := h4
        subst h1
        have o3 := O3.out
        have h2b : decide (cn ≥ 0) = true := decide_eq_true h2
        by_cases hlt : cn < o.worth
        · rw [decide_eq_true (h3 hlt)]
          have q1 : decide (o.worth ≤ cn) = false := decide_eq_false (by omega)
          have q2 : decide (o.worth ≥ cn) = true := decide_eq_true (by omega)
          clear hcb h3 h4
          go_wp2_with (go_at_call 23; refine (awake_any _).mono ?_; rintro e w4 ⟨rfl, hb⟩; have HS := Lib.hid (HS.out.next hb); clear hb)
          go_ret
          exact ⟨rfl, HS.out.below⟩
        · by_cases hgt : o.worth < cn
          · rw [decide_eq_false (h4 hgt)]
            have q1 : decide (o.worth ≤ cn) = true := decide_eq_true (by omega)
            have q2 : decide (o.worth ≥ cn) = false := decide_eq_false (by omega)
            clear hcb h3 h4
            go_wp2_with (go_at_call 23; refine (awake_any _).mono ?_; rintro e w4 ⟨rfl, hb⟩; have HS := Lib.hid (HS.out.next hb); clear hb)
            go_ret
            exact ⟨rfl, HS.out.below⟩
          · have q1 : decide (o.worth ≤ cn) = true := decide_eq_true (by omega)
            have q2 : decide (o.worth ≥ cn) = true := decide_eq_true (by omega)
            clear hcb h3 h4
            generalize decide ((i : Int) ∈ bl) = ib
            go_wp2_with (go_at_call 23; refine (awake_any _).mono ?_; rintro e w4 ⟨rfl, hb⟩; have HS := Lib.hid (HS.out.next hb); clear hb)
            go_ret
            exact ⟨rfl, HS.out.below⟩
  · have Hl := Lib.hid (costsF_bad 0 he)
    have heb : (errOf s == 0) = false := by simpa using he
    have hne : (errOf s != 0) = true := by simpa using he
    clear he
    go_wp2_with (first | (go_at_call 33; refine (pcosts_any HS.out.shop HS.out.nm HS.out.hB 0).mono ?_; unfold costsFV; rw [Hl.out]; rintro e w2 ⟨rfl, hb⟩; have HS := Lib.hid (HS.out.next hb); obtain ⟨c0, c1, c2⟩ := HS.out.cells; clear hb) | (go_at_call 36; refine (valid_any HS.out.shop HS.out.nm HS.out.hB).mono ?_; rintro e w3 ⟨rfl, hb⟩; have HS := Lib.hid (HS.out.next hb); obtain ⟨c0, c1, c2⟩ := HS.out.cells; clear hb) | (go_at_call 23; refine (awake_any _).mono ?_; rintro e w4 ⟨rfl, hb⟩; have HS := Lib.hid (HS.out.next hb); clear hb))
    go_ret
    exact ⟨rfl, HS.out.below⟩
end Go.Proofs.Ytkmaapkbonkjfaa
