/- Walks of the layer order: OrderWorth. -/
import Derived.Test.YtkmaapkbonkjfaaLawW
import Derived.Test.YtkmaapkbonkjfaaLawP
set_option linter.unusedSimpArgs false
set_option linter.unusedVariables false
namespace Go.Proofs.Ytkmaapkbonkjfaa
open Go.RowKit

theorem bestF_bad {s : ShopR} (h : errOf s ≠ 0) : bestF s = ([], 0, errOf s) := by unfold bestF; rw [if_pos h]
theorem bestF_ok {s : ShopR} (h : errOf s = 0) : bestF s = ((bestL s).1.map Int.ofNat, (bestL s).2, 0) := by unfold bestF; rw [if_neg (by simp [h])]
theorem taken_rise {s : ShopR} (he : errOf s = 0) {x : List Nat} (h : Rise s.orders.length x) : takenErr s (x.map Int.ofNat) = 0 := by
  have : x.map Int.ofNat = pick s.orders.length fun i => decide (i ∈ x) := by unfold pick; rw [← rise_filter h]
  rw [this]
  exact taken_pick he _
theorem ofL_ords (s : ShopR) (x : List Nat) : ofL s (x.map Int.ofNat) = ordsOf s x := by
  unfold ofL ordsOf
  rw [List.map_map]
  refine List.map_congr_left fun i _ => ?_
  simp
theorem bestL_len {s : ShopR} (hg : Good s) : (bestL s).1.length ≤ 8 := by
  have h := (bestL_best hg).mem.1
  have := (rise_sub h).length_le
  have := hg.olen
  rw [List.length_range] at *
  omega

set_option maxRecDepth 100000 in
set_option maxHeartbeats 2000000 in
theorem worth_law {B : Nat} {w : World} {v : Value} {s : ShopR} (hs : RdShop B w v s) (hn : ∀ p ∈ s.parts, p.name.size ≤ 9223372036854775807) (hB : B ≤ w.heap.size) (x : Nat) (hx : x < 256) :
    Calls Try.prog 11 #[v, .int .u8 x] w fun e w' => e = .returned (.bool true) ∧ Below w.heap.size w w' := by
  obtain ⟨vh, vp, vo, rfl, ⟨Ah, ch, rfl, _⟩, ⟨Ap, cp, rfl, _⟩, ⟨Ao, co, rfl, _⟩⟩ := id hs
  obtain ⟨W, hW⟩ : ∃ W, W = w.alloc (.cells #[.slice Ah s.hours.length ch, .slice Ap s.parts.length cp, .slice Ao s.orders.length co] 26) := ⟨_, rfl⟩
  have HS := Lib.hid (ShS.start hs hn hB)
  rw [← hW] at HS
  clear hs hn hB
  have HpB := Lib.hid (fun (W : World) (B : Nat) (hs : RdShop B W (.agg #[.slice Ah s.hours.length ch, .slice Ap s.parts.length cp, .slice Ao s.orders.length co]) s) (hn : ∀ p ∈ s.parts, p.name.size ≤ 9223372036854775807) (hB : B ≤ W.heap.size) => pbest_any hs hn hB)
  unfold BestR at HpB
  go_enter Try.func11, Try.ntmps11
  go_upto_region 1 with (fail)
  rw [← hW]
  clear hW
  obtain ⟨c0, c1, c2⟩ := HS.out.cells
  by_cases he : errOf s = 0
  · rw [bestF_ok he] at HpB
    have hg := good_of_valid he
    have hB := bestL_best hg
    have hbt := taken_rise he hB.mem.1
    have hbl := bestL_len hg
    have hbw : wsum (ofL s ((bestL s).1.map Int.ofNat)) = (bestL s).2 := by rw [ofL_ords, hB.worth]; rfl
    have hbc : canV s ((bestL s).1.map Int.ofNat) = .tuple #[.bool true, .bool true] := by rw [canV_of hbt, ofL_ords, hB.mem.2]
    have htl := upTo_short x s.orders.length hx
    have hpk := pick_upTo x s.orders.length
    have hts := taken_pick he (fun i => x.testBit i)
    rw [← hpk] at hts
    have htc : canV s (upTo x s.orders.length) = .tuple #[.bool (canB s (ofL s (upTo x s.orders.length))), .bool true] := canV_of hts
    have htw : canB s (ofL s (upTo x s.orders.length)) = true → wsum (ofL s (upTo x s.orders.length)) ≤ (bestL s).2 := fun h => by
      rw [hpk, ofL_pick] at h ⊢
      have := hB.most _ ⟨rise_range s.orders.length _, h⟩
      rw [worthOf_eq] at this
      omega
    have hlm : ((bestL s).1.map Int.ofNat).length ≤ 8 := by rw [List.length_map]; exact hbl
    have heb : (errOf s == 0) = true := by simpa using he
    clear hB hpk hbl
    have Hbt := Lib.hid hbt
    have Hbw := Lib.hid hbw
    have Hbc := Lib.hid hbc
    have Hts := Lib.hid hts
    have Htc := Lib.hid htc
    have Htw := Lib.hid htw
    clear he hg hbt hbw hbc hts htc htw
    generalize (bestL s).1.map Int.ofNat = bl at *
    generalize (bestL s).2 = bn at *
    go_upto_region 2 with (go_at_call 31; refine (HpB.out _ _ HS.out.shop HS.out.nm HS.out.hB).mono ?_; rintro e w1 ⟨A1, n1, rfl, hr, hb⟩; have HS := Lib.hid (HS.out.next hb); obtain ⟨c0, c1, c2⟩ := HS.out.cells; have HT := Lib.hid hr; clear hb hr)
    go_upto_region 4 with (go_at_call 36; refine (valid_any HS.out.shop HS.out.nm HS.out.hB).mono ?_; rintro e w3 ⟨rfl, hb⟩; have HS := Lib.hid (HS.out.next hb); obtain ⟨c0, c1, c2⟩ := HS.out.cells; have HT := Lib.hid ((HT.out.below hb).mono hb.size); clear hb)
    go_upto_region 6 with (go_at_call 41; refine (rtaken_any (HS.out.given HT.out)).mono ?_; rw [Hbt.out]; rintro e w3 ⟨rfl, hb⟩; have HS := Lib.hid (HS.out.next hb); obtain ⟨c0, c1, c2⟩ := HS.out.cells; have HT := Lib.hid ((HT.out.below hb).mono hb.size); clear hb)
    go_upto_region 7 with (go_at_call 38; refine (lcan_any (HS.out.given HT.out)).mono ?_; rw [Hbc.out]; rintro e w3 ⟨rfl, hb⟩; have HS := Lib.hid (HS.out.next hb); obtain ⟨c0, c1, c2⟩ := HS.out.cells; have HT := Lib.hid ((HT.out.below hb).mono hb.size); clear hb)
    go_upto_region 8 with (go_at_call 37; refine (chosen_any HS.out.shop HS.out.hB x hx).mono ?_; rintro e w1 ⟨A2, n2, rfl, hr, hb⟩; have HS := Lib.hid (HS.out.next hb); obtain ⟨c0, c1, c2⟩ := HS.out.cells; have HT := Lib.hid ((HT.out.below hb).mono hb.size); have HU := Lib.hid hr; clear hb hr)
    generalize upTo x s.orders.length = t at *
    go_upto_region 9 with (go_at_call 38; refine (lcan_any (HS.out.given HU.out)).mono ?_; rw [Htc.out]; rintro e w3 ⟨rfl, hb⟩; have HS := Lib.hid (HS.out.next hb); obtain ⟨c0, c1, c2⟩ := HS.out.cells; have HT := Lib.hid ((HT.out.below hb).mono hb.size); have HU := Lib.hid ((HU.out.below hb).mono hb.size); clear hb)
    have Hww := Lib.hid (fun (W : World) (h : Given W.heap.size W (.agg #[.slice Ah s.hours.length ch, .slice Ap s.parts.length cp, .slice Ao s.orders.length co]) (.slice A1 bl.length n1) s bl) => worth_any h Hbt.out)
    have Hwt := Lib.hid (fun (W : World) (h : Given W.heap.size W (.agg #[.slice Ah s.hours.length ch, .slice Ap s.parts.length cp, .slice Ao s.orders.length co]) (.slice A2 t.length n2) s t) => worth_any h Hts.out)
    rw [Hbw.out] at Hww
    generalize wsum (ofL s t) = wt at *
    cases hcb : canB s (ofL s t) with
    | true =>
      have hle := Htw.out hcb
      have hleb : decide (wt ≤ bn) = true := decide_eq_true hle
      clear hcb
      go_wp2_with (first | (go_at_call 42; ((with_reducible refine (Hww.out _ (HS.out.given HT.out)).mono ?_); rintro e w5 ⟨rfl, hb⟩; have HS := Lib.hid (HS.out.next hb); obtain ⟨c0, c1, c2⟩ := HS.out.cells; have HU := Lib.hid ((HU.out.below hb).mono hb.size); clear hb)) | (go_at_call 42; ((with_reducible refine (Hwt.out _ (HS.out.given HU.out)).mono ?_); rintro e w6 ⟨rfl, hb⟩; have HS := Lib.hid (HS.out.next hb); obtain ⟨c0, c1, c2⟩ := HS.out.cells; clear hb)) | (go_at_call 23; refine (awake_any _).mono ?_; rintro e w7 ⟨rfl, hb⟩; have HS := Lib.hid (HS.out.next hb); clear hb))
      go_ret
      exact ⟨rfl, HS.out.below⟩
    | false =>
      clear hcb
      go_wp2_with (first | (go_at_call 42; ((with_reducible refine (Hww.out _ (HS.out.given HT.out)).mono ?_); rintro e w5 ⟨rfl, hb⟩; have HS := Lib.hid (HS.out.next hb); obtain ⟨c0, c1, c2⟩ := HS.out.cells; have HU := Lib.hid ((HU.out.below hb).mono hb.size); clear hb)) | (go_at_call 42; ((with_reducible refine (Hwt.out _ (HS.out.given HU.out)).mono ?_); rintro e w6 ⟨rfl, hb⟩; have HS := Lib.hid (HS.out.next hb); obtain ⟨c0, c1, c2⟩ := HS.out.cells; clear hb)) | (go_at_call 23; refine (awake_any _).mono ?_; rintro e w7 ⟨rfl, hb⟩; have HS := Lib.hid (HS.out.next hb); clear hb))
      go_ret
      exact ⟨rfl, HS.out.below⟩
  · rw [bestF_bad he] at HpB
    have heb : (errOf s == 0) = false := by simpa using he
    have hne : (errOf s != 0) = true := by simpa using he
    clear he
    go_wp2_with (first | (go_at_call 31; refine (HpB.out _ _ HS.out.shop HS.out.nm HS.out.hB).mono ?_; rintro e w1 ⟨A1, n1, rfl, hr, hb⟩; have HS := Lib.hid (HS.out.next hb); obtain ⟨c0, c1, c2⟩ := HS.out.cells; clear hb hr) | (go_at_call 36; refine (valid_any HS.out.shop HS.out.nm HS.out.hB).mono ?_; rintro e w3 ⟨rfl, hb⟩; have HS := Lib.hid (HS.out.next hb); obtain ⟨c0, c1, c2⟩ := HS.out.cells; clear hb) | (go_at_call 23; refine (awake_any _).mono ?_; rintro e w4 ⟨rfl, hb⟩; have HS := Lib.hid (HS.out.next hb); clear hb))
    go_ret
    exact ⟨rfl, HS.out.below⟩
end Go.Proofs.Ytkmaapkbonkjfaa
