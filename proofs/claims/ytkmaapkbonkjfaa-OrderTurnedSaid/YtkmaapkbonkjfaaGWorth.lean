/- Walks of the layer order: worth of the laws, Has; OrderWorth. Walks of the layer order: OrderWorth. Walks of the layer order: OrderCosts. -/
import Derived.Test.YtkmaapkbonkjfaaLawL
import Derived.Test.YtkmaapkbonkjfaaCostL
import Derived.Test.YtkmaapkbonkjfaaLawP
set_option linter.unusedSimpArgs false
set_option linter.unusedVariables false
namespace Go.Proofs.Ytkmaapkbonkjfaa
open Go.RowKit

theorem wsum_bd {l : List OrdR} (h : ∀ o ∈ l, 0 ≤ o.worth ∧ o.worth ≤ 10000) : 0 ≤ wsum l ∧ wsum l ≤ 10000 * l.length := by
  induction l with
  | nil => simp [wsum]
  | cons o l ih =>
    have h1 := h o (by simp)
    have h2 := ih fun x hx => h x (by simp [hx])
    rw [wsum_cons]
    simp only [List.length_cons]
    omega

set_option maxRecDepth 100000 in
theorem worth_any {B : Nat} {w : World} {v vt : Value} {s : ShopR} {t : List Int} (h : Given B w v vt s t) (he : takenErr s t = 0) :
    Calls Try.prog 42 #[v, vt] w fun e w' => e = .returned (.int .i64 (wsum (ofL s t))) ∧ Below w.heap.size w w' := by
  obtain ⟨Ah, ch, Ap, cp, Ao, co, At_, ct, rfl, rfl⟩ := h.form
  obtain ⟨W, hW, c0, c1, c2, hz, hb, _⟩ := shop_box w (.slice Ah s.hours.length ch) (.slice Ap s.parts.length cp) (.slice Ao s.orders.length co)
  have hG := Lib.hid (h.below hb)
  have Hb := Lib.hid hb
  have C2 := Lib.hid c2
  obtain ⟨_, hg, hfit, _⟩ := fit_of he
  have htl : t.length ≤ 9 := by have := hfit.len; rwa [ofL_len] at this
  have Hin := Lib.hid (fun k hk => taken_in (k := k) he hk)
  have Hwb : Hid (∀ k, 0 ≤ wsum (ofL s (t.take k)) ∧ wsum (ofL s (t.take k)) ≤ 90000) := Lib.hid fun k => by
    have h1 := wsum_bd (l := ofL s (t.take k)) fun o ho => by
      have : o ∈ ofL s t := by
        unfold ofL at ho ⊢
        obtain ⟨i, hi, rfl⟩ := List.mem_map.1 ho
        exact List.mem_map_of_mem (List.mem_of_mem_take hi)
      exact (hfit.all o this).worth
    rw [ofL_len, List.length_take] at h1
    omega
  clear hfit hg he
  go_enter Try.func42, Try.ntmps42
  go_upto_region 1 with (fail)
  rw [← hW]
  clear hW hz hb h c0 c1 c2
  go_wp2
  go_loopw [5, 6] (fun n i wr => ∃ k : Nat, k ≤ t.length ∧ i = .int .i64 k ∧ n = .int .i64 (wsum (ofL s (t.take k))) ∧ Qt W wr) (fun _ i _ => t.length - (intOf i).toNat)
  case atStart => exact ⟨0, Nat.zero_le _, rfl, rfl, Qt.refl _⟩
  case round =>
    obtain ⟨k, hk, rfl, rfl, hq⟩ := hrel
    have c2 := hq.cell C2.out
    by_cases hlt : k < t.length
    · obtain ⟨ad, rfl, _, d0⟩ := (hG.out.tk.qt hq).int hlt
      obtain ⟨q0, q1⟩ := Hin.out k hlt
      obtain ⟨q, hqe⟩ := Int.eq_ofNat_of_zero_le q0
      have hq1 : (q : Int) < s.orders.length := by omega
      obtain ⟨vh', vp', vo', hv, _, _, ho⟩ := hG.out.shop.qt hq
      cases hv
      obtain ⟨ao, rfl, _, o0, o1, o2, o3⟩ := ho.ord (i := q) (by omega)
      have hsn := ofL_snoc (s := s) hlt hqe
      have hsum : wsum (ofL s (t.take (k + 1))) = wsum (ofL s (t.take k)) + (s.orders[q]?.getD default).worth := by rw [hsn, wsum_append]; simp [wsum]
      have hb0 := Hwb.out k
      have hb1 := Hwb.out (k + 1)
      rw [hsum] at hb1
      have Hsum := Lib.hid hsum
      rw [hqe] at d0
      have Hq := Lib.hid hq
      clear hsn hsum q0 q1 ho o0 o1 o2 hqe hq
      generalize s.orders[q]?.getD default = o at *
      generalize wsum (ofL s (t.take k)) = sm at *
      go_wp2
      go_quiet (fail)
      go_wp2
      go_roundw
      case rel => exact ⟨k + 1, by omega, by go_num, by rw [Hsum.out], Hq.out.drewN _⟩
      case measure => simp [intOf]; omega
    · have hkn : k = t.length := by omega
      subst hkn
      rw [List.take_of_length_le (Nat.le_refl _)]
      have Hq := Lib.hid hq
      clear hq
      go_wp2
      go_ret
      exact ⟨rfl, Hb.out.trans (Hq.out.below _ |>.mono Hb.out.size)⟩

set_option maxRecDepth 100000 in
theorem has_any {B : Nat} {w : World} {vt : Value} {t : List Int} (h : Rd IntAt 1 B w vt t) (hn : t.length ≤ 1000000) (x : Int) :
    Calls Try.prog 43 #[vt, .int .i64 x] w fun e w' => e = .returned (.bool (decide (x ∈ t))) ∧ w = w' := by
  obtain ⟨A, c, rfl, _⟩ := id h
  have H := Lib.hid h
  clear h
  go_enter Try.func43, Try.ntmps43
  go_wp2
  go_loop [5] (fun i => ∃ k : Nat, k ≤ t.length ∧ i = .int .i64 k ∧ ∀ j, j < k → t[j]?.getD 0 ≠ x) (fun i => t.length - (intOf i).toNat)
  case atStart => exact ⟨0, Nat.zero_le _, rfl, by intro j hj; omega⟩
  case round =>
    obtain ⟨k, hk, rfl, hno⟩ := hrel
    have Hno := Lib.hid hno
    clear hno
    by_cases hlt : k < t.length
    · obtain ⟨ad, rfl, _, d0⟩ := H.out.int hlt
      have hmem : t[k]?.getD 0 ∈ t := by rw [List.getElem?_eq_getElem hlt]; exact List.getElem_mem hlt
      have Hm := Lib.hid hmem
      clear hmem
      obtain ⟨y, hy⟩ : ∃ y, t[k]?.getD 0 = y := ⟨_, rfl⟩
      rw [hy] at d0 Hm
      have Hy := Lib.hid hy
      clear hy
      by_cases hx : y = x
      · subst hx
        go_wp2
        go_ret
        exact ⟨ret_bool (by simpa using Hm.out), rfl⟩
      · have hxb : (y == x) = false := beq_false_of_ne hx
        have Hx := Lib.hid hx
        clear hx
        go_wp2
        go_round
        case rel => exact ⟨k + 1, by omega, by go_num, fun j hj => by
          by_cases e : j < k
          · exact Hno.out j e
          · obtain rfl : j = k := by omega
            rw [Hy.out]; exact Hx.out⟩
        case measure => simp [intOf]; omega
    · have hkn : k = t.length := by omega
      subst hkn
      have hnm : x ∉ t := fun hm => by
        obtain ⟨j, hj, e⟩ := List.getElem_of_mem hm
        exact Hno.out j hj (by rw [List.getElem?_eq_getElem hj]; exact e)
      have Hnm := Lib.hid hnm
      clear hnm
      go_wp2
      go_ret
      exact ⟨ret_bool (by simpa using Hnm.out), rfl⟩
end Go.Proofs.Ytkmaapkbonkjfaa
namespace Go.Proofs.Ytkmaapkbonkjfaa
open Go.RowKit

theorem bestF_bad {s : ShopR} (h : errOf s ≠ 0) : bestF s = ([], 0, errOf s) := by unfold bestF; rw [if_pos h]
theorem bestF_ok {s : ShopR} (h : errOf s = 0) : bestF s = ((bestL s).1.map Int.ofNat, (bestL s).2, 0) := by unfold bestF; rw [if_neg (by simp [h])]
theorem taken_rise {s : ShopR} (he : errOf s = 0) {x : List Nat} (h : Rise s.orders.length x) : takenErr s (x.map Int.ofNat) = 0 := by
  have : x.map Int.ofNat = pick s.orders.length fun i => decide (i ∈ x) := by unfold pick; rw [← rise_filter h]
  rw [this]
  exact taken_pick he _
theorem ofL_ords (s : ShopR) (x : List Nat) : ofL s (x.map Int.ofNat) = ordsOf s x := by
  unfold ofL ordsOf
  rw [List.map_map]
  refine List.map_congr_left fun i _ => ?_
  simp
theorem bestL_len {s : ShopR} (hg : Good s) : (bestL s).1.length ≤ 8 := by
  have h := (bestL_best hg).mem.1
  have := (rise_sub h).length_le
  have := hg.olen
  rw [List.length_range] at *
  omega

set_option maxRecDepth 100000 in
set_option maxHeartbeats 2000000 in
theorem worth_law {B : Nat} {w : World} {v : Value} {s : ShopR} (hs : RdShop B w v s) (hn : ∀ p ∈ s.parts, p.name.size ≤ 9223372036854775807) (hB : B ≤ w.heap.size) (x : Nat) (hx : x < 256) :
    Calls Try.prog 11 #[v, .int .u8 x] w fun e w' => e = .returned (.bool true) ∧ Below w.heap.size w w' := by
  obtain ⟨vh, vp, vo, rfl, ⟨Ah, ch, rfl, _⟩, ⟨Ap, cp, rfl, _⟩, ⟨Ao, co, rfl, _⟩⟩ := id hs
  obtain ⟨W, hW⟩ : ∃ W, W = w.alloc (.cells #[.slice Ah s.hours.length ch, .slice Ap s.parts.length cp, .slice Ao s.orders.length co] 26) := ⟨_, rfl⟩
  have HS := Lib.hid (ShS.start hs hn hB)
  rw [← hW] at HS
  clear hs hn hB
  have HpB := Lib.hid (fun (W : World) (B : Nat) (hs : RdShop B W (.agg #[.slice Ah s.hours.length ch, .slice Ap s.parts.length cp, .slice Ao s.orders.length co]) s) (hn : ∀ p ∈ s.parts, p.name.size ≤ 9223372036854775807) (hB : B ≤ W.heap.size) => pbest_any hs hn hB)
  unfold BestR at HpB
  go_enter Try.func11, Try.ntmps11
  go_upto_region 1 with (fail)
  rw [← hW]
  clear hW
  obtain ⟨c0, c1, c2⟩ := HS.out.cells
  by_cases he : errOf s = 0
  · rw [bestF_ok he] at HpB
    have hg := good_of_valid he
    have hB := bestL_best hg
    have hbt := taken_rise he hB.mem.1
    have hbl := bestL_len hg
    have hbw : wsum (ofL s ((bestL s).1.map Int.ofNat)) = (bestL s).2 := by rw [ofL_ords, hB.worth]; rfl
    have hbc : canV s ((bestL s).1.map Int.ofNat) = .tuple #[.bool true, .bool true] := by rw [canV_of hbt, ofL_ords, hB.mem.2]
    have htl := upTo_short x s.orders.length hx
    have hpk := pick_upTo x s.orders.length
    have hts := taken_pick he (fun i => x.testBit i)
    rw [← hpk] at hts
    have htc : canV s (upTo x s.orders.length) = .tuple #[.bool (canB s (ofL s (upTo x s.orders.length))), .bool true] := canV_of hts
    have htw : canB s (ofL s (upTo x s.orders.length)) = true → wsum (ofL s (upTo x s.orders.length)) ≤ (bestL s).2 := fun h => by
      rw [hpk, ofL_pick] at h ⊢
      have := hB.most _ ⟨rise_range s.orders.length _, h⟩
      rw [worthOf_eq] at this
      omega
    have hlm : ((bestL s).1.map Int.ofNat).length ≤ 8 := by rw [List.length_map]; exact hbl
    have heb : (errOf s == 0) = true := by simpa using he
    clear hB hpk hbl
    have Hbt := Lib.hid hbt
    have Hbw := Lib.hid hbw
    have Hbc := Lib.hid hbc
    have Hts := Lib.hid hts
    have Htc := Lib.hid htc
    have Htw := Lib.hid htw
    clear he hg hbt hbw hbc hts htc htw
    generalize (bestL s).1.map Int.ofNat = bl at *
    generalize (bestL s).2 = bn at *
    go_upto_region 2 with (go_at_call 31; refine (HpB.out _ _ HS.out.shop HS.out.nm HS.out.hB).mono ?_; rintro e w1 ⟨A1, n1, rfl, hr, hb⟩; have HS := Lib.hid (HS.out.next hb); obtain ⟨c0, c1, c2⟩ := HS.out.cells; have HT := Lib.hid hr; clear hb hr)
    go_upto_region 4 with (go_at_call 36; refine (valid_any HS.out.shop HS.out.nm HS.out.hB).mono ?_; rintro e w3 ⟨rfl, hb⟩; have HS := Lib.hid (HS.out.next hb); obtain ⟨c0, c1, c2⟩ := HS.out.cells; have HT := Lib.hid ((HT.out.below hb).mono hb.size); clear hb)
    go_upto_region 6 with (go_at_call 41; refine (rtaken_any (HS.out.given HT.out)).mono ?_; rw [Hbt.out]; rintro e w3 ⟨rfl, hb⟩; have HS := Lib.hid (HS.out.next hb); obtain ⟨c0, c1, c2⟩ := HS.out.cells; have HT := Lib.hid ((HT.out.below hb).mono hb.size); clear hb)
    go_upto_region 7 with (go_at_call 38; refine (lcan_any (HS.out.given HT.out)).mono ?_; rw [Hbc.out]; rintro e w3 ⟨rfl, hb⟩; have HS := Lib.hid (HS.out.next hb); obtain ⟨c0, c1, c2⟩ := HS.out.cells; have HT := Lib.hid ((HT.out.below hb).mono hb.size); clear hb)
    go_upto_region 8 with (go_at_call 37; refine (chosen_any HS.out.shop HS.out.hB x hx).mono ?_; rintro e w1 ⟨A2, n2, rfl, hr, hb⟩; have HS := Lib.hid (HS.out.next hb); obtain ⟨c0, c1, c2⟩ := HS.out.cells; have HT := Lib.hid ((HT.out.below hb).mono hb.size); have HU := Lib.hid hr; clear hb hr)
    generalize upTo x s.orders.length = t at *
    go_upto_region 9 with (go_at_call 38; refine (lcan_any (HS.out.given HU.out)).mono ?_; rw [Htc.out]; rintro e w3 ⟨rfl, hb⟩; have HS := Lib.hid (HS.out.next hb); obtain ⟨c0, c1, c2⟩ := HS.out.cells; have HT := Lib.hid ((HT.out.below hb).mono hb.size); have HU := Lib.hid ((HU.out.below hb).mono hb.size); clear hb)
    have Hww := Lib.hid (fun (W : World) (h : Given W.heap.size W (.agg #[.slice Ah s.hours.length ch, .slice Ap s.parts.length cp, .slice Ao s.orders.length co]) (.slice A1 bl.length n1) s bl) => worth_any h Hbt.out)
    have Hwt := Lib.hid (fun (W : World) (h : Given W.heap.size W (.agg #[.slice Ah s.hours.length ch, .slice Ap s.parts.length cp, .slice Ao s.orders.length co]) (.slice A2 t.length n2) s t) => worth_any h Hts.out)
    rw [Hbw.out] at Hww
    generalize wsum (ofL s t) = wt at *
    cases hcb : canB s (ofL s t) with
    | true =>
      have hle := Htw.out hcb
      have hleb : decide (wt ≤ bn) = true := decide_eq_true hle
      clear hcb
      go_wp2_with (first | (go_at_call 42; ((with_reducible refine (Hww.out _ (HS.out.given HT.out)).mono ?_); rintro e w5 ⟨rfl, hb⟩; have HS := Lib.hid (HS.out.next hb); obtain ⟨c0, c1, c2⟩ := HS.out.cells; have HU := Lib.hid ((HU.out.below hb).mono hb.size); clear hb)) | (go_at_call 42; ((with_reducible refine (Hwt.out _ (HS.out.given HU.out)).mono ?_); rintro e w6 ⟨rfl, hb⟩; have HS := Lib.hid (HS.out.next hb); obtain ⟨c0, c1, c2⟩ := HS.out.cells; clear hb)) | (go_at_call 23; refine (awake_any _).mono ?_; rintro e w7 ⟨rfl, hb⟩; have HS := Lib.hid (HS.out.next hb); clear hb))
      go_ret
      exact ⟨rfl, HS.out.below⟩
    | false =>
      clear hcb
      go_wp2_with (first | (go_at_call 42; ((with_reducible refine (Hww.out _ (HS.out.given HT.out)).mono ?_); rintro e w5 ⟨rfl, hb⟩; have HS := Lib.hid (HS.out.next hb); obtain ⟨c0, c1, c2⟩ := HS.out.cells; have HU := Lib.hid ((HU.out.below hb).mono hb.size); clear hb)) | (go_at_call 42; ((with_reducible refine (Hwt.out _ (HS.out.given HU.out)).mono ?_); rintro e w6 ⟨rfl, hb⟩; have HS := Lib.hid (HS.out.next hb); obtain ⟨c0, c1, c2⟩ := HS.out.cells; clear hb)) | (go_at_call 23; refine (awake_any _).mono ?_; rintro e w7 ⟨rfl, hb⟩; have HS := Lib.hid (HS.out.next hb); clear hb))
      go_ret
      exact ⟨rfl, HS.out.below⟩
  · rw [bestF_bad he] at HpB
    have heb : (errOf s == 0) = false := by simpa using he
    have hne : (errOf s != 0) = true := by simpa using he
    clear he
    go_wp2_with (first | (go_at_call 31; refine (HpB.out _ _ HS.out.shop HS.out.nm HS.out.hB).mono ?_; rintro e w1 ⟨A1, n1, rfl, hr, hb⟩; have HS := Lib.hid (HS.out.next hb); obtain ⟨c0, c1, c2⟩ := HS.out.cells; clear hb hr) | (go_at_call 36; refine (valid_any HS.out.shop HS.out.nm HS.out.hB).mono ?_; rintro e w3 ⟨rfl, hb⟩; have HS := Lib.hid (HS.out.next hb); obtain ⟨c0, c1, c2⟩ := HS.out.cells; clear hb) | (go_at_call 23; refine (awake_any _).mono ?_; rintro e w4 ⟨rfl, hb⟩; have HS := Lib.hid (HS.out.next hb); clear hb))
    go_ret
    exact ⟨rfl, HS.out.below⟩
end Go.Proofs.Ytkmaapkbonkjfaa
namespace Go.Proofs.Ytkmaapkbonkjfaa
open Go.RowKit

theorem costsF_bad {s : ShopR} (o : Int) (h : errOf s ≠ 0) : costsF s o = (0, errOf s) := by unfold costsF; rw [if_pos h]
theorem costsF_out {s : ShopR} (o : Int) (h : errOf s = 0) (h2 : inB o 0 (s.orders.length - 1) = false) : costsF s o = (0, 4) := by unfold costsF; rw [if_neg (by simp [h]), if_pos h2]
theorem mem_cast {x : List Nat} {i : Nat} : ((i : Int) ∈ x.map Int.ofNat) ↔ i ∈ x := by
  constructor
  · intro h
    obtain ⟨j, hj, e⟩ := List.mem_map.1 h
    have : j = i := Int.ofNat.inj e
    exact this ▸ hj
  · intro h
    exact List.mem_map.2 ⟨i, h, rfl⟩

set_option maxRecDepth 100000 in
set_option maxHeartbeats 2000000 in
theorem costs_walk {B : Nat} {w : World} {v : Value} {s : ShopR} (hs : RdShop B w v s) (hn : ∀ p ∈ s.parts, p.name.size ≤ 9223372036854775807) (hB : B ≤ w.heap.size) (x : Nat) (hx : x < 256) :
    Calls Try.prog 12 #[v, .int .u8 x] w fun e w' => e = .returned (.bool true) ∧ Below w.heap.size w w' := by
  obtain ⟨vh, vp, vo, rfl, ⟨Ah, ch, rfl, _⟩, ⟨Ap, cp, rfl, _⟩, ⟨Ao, co, rfl, _⟩⟩ := id hs
  obtain ⟨W, hW⟩ : ∃ W, W = w.alloc (.cells #[.slice Ah s.hours.length ch, .slice Ap s.parts.length cp, .slice Ao s.orders.length co] 26) := ⟨_, rfl⟩
  have HS := Lib.hid (ShS.start hs hn hB)
  rw [← hW] at HS
  clear hs hn hB
  have HpB := Lib.hid (fun (W : World) (B : Nat) (hs : RdShop B W (.agg #[.slice Ah s.hours.length ch, .slice Ap s.parts.length cp, .slice Ao s.orders.length co]) s) (hn : ∀ p ∈ s.parts, p.name.size ≤ 9223372036854775807) (hB : B ≤ W.heap.size) => pbest_any hs hn hB)
  unfold BestR at HpB
  go_enter Try.func12, Try.ntmps12
  go_upto_region 1 with (fail)
  rw [← hW]
  clear hW
  obtain ⟨c0, c1, c2⟩ := HS.out.cells
  by_cases he : errOf s = 0
  · rw [bestF_ok he] at HpB
    have heb : (errOf s == 0) = true := by simpa using he
    have hg := good_of_valid he
    have hol := hg.olen
    by_cases hl0 : s.orders.length = 0
    · have hlb : ((s.orders.length : Int) == 0) = true := by simp [hl0]
      have Hl := Lib.hid (costsF_out (s := s) 0 he (by rw [inB_false]; omega))
      clear he hg hl0
      go_wp2_with (first | (go_at_call 33; refine (pcosts_any HS.out.shop HS.out.nm HS.out.hB 0).mono ?_; unfold costsFV; rw [Hl.out]; rintro e w2 ⟨rfl, hb⟩; have HS := Lib.hid (HS.out.next hb); obtain ⟨c0, c1, c2⟩ := HS.out.cells; clear hb) | (go_at_call 36; refine (valid_any HS.out.shop HS.out.nm HS.out.hB).mono ?_; rintro e w3 ⟨rfl, hb⟩; have HS := Lib.hid (HS.out.next hb); obtain ⟨c0, c1, c2⟩ := HS.out.cells; clear hb) | (go_at_call 23; refine (awake_any _).mono ?_; rintro e w4 ⟨rfl, hb⟩; have HS := Lib.hid (HS.out.next hb); clear hb))
      go_ret
      exact ⟨rfl, HS.out.below⟩
    · have hlb : ((s.orders.length : Int) == 0) = false := beq_false_of_ne (by omega)
      obtain ⟨i, hi, hil⟩ : ∃ i : Nat, (x : Int) % (s.orders.length : Int) = i ∧ i < s.orders.length := ⟨x % s.orders.length, by omega, Nat.mod_lt _ (by omega)⟩
      go_upto_region 5 with (go_at_call 36; refine (valid_any HS.out.shop HS.out.nm HS.out.hB).mono ?_; rintro e w3 ⟨rfl, hb⟩; have HS := Lib.hid (HS.out.next hb); obtain ⟨c0, c1, c2⟩ := HS.out.cells; clear hb)
      rw [hi]
      have hlaw := costs_law hg he hil
      have hbl := bestL_len hg
      have hit : takenErr s [(i : Int)] = 0 := taken_rise (x := [i]) he ⟨by simp, by simpa using hil⟩
      have hio : ofL s [(i : Int)] = [s.orders.getD i default] := by simp [ofL]
      have hcv : canV s [(i : Int)] = .tuple #[.bool (canB s [s.orders.getD i default]), .bool true] := by rw [canV_of hit, hio]
      have hmem : ((i : Int) ∈ (bestL s).1.map Int.ofNat) ↔ i ∈ (bestL s).1 := mem_cast
      have hbl2 : ((bestL s).1.map Int.ofNat).length ≤ 1000000 := by rw [List.length_map]; omega
      obtain ⟨vh', vp', vo', hv, _, _, ho⟩ := id HS.out.shop
      cases hv
      obtain ⟨ao, rfl, _, _, _, _, o3⟩ := ho.ord hil
      rw [← List.getD_eq_getElem?_getD] at o3
      have O3 := Lib.hid o3
      generalize s.orders.getD i default = o at *
      rw [← hmem] at hlaw
      have Hcv := Lib.hid hcv
      have Hbl := Lib.hid hbl2
      obtain ⟨⟨cn, ce⟩, hc⟩ : ∃ p, costsF s (i : Int) = p := ⟨_, rfl⟩
      rw [hc] at hlaw
      have Hc := Lib.hid hc
      have Hlaw := Lib.hid hlaw
      clear he hg hl0 hlaw hbl hit hio hcv hmem hbl2 ho o3 hi hc
      generalize (bestL s).1.map Int.ofNat = bl at *
      generalize (bestL s).2 = bn at *
      go_upto_region 6 with (go_at_call 31; refine (HpB.out _ _ HS.out.shop HS.out.nm HS.out.hB).mono ?_; rintro e w1 ⟨A1, n1, rfl, hr, hb⟩; have HS := Lib.hid (HS.out.next hb); obtain ⟨c0, c1, c2⟩ := HS.out.cells; have HT := Lib.hid hr; have O3 := Lib.hid ((hb.cell (cell_lt O3.out)).trans O3.out); clear hb hr)
      go_upto_region 7 with (go_at_call 33; refine (pcosts_any HS.out.shop HS.out.nm HS.out.hB _).mono ?_; unfold costsFV; rw [Hc.out]; rintro e w2 ⟨rfl, hb⟩; have HS := Lib.hid (HS.out.next hb); obtain ⟨c0, c1, c2⟩ := HS.out.cells; have HT := Lib.hid ((HT.out.below hb).mono hb.size); have O3 := Lib.hid ((hb.cell (cell_lt O3.out)).trans O3.out); clear hb)
      go_upto_region 8 with (go_at_call 43; refine (has_any HT.out Hbl.out _).mono ?_; rintro e w2 ⟨rfl, rfl⟩)
      cases hcb : canB s [o] with
      | false =>
        have h := Hlaw.out
        rw [hcb, if_neg (by simp)] at h
        obtain ⟨h1, h2⟩ := h
        cases h1
        rw [decide_eq_false h2]
        rw [hcb] at Hcv
        clear hcb h2
        have h0 : (i : Int) ≤ 8 := by omega
        go_upto_region 10 with (go_at_call 38; refine (lcan_any ((HS.out.next ((Below.refl _ _).alloc (Nat.le_refl _) _)).given (by have := Rd.one w2 (i : Int); simpa using this))).mono ?_; rw [Hcv.out]; rintro e w5 ⟨rfl, hb⟩; have HS := Lib.hid (HS.out.next (((Below.refl _ _).alloc (Nat.le_refl _) _).trans (hb.mono (by simp)))); obtain ⟨c0, c1, c2⟩ := HS.out.cells; clear hb)
        go_wp2_with (go_at_call 23; refine (awake_any _).mono ?_; rintro e w4 ⟨rfl, hb⟩; have HS := Lib.hid (HS.out.next hb); clear hb)
        go_ret
        exact ⟨rfl, HS.out.below⟩
      | true =>
        have h := Hlaw.out
        rw [hcb, if_pos rfl] at h
        obtain ⟨h1, h2, h3, h4⟩ := h
        have h1 : ce = 0 := h1
        have h2 : 0 ≤ cn := h2
        have h3 : cn < o.worth → (i : Int) ∈ bl := h3
        have h4 : o.worth < cn → (i : Int) ∉ bl := h4
        subst h1
        have o3 := O3.out
        have h2b : decide (cn ≥ 0) = true := decide_eq_true h2
        by_cases hlt : cn < o.worth
        · rw [decide_eq_true (h3 hlt)]
          have q1 : decide (o.worth ≤ cn) = false := decide_eq_false (by omega)
          have q2 : decide (o.worth ≥ cn) = true := decide_eq_true (by omega)
          clear hcb h3 h4
          go_wp2_with (go_at_call 23; refine (awake_any _).mono ?_; rintro e w4 ⟨rfl, hb⟩; have HS := Lib.hid (HS.out.next hb); clear hb)
          go_ret
          exact ⟨rfl, HS.out.below⟩
        · by_cases hgt : o.worth < cn
          · rw [decide_eq_false (h4 hgt)]
            have q1 : decide (o.worth ≤ cn) = true := decide_eq_true (by omega)
            have q2 : decide (o.worth ≥ cn) = false := decide_eq_false (by omega)
            clear hcb h3 h4
            go_wp2_with (go_at_call 23; refine (awake_any _).mono ?_; rintro e w4 ⟨rfl, hb⟩; have HS := Lib.hid (HS.out.next hb); clear hb)
            go_ret
            exact ⟨rfl, HS.out.below⟩
          · have q1 : decide (o.worth ≤ cn) = true := decide_eq_true (by omega)
            have q2 : decide (o.worth ≥ cn) = true := decide_eq_true (by omega)
            clear hcb h3 h4
            generalize decide ((i : Int) ∈ bl) = ib
            go_wp2_with (go_at_call 23; refine (awake_any _).mono ?_; rintro e w4 ⟨rfl, hb⟩; have HS := Lib.hid (HS.out.next hb); clear hb)
            go_ret
            exact ⟨rfl, HS.out.below⟩
  · have Hl := Lib.hid (costsF_bad 0 he)
    have heb : (errOf s == 0) = false := by simpa using he
    have hne : (errOf s != 0) = true := by simpa using he
    clear he
    go_wp2_with (first | (go_at_call 33; refine (pcosts_any HS.out.shop HS.out.nm HS.out.hB 0).mono ?_; unfold costsFV; rw [Hl.out]; rintro e w2 ⟨rfl, hb⟩; have HS := Lib.hid (HS.out.next hb); obtain ⟨c0, c1, c2⟩ := HS.out.cells; clear hb) | (go_at_call 36; refine (valid_any HS.out.shop HS.out.nm HS.out.hB).mono ?_; rintro e w3 ⟨rfl, hb⟩; have HS := Lib.hid (HS.out.next hb); obtain ⟨c0, c1, c2⟩ := HS.out.cells; clear hb) | (go_at_call 23; refine (awake_any _).mono ?_; rintro e w4 ⟨rfl, hb⟩; have HS := Lib.hid (HS.out.next hb); clear hb))
    go_ret
    exact ⟨rfl, HS.out.below⟩
end Go.Proofs.Ytkmaapkbonkjfaa
