/- Walks of the layer order: worth of the laws, Has; OrderWorth. -/
import Derived.Test.YtkmaapkbonkjfaaLawL
import Derived.Test.YtkmaapkbonkjfaaCostL
set_option linter.unusedSimpArgs false
set_option linter.unusedVariables false
namespace Go.Proofs.Ytkmaapkbonkjfaa
open Go.RowKit

theorem wsum_bd {l : List OrdR} (h : ∀ o ∈ l, 0 ≤ o.worth ∧ o.worth ≤ 10000) : 0 ≤ wsum l ∧ wsum l ≤ 10000 * l.length := by
  induction l with
  | nil => simp [wsum]
  | cons o l ih =>
    have h1 := h o (by simp)
    have h2 := ih fun x hx => h x (by simp [hx])
    rw [wsum_cons]
    simp only [List.length_cons]
    omega

set_option maxRecDepth 100000 in
theorem worth_any {B : Nat} {w : World} {v vt : Value} {s : ShopR} {t : List Int} (h : Given B w v vt s t) (he : takenErr s t = 0) :
    Calls Try.prog 42 #[v, vt] w fun e w' => e = .returned (.int .i64 (wsum (ofL s t))) ∧ Below w.heap.size w w' := by
  obtain ⟨Ah, ch, Ap, cp, Ao, co, At_, ct, rfl, rfl⟩ := h.form
  obtain ⟨W, hW, c0, c1, c2, hz, hb, _⟩ := shop_box w (.slice Ah s.hours.length ch) (.slice Ap s.parts.length cp) (.slice Ao s.orders.length co)
  have hG := Lib.hid (h.below hb)
  have Hb := Lib.hid hb
  have C2 := Lib.hid c2
  obtain ⟨_, hg, hfit, _⟩ := fit_of he
  have htl : t.length ≤ 9 := by have := hfit.len; rwa [ofL_len] at this
  have Hin := Lib.hid (fun k hk => taken_in (k := k) he hk)
  have Hwb : Hid (∀ k, 0 ≤ wsum (ofL s (t.take k)) ∧ wsum (ofL s (t.take k)) ≤ 90000) := Lib.hid fun k => by
    have h1 := wsum_bd (l := ofL s (t.take k)) fun o ho => by
      have : o ∈ ofL s t := by
        unfold ofL at ho ⊢
        obtain ⟨i, hi, rfl⟩ := List.mem_map.1 ho
        exact List.mem_map_of_mem (List.mem_of_mem_take hi)
      exact (hfit.all o this).worth
    rw [ofL_len, List.length_take] at h1
    omega
  clear hfit hg he
  go_enter Try.func42, Try.ntmps42
  go_upto_region 1 with (fail)
  rw [← hW]
  clear hW hz hb h c0 c1 c2
  go_wp2
  go_loopw [5, 6] (fun n i wr => ∃ k : Nat, k ≤ t.length ∧ i = .int .i64 k ∧ n = .int .i64 (wsum (ofL s (t.take k))) ∧ Qt W wr) (fun _ i _ => t.length - (intOf i).toNat)
  case atStart => exact ⟨0, Nat.zero_le _, rfl, rfl, Qt.refl _⟩
  case round =>
    obtain ⟨k, hk, rfl, rfl, hq⟩ := hrel
    have c2 := hq.cell C2.out
    by_cases hlt : k < t.length
    · obtain ⟨ad, rfl, _, d0⟩ := (hG.out.tk.qt hq).int hlt
      obtain ⟨q0, q1⟩ := Hin.out k hlt
      obtain ⟨q, hqe⟩ := Int.eq_ofNat_of_zero_le q0
      have hq1 : (q : Int) < s.orders.length := by omega
      obtain ⟨vh', vp', vo', hv, _, _, ho⟩ := hG.out.shop.qt hq
      cases hv
      obtain ⟨ao, rfl, _, o0, o1, o2, o3⟩ := ho.ord (i := q) (by omega)
      have hsn := ofL_snoc (s := s) hlt hqe
      have hsum : wsum (ofL s (t.take (k + 1))) = wsum (ofL s (t.take k)) + (s.orders[q]?.getD default).worth := by rw [hsn, wsum_append]; simp [wsum]
      have hb0 := Hwb.out k
      have hb1 := Hwb.out (k + 1)
      rw [hsum] at hb1
      have Hsum := Lib.hid hsum
      rw [hqe] at d0
      have Hq := Lib.hid hq
      clear hsn hsum q0 q1 ho o0 o1 o2 hqe hq
      generalize s.orders[q]?.getD default = o at *
      generalize wsum (ofL s (t.take k)) = sm at *
      go_wp2
      go_quiet (fail)
      go_wp2
      go_roundw
      case rel => exact ⟨k + 1, by omega, by go_num, by rw [Hsum.out], Hq.out.drewN _⟩
      case measure => simp [intOf]; omega
    · have hkn : k = t.length := by omega
      subst hkn
      rw [List.take_of_length_le (Nat.le_refl _)]
      have Hq := Lib.hid hq
      clear hq
      go_wp2
      go_ret
      exact ⟨rfl, Hb.out.trans (Hq.out.below _ |>.mono Hb.out.size)⟩

set_option maxRecDepth 100000 in
theorem has_any {B : Nat} {w : World} {vt : Value} {t : List Int} (h : Rd IntAt 1 B w vt t) (hn : t.length ≤ 1000000) (x : Int) :
    Calls Try.prog 43 #[vt, .int .i64 x] w fun e w' => e = .returned (.bool (decide (x ∈ t))) ∧ w = w' := by
  obtain ⟨A, c, rfl, _⟩ := id h
  have H := Lib.hid h
  clear h
  go_enter Try.func43, Try.ntmps43
  go_wp2
  go_loop [5] (fun i => ∃ k : Nat, k ≤ t.length ∧ i = .int .i64 k ∧ ∀ j, j < k → t[j]?.getD 0 ≠ x) (fun i => t.length - (intOf i).toNat)
  case atStart => exact ⟨0, Nat.zero_le _, rfl, by intro j hj; omega⟩
  case round =>
    obtain ⟨k, hk, rfl, hno⟩ := hrel
    have Hno := Lib.hid hno
    clear hno
    by_cases hlt : k < t.length
    · obtain ⟨ad, rfl, _, d0⟩ := H.out.int hlt
      have hmem : t[k]?.getD 0 ∈ t := by rw [List.getElem?_eq_getElem hlt]; exact List.getElem_mem hlt
      have Hm := Lib.hid hmem
      clear hmem
      obtain ⟨y, hy⟩ : ∃ y, t[k]?.getD 0 = y := ⟨_, rfl⟩
      rw [hy] at d0 Hm
      have Hy := Lib.hid hy
      clear hy
      by_cases hx : y = x
      · subst hx
        go_wp2
        go_ret
        exact ⟨ret_bool (by simpa using Hm.out), rfl⟩
      · have hxb : (y == x) = false := beq_false_of_ne hx
        have Hx := Lib.hid hx
        clear hx
        go_wp2
        go_round
        case rel => exact ⟨k + 1, by omega, by go_num, fun j hj => by
          by_cases e : j < k
          · exact Hno.out j e
          · obtain rfl : j = k := by omega
            rw [Hy.out]; exact Hx.out⟩
        case measure => simp [intOf]; omega
    · have hkn : k = t.length := by omega
      subst hkn
      have hnm : x ∉ t := fun hm => by
        obtain ⟨j, hj, e⟩ := List.getElem_of_mem hm
        exact Hno.out j hj (by rw [List.getElem?_eq_getElem hj]; exact e)
      have Hnm := Lib.hid hnm
      clear hnm
      go_wp2
      go_ret
      exact ⟨ret_bool (by simpa using Hnm.out), rfl⟩
end Go.Proofs.Ytkmaapkbonkjfaa
