/- Walks of the layer order: enter. -/
import Derived.Test.YtkmaapkbonkjfaaLook
namespace Go.Proofs.Ytkmaapkbonkjfaa
open Go.RowKit

def badAt (t : List Int) (i : Nat) : Bool := decide (0 < i) && decide (t.getD i 0 ≤ t.getD (i - 1) 0)
theorem takenErr_shop {s : ShopR} {t : List Int} (h : errOf s ≠ 0) : takenErr s t = errOf s := by unfold takenErr; rw [if_pos h]
theorem takenErr_none {s : ShopR} {t : List Int} (h : errOf s = 0) (h2 : outB 0 (s.orders.length - 1) t = true) : takenErr s t = 4 := by unfold takenErr; rw [if_neg (by simp [h]), if_pos h2]
theorem takenErr_arg {s : ShopR} {t : List Int} (h : errOf s = 0) (h2 : outB 0 (s.orders.length - 1) t = false) {k : Nat} (hk : k < t.length) (hb : badAt t k = true) (hno : ∀ j, j < k → badAt t j = false) : takenErr s t = 2 := by
  unfold takenErr
  rw [if_neg (by simp [h]), if_neg (by simp [h2])]
  have := fst?_some (p := badAt t) hk hb hno
  unfold badAt at this
  rw [this]
  rfl
theorem takenErr_ok {s : ShopR} {t : List Int} (h : errOf s = 0) (h2 : outB 0 (s.orders.length - 1) t = false) (hno : ∀ j, j < t.length → badAt t j = false) : takenErr s t = 0 := by
  unfold takenErr
  rw [if_neg (by simp [h]), if_neg (by simp [h2])]
  have := fst?_none (p := badAt t) hno
  unfold badAt at this
  rw [this]
  rfl
theorem outB_false {lo hi : Int} {t : List Int} (h : outB lo hi t = false) {i : Nat} (hi2 : i < t.length) : lo ≤ t[i]?.getD 0 ∧ t[i]?.getD 0 ≤ hi := by
  unfold outB at h
  rw [List.any_eq_false] at h
  have := h _ (List.getElem_mem hi2)
  rw [List.getElem?_eq_getElem hi2]
  simp at this
  exact this

theorem rising {t : List Int} {n : Int} (h : outB 0 (n - 1) t = false) {k : Nat} (hk : k ≤ t.length) (hno : ∀ j, j < k → badAt t j = false) : ∀ j, j < k → (j : Int) ≤ t[j]?.getD 0 := by
  intro j
  induction j with
  | zero => intro h0; have := outB_false h (i := 0) (by omega); omega
  | succ j ih =>
    intro hj
    have h1 := ih (by omega)
    have h2 := hno (j + 1) hj
    simp [badAt, List.getD_eq_getElem?_getD] at h2
    omega
theorem rising_len {t : List Int} {n : Nat} (h : outB 0 ((n : Int) - 1) t = false) {k : Nat} (hk : k ≤ t.length) (hno : ∀ j, j < k → badAt t j = false) : k ≤ n := by
  cases k with
  | zero => omega
  | succ k =>
    have h1 := rising h hk hno k (by omega)
    have h2 := outB_false h (i := k) (by omega)
    omega
theorem ofL_len (s : ShopR) (t : List Int) : (ofL s t).length = t.length := by simp [ofL]
theorem ofL_take_succ {s : ShopR} {t : List Int} {k : Nat} (h : k < t.length) : ofL s (t.take (k + 1)) = ofL s (t.take k) ++ [s.orders.getD (t[k]?.getD 0).toNat default] := by
  unfold ofL
  rw [take_succ_getD h 0, List.map_append]
  simp

def enterV (t : Int) : Value := .tuple #[.pointer none, .slice none 0 0, .int .i64 t]
theorem enter_shop {B : Nat} {w : World} {v vt : Value} {s : ShopR} {t : List Int} (hs : RdShop B w v s) (ht : Rd IntAt 1 B w vt t) (hn : ∀ p ∈ s.parts, p.name.size ≤ 9223372036854775807) (hB : B ≤ w.heap.size) (he : errOf s ≠ 0) :
    Calls Try.prog 52 #[v, vt] w fun e w' => e = .returned (enterV (errOf s)) ∧ Below w.heap.size w w' := by
  have hs' := hs
  obtain ⟨vh, vp, vo, rfl, hh, hp, ho⟩ := hs'
  obtain ⟨At_, ct, rfl, _, _, _⟩ := id ht
  go_enter Try.func52, Try.ntmps52
  obtain ⟨W, hW, c0, c1, c2, hz, hb, _⟩ := shop_box w vh vp vo
  obtain ⟨Ah, ch, rfl, h1, h2, _⟩ := id hh
  obtain ⟨Ap, cp, rfl, h3, h4, _⟩ := id hp
  obtain ⟨Ao, co, rfl, h5, h6, _⟩ := id ho
  have hq := Lib.hid (look_bad (hs.below (hb.mono hB)) hn (by omega) he)
  go_upto_region 1 with (fail)
  rw [← hW]
  have hne : (errOf s != 0) = true := by simpa using he
  have Hb := Lib.hid hb
  clear hW hs hz h1 h2 h3 h4 h5 h6 hh hp ho hb ht he
  go_wp2_with (go_at_call 68; refine hq.out.mono ?_; rintro e wx ⟨rfl, hbx⟩)
  go_ret3
  exact ⟨rfl, Hb.out.trans (hbx.mono Hb.out.size)⟩

set_option maxRecDepth 100000 in
theorem enter_in {B : Nat} {w : World} {v vt : Value} {s : ShopR} {t : List Int} (hs : RdShop B w v s) (ht : Rd IntAt 1 B w vt t) (hn : ∀ p ∈ s.parts, p.name.size ≤ 9223372036854775807) (hB : B ≤ w.heap.size) (he : errOf s = 0) :
    Calls Try.prog 52 #[v, vt] w fun e w' => (takenErr s t ≠ 0 ∧ e = .returned (enterV (takenErr s t)) ∧ Below w.heap.size w w') ∨
      (takenErr s t = 0 ∧ ∃ p bm A c, e = .returned (.tuple #[.pointer (some ⟨p, 0, none⟩), .slice A t.length c, .int .i64 0]) ∧ Below w.heap.size w w' ∧ ShopAt w'.heap.size w' p bm s ∧ Rd OrdAt 4 w'.heap.size w' (.slice A t.length c) (ofL s t) ∧ w.heap.size ≤ p ∧ w.heap.size ≤ bm) := by
  have hg := good_of_valid he
  have hs' := hs
  obtain ⟨vh, vp, vo, rfl, hh, hp, ho⟩ := hs'
  obtain ⟨At_, ct, rfl, t1, t2, _⟩ := id ht
  go_enter Try.func52, Try.ntmps52
  obtain ⟨W, hW, c0, c1, c2, hz, hb, _⟩ := shop_box w vh vp vo
  obtain ⟨Ah, ch, rfl, h1, h2, _⟩ := id hh
  obtain ⟨Ap, cp, rfl, h3, h4, _⟩ := id hp
  obtain ⟨Ao, co, rfl, h5, h6, _⟩ := id ho
  have hq := Lib.hid (look_ok (hs.below (hb.mono hB)) hn (by omega) he)
  go_upto_region 1 with (fail)
  rw [← hW]
  have Hb := Lib.hid hb
  have Ho := Lib.hid ho
  have Ht := Lib.hid ht
  have He := Lib.hid he
  have HG := Lib.hid hg
  have Hz := Lib.hid hz
  clear hW hs hz h1 h2 h3 h4 h5 h6 hh hp ho hb ht he hg
  go_upto_region 4 with (go_at_call 68; refine hq.out.mono ?_; rintro e wx ⟨p, bm, rfl, hbx, hsx, hpx, hbmx⟩)
  have HBX := Lib.hid (Hb.out.trans (hbx.mono Hb.out.size))
  have hBx : B ≤ wx.heap.size := by have := HBX.out.size; omega
  have Ho1 := Lib.hid (Ho.out.below (HBX.out.mono hB))
  have Ht1 := Lib.hid (Ht.out.below (HBX.out.mono hB))
  have c2 := (hbx.cell (cell_lt c2)).trans c2
  have Hs := Lib.hid hsx
  have hol := HG.out.olen
  have Hp1 := Lib.hid (show w.heap.size ≤ p by have := Hz.out; omega)
  have Hp2 := Lib.hid (show w.heap.size ≤ bm by have := Hz.out; omega)
  clear hbx hsx hpx hbmx c0 c1
  cases hob : outB 0 (s.orders.length - 1) t with
  | true =>
    have e := Lib.hid (takenErr_none He.out hob)
    go_wp2_with (go_at_call 44; refine (out_any _ _ Ht1.out hBx).mono ?_; rintro e wy ⟨rfl, hby⟩)
    go_ret3
    refine .inl ⟨by rw [e.out]; decide, by rw [e.out]; rfl, HBX.out.trans (hby.mono HBX.out.size)⟩
  | false =>
  go_upto_region 6 with (go_at_call 44; refine (out_any _ _ Ht1.out hBx).mono ?_; rintro e wy ⟨rfl, hby⟩)
  have c2 := (hby.cell (cell_lt c2)).trans c2
  have Hby := Lib.hid hby
  have hBy : B ≤ wy.heap.size := by have := hby.size; omega
  have Ho2 := Lib.hid (Ho1.out.below (hby.mono hBx))
  have Ht2 := Lib.hid (Ht1.out.below (hby.mono hBx))
  have C2 := Lib.hid c2
  have Hob := Lib.hid hob
  clear hby hob c2
  have hszy : w.heap.size < wy.heap.size := cell_lt C2.out
  go_wp2
  go_loopw [4, 5, 6, 25] (fun a b c i wr => ∃ (k : Nat) (A : Option Addr) (cap : Nat), k ≤ t.length ∧ i = .int .i64 k ∧ a = .pointer (some ⟨p, 0, none⟩) ∧ b = .slice A k cap ∧ c = .int .i64 0 ∧
    Own wy.heap.size 60 wr (.slice A k cap) (ofL s (t.take k)) ∧ (∀ j, j < k → badAt t j = false) ∧ Below wy.heap.size wy wr ∧ k ≤ cap ∧ cap ≤ 9223372036854775807) (fun _ _ _ i _ => t.length - (intOf i).toNat)
  case atStart => exact ⟨0, none, 0, Nat.zero_le _, rfl, rfl, rfl, rfl, Own.nil _ _ _, fun _ h => by omega, Below.refl _ _, by omega, by omega⟩
  case round =>
    obtain ⟨k, A, cap, hk, rfl, rfl, rfl, rfl, hown, hno, hbr, hc1, hc2⟩ := hrel
    by_cases hlt : k < t.length
    · obtain ⟨ad, rfl, _, x0⟩ := (Ht2.out.below (hbr.mono hBy)).int hlt
      have hrg := outB_false Hob.out hlt
      have hkn := rising_len Hob.out (by omega) hno
      have c2 := (hbr.cell (cell_lt C2.out)).trans C2.out
      have hbad : badAt t k = (decide (0 < k) && decide (t[k]?.getD 0 ≤ t[k - 1]?.getD 0)) := by unfold badAt; simp only [List.getD_eq_getElem?_getD]
      have hsucc := Lib.hid (ofL_take_succ (s := s) hlt)
      have hlen : (ofL s (t.take k)).length = k := by rw [ofL_len, List.length_take]; omega
      have hnx : badAt t k = false → ∀ j, j < k + 1 → badAt t j = false := fun h j hj => by
        by_cases e : j < k
        · exact hno j e
        · obtain rfl : j = k := by omega
          exact h
      have he2 : badAt t k = true → takenErr s t = 2 := fun h => takenErr_arg He.out Hob.out hlt h hno
      obtain ⟨q, hqq⟩ := Int.eq_ofNat_of_zero_le hrg.1
      have hqn : q < s.orders.length := by omega
      obtain ⟨ao, rfl, _, o0, o1, o2, o3⟩ := (Ho2.out.below (hbr.mono hBy)).ord hqn
      obtain ⟨A', cap', w2, hrun, hown', hbl', hsz', hc1', hc2'⟩ := append_ord hown (s.orders[q]?.getD default) (by omega) hbr.size
      rw [hlen] at hrun hown' hc1'
      rw [List.getD_eq_getElem?_getD, hqq, show ((q : Int)).toNat = q by simp] at hsucc
      rw [← hsucc.out] at hown'
      generalize s.orders[q]?.getD default = o at *
      rw [hqq] at x0
      have Hown' := Lib.hid hown'
      have Hbl' := Lib.hid (hbr.trans hbl')
      have Hnx := Lib.hid hnx
      have He2 := Lib.hid he2
      have Hbr := Lib.hid hbr
      have Hbad := Lib.hid hbad
      by_cases hk0 : 0 < k
      · obtain ⟨ad', e', _, y0⟩ := (Ht2.out.below (hbr.mono hBy)).int (i := k - 1) (by omega)
        injection e' with e'
        subst e'
        rw [hqq] at hbad
        have hk1 : ((k : Int) - 1) = ((k - 1 : Nat) : Int) := by omega
        generalize t[k - 1]?.getD 0 = y at *
        clear hown hown' hno hbr hbl' hnx he2 hqq
        by_cases hb : (q : Int) ≤ y
        · have hbt : badAt t k = true := by rw [hbad]; simp [hk0, hb]
          have e := Lib.hid (He2.out hbt)
          clear hbt hbad
          go_wp2
          go_ret3
          refine .inl ⟨by rw [e.out]; decide, by rw [e.out]; rfl, HBX.out.trans ((Hby.out.trans (Hbr.out.mono Hby.out.size)).mono HBX.out.size)⟩
        · have hbf : badAt t k = false := by rw [hbad]; simp [hb]
          go_wp2_with (at_builtin; refine wpList_append_run rfl _ _ _ rfl rfl rfl hrun ?_)
          go_roundw
          case rel => exact ⟨k + 1, A', cap', by omega, by go_num, rfl, rfl, rfl, Hown'.out, Hnx.out hbf, Hbl'.out, hc1', hc2'⟩
          case measure => simp [intOf]; omega
      · have hbf : badAt t k = false := by rw [hbad]; simp [hk0]
        clear hown hown' hno hbr hbl' hnx he2 hqq hbad
        go_wp2_with (at_builtin; refine wpList_append_run rfl _ _ _ rfl rfl rfl hrun ?_)
        go_roundw
        case rel => exact ⟨k + 1, A', cap', by omega, by go_num, rfl, rfl, rfl, Hown'.out, Hnx.out hbf, Hbl'.out, hc1', hc2'⟩
        case measure => simp [intOf]; omega
    · have hk2 : k = t.length := by omega
      subst hk2
      have e := Lib.hid (takenErr_ok He.out Hob.out hno)
      rw [List.take_of_length_le (Nat.le_refl _)] at hown
      have hrd := hown.rd
      have hwr : Below wx.heap.size wx wr := Hby.out.trans (hbr.mono Hby.out.size)
      have hshop := Hs.out.below hwr
      have hszx := hwr.size
      have Hrd := Lib.hid hrd
      have Hwr := Lib.hid (HBX.out.trans (hwr.mono HBX.out.size))
      have Hshop := Lib.hid hshop
      clear hown hbr hno hwr hrd hshop
      go_wp2
      go_ret3
      refine .inr ⟨e.out, p, bm, A, cap, rfl, Hwr.out, ?_, Hrd.out, Hp1.out, Hp2.out⟩
      obtain ⟨⟨vh, vp, vo, vu, g0, g1, g2, g3, g4⟩, g5⟩ := Hshop.out
      exact ⟨⟨vh, vp, vo, vu, g0, g1.mono hszx, g2.mono hszx, g3.mono hszx, g4.mono hszx⟩, g5⟩
end Go.Proofs.Ytkmaapkbonkjfaa
