/- Walks of the layer order: enter. Walks of the layer order: Late of the program; enter, parted. Walks of the layer order: Clone, Needed. Walks of the layer order: Needed of the program. Walks of the layer order: least, with the two functions that it is given. -/
import Derived.Test.YtkmaapkbonkjfaaGCheck
set_option linter.unusedSimpArgs false
set_option linter.unusedVariables false
namespace Go.Proofs.Ytkmaapkbonkjfaa
open Go.RowKit

def badAt (t : List Int) (i : Nat) : Bool := decide (0 < i) && decide (t.getD i 0 ≤ t.getD (i - 1) 0)
theorem takenErr_shop {s : ShopR} {t : List Int} (h : errOf s ≠ 0) : takenErr s t = errOf s := by unfold takenErr; rw [if_pos h]
theorem takenErr_none {s : ShopR} {t : List Int} (h : errOf s = 0) (h2 : outB 0 (s.orders.length - 1) t = true) : takenErr s t = 4 := by unfold takenErr; rw [if_neg (by simp [h]), if_pos h2]
theorem takenErr_arg {s : ShopR} {t : List Int} (h : errOf s = 0) (h2 : outB 0 (s.orders.length - 1) t = false) {k : Nat} (hk : k < t.length) (hb : badAt t k = true) (hno : ∀ j, j < k → badAt t j = false) : takenErr s t = 2 := by
  unfold takenErr
  rw [if_neg (by simp [h]), if_neg (by simp [h2])]
  have := fst?_some (p := badAt t) hk hb hno
  unfold badAt at this
  rw [this]
  rfl
theorem takenErr_ok {s : ShopR} {t : List Int} (h : errOf s = 0) (h2 : outB 0 (s.orders.length - 1) t = false) (hno : ∀ j, j < t.length → badAt t j = false) : takenErr s t = 0 := by
  unfold takenErr
  rw [if_neg (by simp [h]), if_neg (by simp [h2])]
  have := fst?_none (p := badAt t) hno
  unfold badAt at this
  rw [this]
  rfl
theorem outB_false {lo hi : Int} {t : List Int} (h : outB lo hi t = false) {i : Nat} (hi2 : i < t.length) : lo ≤ t[i]?.getD 0 ∧ t[i]?.getD 0 ≤ hi := by
  unfold outB at h
  rw [List.any_eq_false] at h
  have := h _ (List.getElem_mem hi2)
  rw [List.getElem?_eq_getElem hi2]
  simp at this
  exact this

theorem rising {t : List Int} {n : Int} (h : outB 0 (n - 1) t = false) {k : Nat} (hk : k ≤ t.length) (hno : ∀ j, j < k → badAt t j = false) : ∀ j, j < k → (j : Int) ≤ t[j]?.getD 0 := by
  intro j
  induction j with
  | zero => intro h0; have := outB_false h (i := 0) (by omega); omega
  | succ j ih =>
    intro hj
    have h1 := ih (by omega)
    have h2 := hno (j + 1) hj
    simp [badAt, List.getD_eq_getElem?_getD] at h2
    omega
theorem rising_len {t : List Int} {n : Nat} (h : outB 0 ((n : Int) - 1) t = false) {k : Nat} (hk : k ≤ t.length) (hno : ∀ j, j < k → badAt t j = false) : k ≤ n := by
  cases k with
  | zero => omega
  | succ k =>
    have h1 := rising h hk hno k (by omega)
    have h2 := outB_false h (i := k) (by omega)
    omega
theorem ofL_len (s : ShopR) (t : List Int) : (ofL s t).length = t.length := by simp [ofL]
theorem ofL_take_succ {s : ShopR} {t : List Int} {k : Nat} (h : k < t.length) : ofL s (t.take (k + 1)) = ofL s (t.take k) ++ [s.orders.getD (t[k]?.getD 0).toNat default] := by
  unfold ofL
  rw [take_succ_getD h 0, List.map_append]
  simp

def enterV (t : Int) : Value := .tuple #[.pointer none, .slice none 0 0, .int .i64 t]
theorem enter_shop {B : Nat} {w : World} {v vt : Value} {s : ShopR} {t : List Int} (hs : RdShop B w v s) (ht : Rd IntAt 1 B w vt t) (hn : ∀ p ∈ s.parts, p.name.size ≤ 9223372036854775807) (hB : B ≤ w.heap.size) (he : errOf s ≠ 0) :
    Calls Try.prog 52 #[v, vt] w fun e w' => e = .returned (enterV (errOf s)) ∧ Below w.heap.size w w' := by
  have hs' := hs
  obtain ⟨vh, vp, vo, rfl, hh, hp, ho⟩ := hs'
  obtain ⟨At_, ct, rfl, _, _, _⟩ := id ht
  go_enter Try.func52, Try.ntmps52
  obtain ⟨W, hW, c0, c1, c2, hz, hb, _⟩ := shop_box w vh vp vo
  obtain ⟨Ah, ch, rfl, h1, h2, _⟩ := id hh
  obtain ⟨Ap, cp, rfl, h3, h4, _⟩ := id hp
  obtain ⟨Ao, co, rfl, h5, h6, _⟩ := id ho
  have hq := Lib.hid (look_bad (hs.below (hb.mono hB)) hn (by omega) he)
  go_upto_region 1 with (fail)
  rw [← hW]
  have hne : (errOf s != 0) = true := by simpa using he
  have Hb := Lib.hid hb
  clear hW hs hz h1 h2 h3 h4 h5 h6 hh hp ho hb ht he
  go_wp2_with (go_at_call 68; refine hq.out.mono ?_; rintro e wx ⟨rfl, hbx⟩)
  go_ret3
  exact ⟨rfl, Hb.out.trans (hbx.mono Hb.out.size)⟩

set_option maxRecDepth 100000 in
theorem enter_in {B : Nat} {w : World} {v vt : Value} {s : ShopR} {t : List Int} (hs : RdShop B w v s) (ht : Rd IntAt 1 B w vt t) (hn : ∀ p ∈ s.parts, p.name.size ≤ 9223372036854775807) (hB : B ≤ w.heap.size) (he : errOf s = 0) :
    Calls Try.prog 52 #[v, vt] w fun e w' => (takenErr s t ≠ 0 ∧ e = .returned (enterV (takenErr s t)) ∧ Below w.heap.size w w') ∨
      (takenErr s t = 0 ∧ ∃ p bm A c, e = .returned (.tuple #[.pointer (some ⟨p, 0, none⟩), .slice A t.length c, .int .i64 0]) ∧ Below w.heap.size w w' ∧ ShopAt w'.heap.size w' p bm s ∧ Rd OrdAt 4 w'.heap.size w' (.slice A t.length c) (ofL s t) ∧ w.heap.size ≤ p ∧ w.heap.size ≤ bm) := by
  have hg := good_of_valid he
  have hs' := hs
  obtain ⟨vh, vp, vo, rfl, hh, hp, ho⟩ := hs'
  obtain ⟨At_, ct, rfl, t1, t2, _⟩ := id ht
  go_enter Try.func52, Try.ntmps52
  obtain ⟨W, hW, c0, c1, c2, hz, hb, _⟩ := shop_box w vh vp vo
  obtain ⟨Ah, ch, rfl, h1, h2, _⟩ := id hh
  obtain ⟨Ap, cp, rfl, h3, h4, _⟩ := id hp
  obtain ⟨Ao, co, rfl, h5, h6, _⟩ := id ho
  have hq := Lib.hid (look_ok (hs.below (hb.mono hB)) hn (by omega) he)
  go_upto_region 1 with (fail)
  rw [← hW]
  have Hb := Lib.hid hb
  have Ho := Lib.hid ho
  have Ht := Lib.hid ht
  have He := Lib.hid he
  have HG := Lib.hid hg
  have Hz := Lib.hid hz
  clear hW hs hz h1 h2 h3 h4 h5 h6 hh hp ho hb ht he hg
  go_upto_region 4 with (go_at_call 68; refine hq.out.mono ?_; rintro e wx ⟨p, bm, rfl, hbx, hsx, hpx, hbmx⟩)
  have HBX := Lib.hid (Hb.out.trans (hbx.mono Hb.out.size))
  have hBx : B ≤ wx.heap.size := by have := HBX.out.size; omega
  have Ho1 := Lib.hid (Ho.out.below (HBX.out.mono hB))
  have Ht1 := Lib.hid (Ht.out.below (HBX.out.mono hB))
  have c2 := (hbx.cell (cell_lt c2)).trans c2
  have Hs := Lib.hid hsx
  have hol := HG.out.olen
  have Hp1 := Lib.hid (show w.heap.size ≤ p by have := Hz.out; omega)
  have Hp2 := Lib.hid (show w.heap.size ≤ bm by have := Hz.out; omega)
  clear hbx hsx hpx hbmx c0 c1
  cases hob : outB 0 (s.orders.length - 1) t with
  | true =>
    have e := Lib.hid (takenErr_none He.out hob)
    go_wp2_with (go_at_call 44; refine (out_any _ _ Ht1.out hBx).mono ?_; rintro e wy ⟨rfl, hby⟩)
    go_ret3
    refine .inl ⟨by rw [e.out]; decide, by rw [e.out]; rfl, HBX.out.trans (hby.mono HBX.out.size)⟩
  | false =>
  go_upto_region 6 with (go_at_call 44; refine (out_any _ _ Ht1.out hBx).mono ?_; rintro e wy ⟨rfl, hby⟩)
  have c2 := (hby.cell (cell_lt c2)).trans c2
  have Hby := Lib.hid hby
  have hBy : B ≤ wy.heap.size := by have := hby.size; omega
  have Ho2 := Lib.hid (Ho1.out.below (hby.mono hBx))
  have Ht2 := Lib.hid (Ht1.out.below (hby.mono hBx))
  have C2 := Lib.hid c2
  have Hob := Lib.hid hob
  clear hby hob c2
  have hszy : w.heap.size < wy.heap.size := cell_lt C2.out
  go_wp2
  go_loopw [4, 5, 6, 25] (fun a b c i wr => ∃ (k : Nat) (A : Option Addr) (cap : Nat), k ≤ t.length ∧ i = .int .i64 k ∧ a = .pointer (some ⟨p, 0, none⟩) ∧ b = .slice A k cap ∧ c = .int .i64 0 ∧
    Own wy.heap.size 60 wr (.slice A k cap) (ofL s (t.take k)) ∧ (∀ j, j < k → badAt t j = false) ∧ Below wy.heap.size wy wr ∧ k ≤ cap ∧ cap ≤ 9223372036854775807) (fun _ _ _ i _ => t.length - (intOf i).toNat)
  case atStart => exact ⟨0, none, 0, Nat.zero_le _, rfl, rfl, rfl, rfl, Own.nil _ _ _, fun _ h => by omega, Below.refl _ _, by omega, by omega⟩
  case round =>
    obtain ⟨k, A, cap, hk, rfl, rfl, rfl, rfl, hown, hno, hbr, hc1, hc2⟩ := hrel
    by_cases hlt : k < t.length
    · obtain ⟨ad, rfl, _, x0⟩ := (Ht2.out.below (hbr.mono hBy)).int hlt
      have hrg := outB_false Hob.out hlt
      have hkn := rising_len Hob.out (by omega) hno
      have c2 := (hbr.cell (cell_lt C2.out)).trans C2.out
      have hbad : badAt t k = (decide (0 < k) && decide (t[k]?.getD 0 ≤ t[k - 1]?.getD 0)) := by unfold badAt; simp only [List.getD_eq_getElem?_getD]
      have hsucc := Lib.hid (ofL_take_succ (s := s) hlt)
      have hlen : (ofL s (t.take k)).length = k := by rw [ofL_len, List.length_take]; omega
      have hnx : badAt t k = false → ∀ j, j < k + 1 → badAt t j = false := fun h j hj => by
        by_cases e : j < k
        · exact hno j e
        · obtain rfl : j = k := by omega
          exact h
      have he2 : badAt t k = true → takenErr s t = 2 := fun h => takenErr_arg He.out Hob.out hlt h hno
      obtain ⟨q, hqq⟩ := Int.eq_ofNat_of_zero_le hrg.1
      have hqn : q < s.orders.length := by omega
      obtain ⟨ao, rfl, _, o0, o1, o2, o3⟩ := (Ho2.out.below (hbr.mono hBy)).ord hqn
      obtain ⟨A', cap', w2, hrun, hown', hbl', hsz', hc1', hc2'⟩ := append_ord hown (s.orders[q]?.getD default) (by omega) hbr.size
      rw [hlen] at hrun hown' hc1'
      rw [List.getD_eq_getElem?_getD, hqq, show ((q : Int)).toNat = q by simp] at hsucc
      rw [← hsucc.out] at hown'
      generalize s.orders[q]?.getD default = o at *
      rw [hqq] at x0
      have Hown' := Lib.hid hown'
      have Hbl' := Lib.hid (hbr.trans hbl')
      have Hnx := Lib.hid hnx
      have He2 := Lib.hid he2
      have Hbr := Lib.hid hbr
      have Hbad := Lib.hid hbad
      by_cases hk0 : 0 < k
      · obtain ⟨ad', e', _, y0⟩ := (Ht2.out.below (hbr.mono hBy)).int (i := k - 1) (by omega)
        injection e' with e'
        subst e'
        rw [hqq] at hbad
        have hk1 : ((k : Int) - 1) = ((k - 1 : Nat) : Int) := by omega
        generalize t[k - 1]?.getD 0 = y at *
        clear hown hown' hno hbr hbl' hnx he2 hqq
        by_cases hb : (q : Int) ≤ y
        · have hbt : badAt t k = true := by rw [hbad]; simp [hk0, hb]
          have e := Lib.hid (He2.out hbt)
          clear hbt hbad
          go_wp2
          go_ret3
          refine .inl ⟨by rw [e.out]; decide, by rw [e.out]; rfl, HBX.out.trans ((Hby.out.trans (Hbr.out.mono Hby.out.size)).mono HBX.out.size)⟩
        · have hbf : badAt t k = false := by rw [hbad]; simp [hb]
          go_wp2_with (at_builtin; refine wpList_append_run rfl _ _ _ rfl rfl rfl hrun ?_)
          go_roundw
          case rel => exact ⟨k + 1, A', cap', by omega, by go_num, rfl, rfl, rfl, Hown'.out, Hnx.out hbf, Hbl'.out, hc1', hc2'⟩
          case measure => simp [intOf]; omega
      · have hbf : badAt t k = false := by rw [hbad]; simp [hk0]
        clear hown hown' hno hbr hbl' hnx he2 hqq hbad
        go_wp2_with (at_builtin; refine wpList_append_run rfl _ _ _ rfl rfl rfl hrun ?_)
        go_roundw
        case rel => exact ⟨k + 1, A', cap', by omega, by go_num, rfl, rfl, rfl, Hown'.out, Hnx.out hbf, Hbl'.out, hc1', hc2'⟩
        case measure => simp [intOf]; omega
    · have hk2 : k = t.length := by omega
      subst hk2
      have e := Lib.hid (takenErr_ok He.out Hob.out hno)
      rw [List.take_of_length_le (Nat.le_refl _)] at hown
      have hrd := hown.rd
      have hwr : Below wx.heap.size wx wr := Hby.out.trans (hbr.mono Hby.out.size)
      have hshop := Hs.out.below hwr
      have hszx := hwr.size
      have Hrd := Lib.hid hrd
      have Hwr := Lib.hid (HBX.out.trans (hwr.mono HBX.out.size))
      have Hshop := Lib.hid hshop
      clear hown hbr hno hwr hrd hshop
      go_wp2
      go_ret3
      refine .inr ⟨e.out, p, bm, A, cap, rfl, Hwr.out, ?_, Hrd.out, Hp1.out, Hp2.out⟩
      obtain ⟨⟨vh, vp, vo, vu, g0, g1, g2, g3, g4⟩, g5⟩ := Hshop.out
      exact ⟨⟨vh, vp, vo, vu, g0, g1.mono hszx, g2.mono hszx, g3.mono hszx, g4.mono hszx⟩, g5⟩
end Go.Proofs.Ytkmaapkbonkjfaa
namespace Go.Proofs.Ytkmaapkbonkjfaa
open Go.RowKit

/-- orders that are taken fit their shop -/
theorem fit_of {s : ShopR} {t : List Int} (h : takenErr s t = 0) : errOf s = 0 ∧ Good s ∧ Fit s (ofL s t) ∧ t.length ≤ 8 := by
  have he : errOf s = 0 := by
    by_cases he : errOf s = 0
    · exact he
    · rw [takenErr_shop he] at h; exact h
  have hg := good_of_valid he
  have hob : outB 0 (s.orders.length - 1) t = false := by
    cases hob : outB 0 (s.orders.length - 1) t with
    | false => rfl
    | true => rw [takenErr_none he hob] at h; cases h
  have hno : ∀ j, j < t.length → badAt t j = false := by
    cases hf : fst? t.length (badAt t) with
    | none => exact fst?_none_spec hf
    | some k =>
      obtain ⟨h1, h2, h3⟩ := fst?_spec hf
      rw [takenErr_arg he hob h1 h2 h3] at h
      cases h
  have hlen := rising_len hob (Nat.le_refl _) hno
  have := hg.olen
  refine ⟨he, hg, ⟨by rw [ofL_len]; omega, fun o ho => ?_⟩, by omega⟩
  unfold ofL at ho
  obtain ⟨i, hi, rfl⟩ := List.mem_map.1 ho
  obtain ⟨j, hj, rfl⟩ := List.getElem_of_mem hi
  have h1 := outB_false hob hj
  rw [List.getElem?_eq_getElem hj] at h1
  simp only [Option.getD_some] at h1
  exact hg.ord (by omega)

/-- what a function of the layer is given: a shop and orders that are taken -/
structure Given (B : Nat) (w : World) (v vt : Value) (s : ShopR) (t : List Int) : Prop where
  shop : RdShop B w v s
  tk : Rd IntAt 1 B w vt t
  nm : ∀ p ∈ s.parts, p.name.size ≤ 9223372036854775807
  le : B ≤ w.heap.size
theorem Given.below {B : Nat} {w w' : World} {v vt : Value} {s : ShopR} {t : List Int} (h : Given B w v vt s t) (hb : Below w.heap.size w w') : Given B w' v vt s t :=
  ⟨h.shop.below (hb.mono h.le), h.tk.below (hb.mono h.le), h.nm, Nat.le_trans h.le hb.size⟩

theorem enter_bad {B : Nat} {w : World} {v vt : Value} {s : ShopR} {t : List Int} (h : Given B w v vt s t) (he : takenErr s t ≠ 0) :
    Calls Try.prog 52 #[v, vt] w fun e w' => e = .returned (.tuple #[.pointer none, .slice none 0 0, .int .i64 (takenErr s t)]) ∧ Below w.heap.size w w' := by
  by_cases h0 : errOf s = 0
  · refine (enter_in h.shop h.tk h.nm h.le h0).mono ?_
    rintro e w' (⟨_, he, hb⟩ | ⟨h, _⟩)
    · exact ⟨he, hb⟩
    · exact absurd h he
  · rw [takenErr_shop h0]
    exact enter_shop h.shop h.tk h.nm h.le h0

/-- what enter hands back -/
structure Entered (w w' : World) (p bm : Nat) (vl : Value) (s : ShopR) (t : List Int) : Prop where
  bl : Below w.heap.size w w'
  shop : ShopAt w'.heap.size w' p bm s
  ls : Rd OrdAt 4 w'.heap.size w' vl (ofL s t)
  hp : w.heap.size ≤ p
  hm : w.heap.size ≤ bm
theorem Entered.after {w w' w'' : World} {p bm : Nat} {vl : Value} {s : ShopR} {t : List Int} (h : Entered w w' p bm vl s t) (hk : KeepM bm w' w'') : Below w.heap.size w w'' := h.bl.trans (hk.below h.bl.size h.hm)
theorem enter_ok {B : Nat} {w : World} {v vt : Value} {s : ShopR} {t : List Int} (h : Given B w v vt s t) (he : takenErr s t = 0) :
    Calls Try.prog 52 #[v, vt] w fun e w' => ∃ p bm A c, e = .returned (.tuple #[.pointer (some ⟨p, 0, none⟩), .slice A t.length c, .int .i64 0]) ∧ Entered w w' p bm (.slice A t.length c) s t := by
  refine (enter_in h.shop h.tk h.nm h.le (fit_of he).1).mono ?_
  rintro e w' (⟨h, _⟩ | ⟨_, p, bm, A, c, h0, h1, h2, h3, h4, h5⟩)
  · exact absurd he h
  · exact ⟨p, bm, A, c, h0, h1, h2, h3, h4, h5⟩

def lateFV (s : ShopR) (t : List Int) : Value := .tuple #[.int .i64 (lateF s t).1, .int .i64 (lateF s t).2.1, .int .i64 (lateF s t).2.2]
theorem lateFV_eq {s : ShopR} {t : List Int} {a b c : Int} (h : lateF s t = (a, b, c)) : lateFV s t = .tuple #[.int .i64 a, .int .i64 b, .int .i64 c] := by unfold lateFV; rw [h]

/-- a shop that a function boxes -/
theorem Given.form {B : Nat} {w : World} {v vt : Value} {s : ShopR} {t : List Int} (h : Given B w v vt s t) : ∃ Ah ch Ap cp Ao co At_ ct, v = .agg #[.slice Ah s.hours.length ch, .slice Ap s.parts.length cp, .slice Ao s.orders.length co] ∧ vt = .slice At_ t.length ct := by
  obtain ⟨vh, vp, vo, hv, hh, hp, ho⟩ := h.shop
  obtain ⟨Ah, ch, rfl, _⟩ := hh
  obtain ⟨Ap, cp, rfl, _⟩ := hp
  obtain ⟨Ao, co, rfl, _⟩ := ho
  obtain ⟨At_, ct, rfl, _⟩ := h.tk
  exact ⟨Ah, ch, Ap, cp, Ao, co, At_, ct, hv, rfl⟩

theorem plate_any {B : Nat} {w : World} {v vt : Value} {s : ShopR} {t : List Int} (h : Given B w v vt s t) :
    Calls Try.prog 18 #[v, vt] w fun e w' => e = .returned (lateFV s t) ∧ Below w.heap.size w w' := by
  obtain ⟨Ah, ch, Ap, cp, Ao, co, At_, ct, rfl, rfl⟩ := h.form
  obtain ⟨W, hW, c0, c1, c2, hz, hb, _⟩ := shop_box w (.slice Ah s.hours.length ch) (.slice Ap s.parts.length cp) (.slice Ao s.orders.length co)
  go_enter Try.func18, Try.ntmps18
  go_upto_region 1 with (fail)
  rw [← hW]
  have hG := Lib.hid (h.below hb)
  have Hb := Lib.hid hb
  clear hW hz hb h
  by_cases he : takenErr s t = 0
  · have hq := Lib.hid (enter_ok hG.out he)
    obtain ⟨_, hg, hf, _⟩ := fit_of he
    have He := Lib.hid he
    clear he
    cases hfd : first? s (ofL s t) with
    | none =>
      have e := Lib.hid (lateFV_eq (s := s) (t := t) (a := 0) (b := 0) (c := 4) (by unfold lateF; rw [if_neg (by simp [He.out]), hfd]))
      have eL := Lib.hid (lateV_none hfd)
      clear hfd
      go_wp2_with (first | (go_at_call 52; refine hq.out.mono ?_; rintro e wx ⟨p, bm, A, c, rfl, hE⟩; have HE := Lib.hid hE; clear hE) | (go_at_call 53; refine (late_any HE.out.shop HE.out.ls hg hf (Nat.le_refl _)).mono ?_; rw [eL.out]; rintro e wy ⟨rfl, hk, _⟩; have HK := Lib.hid (Hb.out.trans ((HE.out.after hk).mono Hb.out.size)); clear hk))
      go_ret3
      exact ⟨by rw [e.out]; rfl, HK.out⟩
    | some d =>
      have hov : 0 < over s (ofL s t) d := by have := (fst?_spec hfd).2.1; simpa using this
      have e := Lib.hid (lateFV_eq (s := s) (t := t) (a := d) (b := over s (ofL s t) d) (c := 0) (by unfold lateF; rw [if_neg (by simp [He.out]), hfd]))
      have eL := Lib.hid (lateV_some hfd)
      have hnb : (over s (ofL s t) d == 0) = false := by simp; omega
      clear hfd
      go_wp2_with (first | (go_at_call 52; refine hq.out.mono ?_; rintro e wx ⟨p, bm, A, c, rfl, hE⟩; have HE := Lib.hid hE; clear hE) | (go_at_call 53; refine (late_any HE.out.shop HE.out.ls hg hf (Nat.le_refl _)).mono ?_; rw [eL.out]; rintro e wy ⟨rfl, hk, _⟩; have HK := Lib.hid (Hb.out.trans ((HE.out.after hk).mono Hb.out.size)); clear hk))
      go_ret3
      exact ⟨by rw [e.out]; rfl, HK.out⟩
  · have hq := Lib.hid (enter_bad hG.out he)
    have e := Lib.hid (lateFV_eq (s := s) (t := t) (a := 0) (b := 0) (c := takenErr s t) (by unfold lateF; rw [if_pos he]))
    have hne : (takenErr s t != 0) = true := by simpa using he
    clear he
    go_wp2_with (go_at_call 52; refine hq.out.mono ?_; rintro e wx ⟨rfl, hbx⟩)
    go_ret3
    exact ⟨by rw [e.out]; rfl, Hb.out.trans (hbx.mono Hb.out.size)⟩
end Go.Proofs.Ytkmaapkbonkjfaa
namespace Go.Proofs.Ytkmaapkbonkjfaa
open Go.RowKit Go.Shelf
attribute [local go_sem] Oper.semAt_some

theorem own_empty (w : World) (e : TypeId) {α : Type} {At : World → Addr → α → Prop} {sz : Nat} [E : Enc α At sz] : Own w.heap.size e (w.alloc (.cells #[] e)) (.slice (some ⟨w.heap.size, 0, none⟩) 0 0) ([] : List α) :=
  ⟨by simp, .inr ⟨w.heap.size, 0, #[], rfl, Nat.le_refl _, heap_alloc_new w _, Nat.le_refl _, by unfold maxLen; omega, by simp, by simp⟩⟩

set_option maxRecDepth 100000 in
theorem clone_any {B : Nat} {w : World} {ad : Addr} {c : Nat} {xs : List Int} (hv : Rd IntAt 1 B w (.slice (some ad) xs.length c) xs) (hB : B ≤ w.heap.size) (hn : xs.length ≤ 1000) :
    Calls Try.prog 57 #[.slice (some ad) xs.length c] w fun e w' => ∃ A c', e = .returned (.slice A xs.length c') ∧ Rd IntAt 1 w'.heap.size w' (.slice A xs.length c') xs ∧ Below w.heap.size w w' := by
  obtain ⟨A, c', w', hrun, hown, hb, _⟩ := append_ints (own_empty w 3) (hv.alloc hB _) (by simp; omega) (by simp)
  simp only [List.length_nil, Nat.zero_add, List.nil_append] at hrun hown
  have Hown := Lib.hid hown
  have Hb := Lib.hid (((Below.refl w.heap.size w).alloc (Nat.le_refl _) _).trans hb)
  clear hown hb hv
  have hq : (binOp .eql 22 (.slice (some ad) xs.length c) (.slice none 0 0)).run Try.prog w = .ok (.bool false) w := by kernel_rfl
  go_enter Try.func57, Try.ntmps57
  go_wp2_with (at_builtin; refine wpList_append_run rfl _ _ _ rfl rfl rfl hrun ?_)
  go_ret
  exact ⟨A, c', rfl, Hown.out.rd, Hb.out⟩

/-- cells below S that lie in A lie in B -/
def CellsStay (S : Nat) (A B : World) : Prop := ∀ (b : Nat) (c : Array Value) (t : TypeId) (f : Nat × Nat), (b < S ∨ t ≠ 93) → A.heap[b]? = some (.cells c t f) → B.heap[b]? = some (.cells c t f)
theorem Book.stays {S T : Nat} {A B : World} (h : Book T A B) : CellsStay S A B := fun _ _ _ _ _ hc => h.data _ _ hc rfl
theorem CellsStay.arr {S b : Nat} {A B : World} {f : Nat → Int} (h : CellsStay S A B) (hb : b < S) (ha : ArrAt A b f) : ArrAt B b f := h _ _ _ _ (.inl hb) ha

theorem DayS.stays2 {s : ShopR} {bm H S : Nat} {A B : World} (h : DayS s bm H A B) (hS : S ≤ H) : CellsStay S A B := by
  intro b c t f hi hc
  obtain ⟨es, clk, hm, _⟩ := h.m0
  refine (h.block b (lt_of_block hc) (fun e => ?_) ?_).trans hc
  · subst e
    rw [hm] at hc
    cases hc
  · rcases hi with hi | hi
    · exact .inl (by omega)
    · refine .inr fun cs f2 h2 => ?_
      rw [h2] at hc
      cases hc
      exact hi rfl
/-- a range over the days of a shop -/
theorem days_law {B p bm : Nat} {s : ShopR} {l : List OrdR} {vl : Value} {w0 w : World} (hs : ShopAt B w0 p bm s) (hl : Rd OrdAt 4 B w0 vl l) (hB : B ≤ w0.heap.size) (hg : Good s) (hf : Fit s l)
    (hk0 : KeepM bm w0 w) (hm0 : MapAt (castP s) w bm) {g : Operand} {ps : Array Tmp} {assign body : Code} {Q : Exit → Act → World → Prop} {a : Act}
    (he : a.eval g = .func (.func 82) #[] #[.pointer (some ⟨w.heap.size, 0, none⟩), .pointer (some ⟨w.heap.size + 1, 0, none⟩)]) (hps : 2 = ps.size)
    (E : Nat → World → Prop) (X : Code → World → Prop) (hE : ∀ k A B, E k A → CellsStay w.heap.size A B → E k B) (hX : ∀ c A B, X c A → CellsStay w.heap.size A B → X c B)
    {W0 : World} (hW0 : W0 = (w.alloc (.cells #[.pointer (some ⟨p, 0, none⟩)] 84)).alloc (.cells #[vl] 24)) (h0 : E 0 W0)
    (hround : ∀ (r k : Nat) (W : World), k < s.hours.length → KeepM bm w0 W → MapAt (castP s) W bm → E k W → w.heap.size + 2 < W.heap.size → W0.heap.size < r → r < W.heap.size →
      assign.wpIn (Fence.wide.inRound r) 0 Try.prog (Exit.then (fun a₁ W₁ => NC W W₁ ∧ ∀ W₂, Book (w.heap.size + 2) W₁ W₂ → W₂.heap.size = W₁.heap.size →
        body.wpIn (Fence.wide.inRound r) 0 Try.prog (rEnd (fun W' => (KeepM bm w0 W' ∧ MapAt (castP s) W' bm ∧ (W'.heap[w.heap.size]? = W.heap[w.heap.size]? ∧ W'.heap[w.heap.size + 1]? = W.heap[w.heap.size + 1]?) ∧ E (k + 1) W') ∧ DayK (w.heap.size + 4) W W')
          (fun c W' => KeepM bm w0 W' ∧ MapAt (castP s) W' bm ∧ X c W') W₂) a₁ W₂) (fun _ _ _ => False))
        { tmps := (ps.zip (dayEl s l k)).foldl (fun t (p, v) => t.setIfInBounds p v) a.tmps, defers := [] } W)
    (hdone : ∀ (d : Nat) (W : World), w.heap.size + 2 ≤ d → KeepM bm w0 W → MapAt (castP s) W bm → E s.hours.length W → W.heap[d]? = some (.deferred (some [])) → Q .normal { a with defers := { target := .collected d, args := #[] } :: a.defers } W)
    (hstop : ∀ (d : Nat) (c : Code) (W : World), w.heap.size + 2 ≤ d → KeepM bm w0 W → MapAt (castP s) W bm → X c W → W.heap[d]? = some (.deferred (some [])) → c.wp Try.prog Q { a with defers := { target := .collected d, args := #[] } :: a.defers } W) :
    (Code.rangeFunc g ps assign body).wp Try.prog Q a W0 := by
  have hz0 : W0.heap.size = w.heap.size + 2 := by rw [hW0]; simp
  have hb0 : Below w.heap.size w W0 := by rw [hW0]; exact ((Below.refl _ _).alloc (Nat.le_refl _) _).alloc (by simp) _
  have hks := hk0.size
  have r0 : W0.heap[w.heap.size]? = some (.cells #[.pointer (some ⟨p, 0, none⟩)] 84) := by rw [hW0]; exact (Below.heap_alloc _ _ _ (by simp)).trans (heap_alloc_new w _)
  have r1 : W0.heap[w.heap.size + 1]? = some (.cells #[vl] 24) := by
    rw [hW0]
    have := heap_alloc_new (w.alloc (.cells #[.pointer (some ⟨p, 0, none⟩)] 84)) (.cells #[vl] 24)
    rwa [World.size_alloc] at this
  refine range_law (gf := 82) (lb := #[.pointer (some ⟨w.heap.size, 0, none⟩), .pointer (some ⟨w.heap.size + 1, 0, none⟩)]) he (enters_of Try.func82 (by kernel_rfl) rfl)
    (fun _ => by rw [← hps]; rfl) (days_iter hg hf B w.heap.size (w.heap.size + 1) p bm vl) ?hKp ?hSN
    (fun k W => KeepM bm w0 W ∧ MapAt (castP s) W bm ∧ (W.heap[w.heap.size]? = some (.cells #[.pointer (some ⟨p, 0, none⟩)] 84) ∧ W.heap[w.heap.size + 1]? = some (.cells #[vl] 24)) ∧ E k W)
    (fun c W => KeepM bm w0 W ∧ MapAt (castP s) W bm ∧ X c W) ?hJb ?hXb ?hJS ?hJN ⟨hk0.trans (.of_below hb0), hm0.below hb0, ⟨r0, r1⟩, h0⟩ ?hround ?hdone ?hstop
  case hKp => exact fun H A B C h hd b cs f hb hc => hd _ _ (h b cs f hb hc) rfl
  case hSN =>
    intro H A B h b o ho hdo
    obtain ⟨es, clk, hm, _⟩ := h.m0
    refine (h.block b (lt_of_block ho) (fun e => ?_) (.inr fun cs f hc => ?_)).trans ho
    · subst e
      rw [hm] at ho
      cases ho
      cases hdo
    · rw [hc] at ho
      cases ho
      cases hdo
  case hJb => exact fun k A B ⟨h1, h2, h3, h4⟩ hb => ⟨h1.book hb (by omega), h2.book hb, ⟨hb.data _ _ h3.1 rfl, hb.data _ _ h3.2 rfl⟩, hE _ _ _ h4 hb.stays⟩
  case hXb => exact fun c A B ⟨h1, h2, h3⟩ hb => ⟨h1.book hb (by omega), h2.book hb, hX _ _ _ h3 hb.stays⟩
  case hJS => exact fun k A B ⟨h1, h2, h3, h4⟩ hb => ⟨h1.days hb (by omega), hb.m1, ⟨hb.stays (by omega) h3.1, hb.stays (by omega) h3.2⟩, hE _ _ _ h4 (hb.stays2 (by omega))⟩
  case hJN =>
    rintro k A ⟨h1, h2, h3, h4⟩
    have hsz := h1.size
    exact ⟨cellOf h3.1 0 rfl, cellOf h3.2 0 rfl, hs.keep h1 h2, hl.stay (by
      intro b c e f hb hc
      obtain ⟨es, clk, hm, _⟩ := hs.map
      exact h1.stay hm hc), by omega⟩
  case hround =>
    rintro r k W hk ⟨h1, h2, h3, h4⟩ hr1 hr2
    refine wpIn_mono (hround r k W hk h1 h2 h4 (by omega) hr1 hr2) ?_
    rintro e a₁ W₁ hp
    cases e with
    | normal =>
      obtain ⟨hnc, hb⟩ := hp
      refine ⟨hnc, fun W₂ hbk hsz => ?_⟩
      rw [hz0] at hbk
      refine wpIn_mono (hb W₂ hbk hsz) ?_
      rintro e a₂ W' hp
      cases e with
      | normal =>
        obtain ⟨k1, ⟨k2, k3, k4, k5⟩, k6⟩ := hp
        refine ⟨k1, ⟨k2, k3, ⟨k4.1.trans h3.1, k4.2.trans h3.2⟩, k5⟩, ?_⟩
        rw [hz0]
        exact k6
      | ret => exact hp
      | exit id => exact hp
      | goto t => exact hp
      | panic ch => exact hp
      | outgrown => exact hp
    | ret => exact hp
    | exit id => exact hp
    | goto t => exact hp
    | panic ch => exact hp
    | outgrown => exact hp
  case hdone => exact fun d W hd ⟨h1, h2, _, h4⟩ hk => hdone d W (by omega) h1 h2 h4 hk
  case hstop => exact fun d c W hd ⟨h1, h2, h3⟩ hk => hstop d c W (by omega) h1 h2 h3 hk
end Go.Proofs.Ytkmaapkbonkjfaa
namespace Go.Proofs.Ytkmaapkbonkjfaa
open Go.RowKit Go.Shelf
attribute [local go_sem] Oper.semAt_some

theorem shopAt_parts {B : Nat} {w : World} {p bm : Nat} {s : ShopR} (h : ShopAt B w p bm s) : ∃ A c, w.cell? ⟨p, 1, none⟩ = some (.slice A s.parts.length c) ∧ Rd PartAt 4 B w (.slice A s.parts.length c) s.parts := by
  obtain ⟨⟨vh, vp, vo, vu, hp, _, h2, _⟩, _⟩ := h
  obtain ⟨A, c, rfl, _⟩ := id h2
  exact ⟨A, c, cellOf hp 1 rfl, h2⟩

theorem arr_rd {w : World} {b : Nat} {f : Nat → Int} (h : ArrAt w b f) {n : Nat} (hn : n ≤ 3) : Rd IntAt 1 (b + 1) w (.slice (some ⟨b, 0, none⟩) n 3) ((List.range n).map f) := by
  refine ⟨some ⟨b, 0, none⟩, 3, by rw [List.length_map, List.length_range], by rw [List.length_map, List.length_range]; exact hn, by omega, fun i x hx => ⟨_, rfl, Nat.lt_succ_self b, ?_⟩⟩
  rw [List.getElem?_map] at hx
  obtain ⟨j, hj, rfl⟩ := Option.map_eq_some_iff.1 hx
  have hj2 : i < n := by
    have := (List.getElem?_eq_some_iff.1 hj).1
    simpa using this
  rw [List.getElem?_range hj2] at hj
  injection hj with hj
  subst hj
  have := h.cell (i := i) (by omega)
  have hadd : (⟨b, 0, none⟩ : Addr).add (i * 1) = ⟨b, i, none⟩ := by unfold Addr.add; split <;> simp_all
  unfold IntAt
  rw [hadd]
  exact this

theorem KeepM.cell {bm : Nat} {w w' : World} (h : KeepM bm w w') {c : (Nat → Int) → Nat → Int} (hm : MapAt c w bm) {a : Addr} {v : Value} (hc : w.cell? a = some v) : w'.cell? a = some v := by
  obtain ⟨es, clk, hh, _⟩ := hm
  unfold World.cell? at *
  cases ho : w.heap[a.block]? with
  | none => simp [ho] at hc
  | some o =>
    cases o with
    | cells cs e f => rw [h.stay hh ho]; simpa [ho] using hc
    | _ => simp [ho] at hc
theorem neededL_len (s : ShopR) (l : List OrdR) : (neededL s l).length = s.parts.length := by simp [neededL]
theorem arr_slice (b n : Nat) (w : World) (hn : n ≤ 3) : (Instr.sliceAt 93 (.pointer (some ⟨b, 0, none⟩)) none (some (.int .i64 n)) none).run Try.prog w = .ok (.slice (some ⟨b, 0, none⟩) n 3) w := by
  have ht : Try.prog.underlying 93 = some (.array (Try.prog.arrayLen 93) (Try.prog.elem 93)) := by kernel_rfl
  have hl : Try.prog.arrayLen 93 = 3 := by kernel_rfl
  have hs : (sizeOf (Try.prog.elem 93)).run Try.prog w = .ok 1 w := by kernel_rfl
  rw [run_sliceAt_array_h w 93 _ ht .i64 (n : Int) (by omega) (by rw [hl]; omega), hs]
  simp [Result.andThen, slicedAt, hl, Addr.add]
theorem needed_eq {s : ShopR} {l : List OrdR} {day : Int} (f : Nat → Int) (h : ∀ i, i < 3 → f i = castP s (fun i => due l i day) i) (hp : s.parts.length ≤ 3) : (List.range s.parts.length).map f = (List.range s.parts.length).map fun i => byy s l i day := by
  refine List.map_congr_left fun i hi => ?_
  rw [List.mem_range] at hi
  rw [h i (by omega)]
  unfold castP byy
  rw [if_pos hi]

set_option maxRecDepth 100000 in
theorem pneeded_ok {B : Nat} {w : World} {v vt : Value} {s : ShopR} {t : List Int} (h : Given B w v vt s t) (he : takenErr s t = 0) :
    Calls Try.prog 20 #[v, vt] w fun e w' => ∃ A c, e = .returned (.tuple #[.slice A s.parts.length c, .int .i64 0]) ∧ Rd IntAt 1 w'.heap.size w' (.slice A s.parts.length c) (neededL s (ofL s t)) ∧ Below w.heap.size w w' := by
  obtain ⟨Ah, ch, Ap, cp, Ao, co, At_, ct, rfl, rfl⟩ := h.form
  obtain ⟨W, hW, c0, c1, c2, hz, hb, _⟩ := shop_box w (.slice Ah s.hours.length ch) (.slice Ap s.parts.length cp) (.slice Ao s.orders.length co)
  obtain ⟨_, hg, hf, ht8⟩ := fit_of he
  have hplen := hg.plen
  refine calls_of_wp_marks Try.func20 rfl ?_
  simp only [Try.ntmps20, List.size_toArray, List.length_cons, List.length_nil, Nat.reduceAdd, Nat.reduceSub, Array.replicate_succ,
     Array.replicate_zero, List.push_toArray, List.append_toArray, List.nil_append, List.cons_append]
  go_upto_region 1 with (fail)
  rw [← hW]
  have hG := Lib.hid (h.below hb)
  have hq := Lib.hid (enter_ok hG.out he)
  have Hb := Lib.hid hb
  have C1 := Lib.hid c1
  clear hW hz hb h he
  go_upto_region 4 with (go_at_call 52; refine hq.out.mono ?_; rintro e wx ⟨p, bm, A, c, rfl, hE⟩; have HE := Lib.hid hE; clear hE)
  clear c0 c1 c2
  obtain ⟨W1, hW1, r1, z1, b1⟩ := box_any wx #[.int .i64 0, .int .i64 0, .int .i64 0] 93
  have HR := Lib.hid r1
  have hb1 := Lib.hid b1
  have hz1 := Lib.hid z1
  clear r1 z1 b1
  go_wp2_with (go_at_call 56; refine (days_any _ _ _ _ _).mono ?_; rintro e w' ⟨rfl, rfl⟩)
  rw [← hW1]
  clear hW1
  refine days_law (w0 := wx) (w := W1) HE.out.shop HE.out.ls (Nat.le_refl _) hg hf (.of_below hb1.out) (HE.out.shop.map.below hb1.out) (by rw [hz1.out]; rfl) rfl
    (fun k W' => ArrAt W' wx.heap.size (fun i => if k = 0 then 0 else castP s (fun i => due (ofL s t) i ((k : Int) - 1)) i)) (fun _ _ => False)
    ?hE (fun _ _ _ h _ => h) rfl ?h0 ?hround ?hdone (fun _ _ _ _ _ _ h _ => h.elim)
  case hE => exact fun k A B h hc => hc.arr (by have := hz1.out; omega) h
  case h0 =>
    refine ArrAt.below (ArrAt.congr (f := fun _ => 0) HR.out fun i _ => by simp) ?_
    exact ((Below.refl _ _).alloc (Nat.le_refl _) _).alloc (by simp) _
  case hround =>
    intro r k W' hk h1 h2 h3 hsz hr1 hr2
    have Hel := Lib.hid (show dayEl s (ofL s t) k = #[.int .i64 k, encP (castP s fun i => due (ofL s t) i k)] from rfl)
    rw [Hel.out]
    obtain ⟨f, hfe⟩ : ∃ f : Nat → Int, f = castP s (fun i => due (ofL s t) i k) := ⟨_, rfl⟩
    rw [← hfe]
    have Hfe := Lib.hid hfe
    clear hfe
    generalize hT : Array.foldl _ _ _ = T
    simp [encP] at hT
    subst hT
    have H3 := Lib.hid h3
    have k0 := h3.cell (i := 0) (by omega)
    have k1 := h3.cell (i := 1) (by omega)
    have k2 := h3.cell (i := 2) (by omega)
    have kf0 := h3.frozen 0
    have kf1 := h3.frozen 1
    have kf2 := h3.frozen 2
    clear h3
    gi_wp2
    have hbk : wx.heap.size < W1.heap.size := by have := hz1.out; omega
    have hk3 := ((h1.setCell (p := ⟨wx.heap.size, 0, none⟩) (Nat.le_refl _) (.int .i64 (f 0))).setCell (p := ⟨wx.heap.size, 1, none⟩) (Nat.le_refl _) (.int .i64 (f 1))).setCell (p := ⟨wx.heap.size, 2, none⟩) (Nat.le_refl _) (.int .i64 (f 2))
    have hm3 := ((h2.setCell ⟨wx.heap.size, 0, none⟩ (.int .i64 (f 0))).setCell ⟨wx.heap.size, 1, none⟩ (.int .i64 (f 1))).setCell ⟨wx.heap.size, 2, none⟩ (.int .i64 (f 2))
    have ha3 := H3.out.set3 (g := f)
    refine ⟨(((NC.refl _).setCell _ _).setCell _ _).setCell _ _, fun W₂ hb2 hz2 => ?_⟩
    gi_wp2
    refine ⟨NC.refl _, ⟨hk3.book hb2 (by omega), hm3.book hb2, ⟨?_, ?_⟩, ?_⟩, ?_⟩
    · exact (hb2.below.block _ (by omega)).trans (set3_heap _ (by omega) _ _ _)
    · exact (hb2.below.block _ (by omega)).trans (set3_heap _ (by omega) _ _ _)
    · refine ArrAt.congr (f := f) (hb2.data _ _ ha3 rfl) fun i _ => ?_
      rw [Hfe.out]
      congr 1
      funext j
      congr 1
      omega
    · intro b cs fz hb hc
      exact hb2.data _ _ ((set3_heap _ (by omega) _ _ _).trans hc) rfl
  case hdone =>
    intro d W' hd h1 h2 h3 hk
    have c1 := h1.cell HE.out.shop.map ((HE.out.bl.cell (cell_lt C1.out)).trans C1.out)
    have hhl := hg.hlen
    have hrd := arr_rd h3 hplen.2
    rw [needed_eq (l := ofL s t) (day := (s.hours.length : Int) - 1) _ (fun i hi => by rw [if_neg (by omega)]) hplen.2] at hrd
    have hrd : Rd IntAt 1 (wx.heap.size + 1) W' (.slice (some ⟨wx.heap.size, 0, none⟩) s.parts.length 3) (neededL s (ofL s t)) := hrd
    have hsz := h1.size
    have hlt := lt_of_block h3
    have hcl := clone_any (B := wx.heap.size + 1) (w := W') (ad := ⟨wx.heap.size, 0, none⟩) (c := 3) (xs := neededL s (ofL s t)) (by rw [neededL_len]; exact hrd) (by omega) (by rw [neededL_len]; omega)
    rw [neededL_len] at hcl
    have hsl := arr_slice wx.heap.size s.parts.length W' hplen.2
    have Hcl := Lib.hid hcl
    have H1 := Lib.hid h1
    have Hk := Lib.hid hk
    have Hlt := Lib.hid hlt
    clear h1 h2 h3 hk hcl hrd hlt hsz
    simp only [Exit.inBlock, Exit.then]
    go_wp2_with (go_at_call 57; refine Hcl.out.mono ?_; rintro e W3 ⟨A3, c3, rfl, hr3, hb3⟩)

    have hbw : Below w.heap.size w W3 := Hb.out.trans ((HE.out.after (H1.out.trans (.of_below hb3))).mono Hb.out.size)
    refine leaves_one rfl ((hb3.block _ (lt_of_block Hk.out)).trans Hk.out) (Nat.le_refl d) fun w' hbk => ?_
    have hH := hbk.below.size
    have hbw2 := hb3.size
    have hd3 := lt_of_block Hk.out
    refine ⟨_, results_tmp2 rfl _ _ _, A3, c3, rfl, ?_, ?_⟩
    · exact (hr3.stay fun b c e f _ hc => hbk.data _ _ hc rfl).mono hH
    · have h0 := Hb.out.size
      have h00 := HE.out.bl.size
      have h000 := hz1.out
      exact ⟨hbk.below.os.trans hbw.os, hbk.below.tape.trans hbw.tape, hbk.below.output.trans hbw.output, Nat.le_trans hbw.size hH, fun k hk => (hbk.below.block k (by omega)).trans (hbw.block k hk)⟩

set_option maxRecDepth 100000 in
theorem pneeded_bad {B : Nat} {w : World} {v vt : Value} {s : ShopR} {t : List Int} (h : Given B w v vt s t) (he : takenErr s t ≠ 0) :
    Calls Try.prog 20 #[v, vt] w fun e w' => e = .returned (.tuple #[.slice none 0 0, .int .i64 (takenErr s t)]) ∧ Below w.heap.size w w' := by
  obtain ⟨Ah, ch, Ap, cp, Ao, co, At_, ct, rfl, rfl⟩ := h.form
  obtain ⟨W, hW, c0, c1, c2, hz, hb, _⟩ := shop_box w (.slice Ah s.hours.length ch) (.slice Ap s.parts.length cp) (.slice Ao s.orders.length co)
  refine calls_of_wp_marks Try.func20 rfl ?_
  simp only [Try.ntmps20, List.size_toArray, List.length_cons, List.length_nil, Nat.reduceAdd, Nat.reduceSub, Array.replicate_succ,
     Array.replicate_zero, List.push_toArray, List.append_toArray, List.nil_append, List.cons_append]
  go_upto_region 1 with (fail)
  rw [← hW]
  have hG := Lib.hid (h.below hb)
  have hq := Lib.hid (enter_bad hG.out he)
  have hne : (takenErr s t != 0) = true := by simpa using he
  have Hb := Lib.hid hb
  clear hW hz hb h he
  go_wp2_with (go_at_call 52; refine hq.out.mono ?_; rintro e wx ⟨rfl, hbx⟩)
  have hbw := Hb.out.trans (hbx.mono Hb.out.size)
  exact ⟨_, results_tmp2 rfl _ _ _, rfl, hbw⟩
end Go.Proofs.Ytkmaapkbonkjfaa
namespace Go.Proofs.Ytkmaapkbonkjfaa
open Go.RowKit

def leastOf (n : Nat) (p : Nat → Bool) : Nat := (fst? n p).getD n
theorem leastOf_some {n k : Nat} {p : Nat → Bool} (hk : k < n) (hp : p k = true) (hb : ∀ j, j < k → p j = false) : leastOf n p = k := by unfold leastOf; rw [fst?_some hk hp hb]; rfl
theorem leastOf_none {n : Nat} {p : Nat → Bool} (hb : ∀ j, j < n → p j = false) : leastOf n p = n := by unfold leastOf; rw [fst?_none hb]; rfl

theorem least87 (n : Nat) (hn : n ≤ 1000) (p : Nat → Bool) (a b : Addr) (I : World → Prop) (w : World) (h0 : I w)
    (hc : ∀ k, k < n → ∀ w1, I w1 → Calls Try.prog 87 #[.int .i64 k, .pointer (some a), .pointer (some b)] w1 fun e w' => e = .returned (.bool (p k)) ∧ I w') :
    Calls Try.prog 65 #[.int .i64 n, .func (.func 87) #[] #[.pointer (some a), .pointer (some b)]] w fun e w' => e = .returned (.int .i64 (leastOf n p)) ∧ I w' := by
  have Hc := Lib.hid hc
  clear hc
  go_enter Try.func65, Try.ntmps65
  go_wp2
  go_loopw [7] (fun i wr => ∃ k : Nat, k ≤ n ∧ i = .int .i64 k ∧ (∀ j, j < k → p j = false) ∧ I wr) (fun i _ => n - (intOf i).toNat)
  case atStart => exact ⟨0, Nat.zero_le _, rfl, fun _ h => by omega, h0⟩
  case round =>
    obtain ⟨k, hk, rfl, hno, hi⟩ := hrel
    have Hno := Lib.hid hno
    clear hno
    by_cases hlt : k < n
    · cases hp : p k with
      | true =>
        have e := Lib.hid (leastOf_some hlt hp Hno.out)
        go_wp2_with (go_at_call 87; refine (Hc.out k hlt _ hi).mono ?_; rw [hp]; rintro e wx ⟨rfl, hix⟩)
        go_ret
        exact ⟨ret_int (by rw [e.out]), hix⟩
      | false =>
        have Hp := Lib.hid hp
        go_wp2_with (go_at_call 87; refine (Hc.out k hlt _ hi).mono ?_; rw [hp]; rintro e wx ⟨rfl, hix⟩)
        go_roundw
        case rel => exact ⟨k + 1, by omega, by go_num, fun j hj => by
          by_cases h : j < k
          · exact Hno.out j h
          · obtain rfl : j = k := by omega
            exact Hp.out, hix⟩
        case measure => simp [intOf]; omega
    · have e := Lib.hid (leastOf_none (n := n) (p := p) fun j hj => Hno.out j (by omega))
      go_wp2
      go_ret
      exact ⟨ret_int (by rw [e.out]), hi⟩

theorem least66 (n : Nat) (hn : n ≤ 1000) (p : Nat → Bool) (a b c d : Addr) (I : World → Prop) (w : World) (h0 : I w)
    (hc : ∀ k, k < n → ∀ w1, I w1 → Calls Try.prog 66 #[.int .i64 k, .pointer (some a), .pointer (some b), .pointer (some c), .pointer (some d)] w1 fun e w' => e = .returned (.bool (p k)) ∧ I w') :
    Calls Try.prog 65 #[.int .i64 n, .func (.func 66) #[] #[.pointer (some a), .pointer (some b), .pointer (some c), .pointer (some d)]] w fun e w' => e = .returned (.int .i64 (leastOf n p)) ∧ I w' := by
  have Hc := Lib.hid hc
  clear hc
  go_enter Try.func65, Try.ntmps65
  go_wp2
  go_loopw [7] (fun i wr => ∃ k : Nat, k ≤ n ∧ i = .int .i64 k ∧ (∀ j, j < k → p j = false) ∧ I wr) (fun i _ => n - (intOf i).toNat)
  case atStart => exact ⟨0, Nat.zero_le _, rfl, fun _ h => by omega, h0⟩
  case round =>
    obtain ⟨k, hk, rfl, hno, hi⟩ := hrel
    have Hno := Lib.hid hno
    clear hno
    by_cases hlt : k < n
    · cases hp : p k with
      | true =>
        have e := Lib.hid (leastOf_some hlt hp Hno.out)
        go_wp2_with (go_at_call 66; refine (Hc.out k hlt _ hi).mono ?_; rw [hp]; rintro e wx ⟨rfl, hix⟩)
        go_ret
        exact ⟨ret_int (by rw [e.out]), hix⟩
      | false =>
        have Hp := Lib.hid hp
        go_wp2_with (go_at_call 66; refine (Hc.out k hlt _ hi).mono ?_; rw [hp]; rintro e wx ⟨rfl, hix⟩)
        go_roundw
        case rel => exact ⟨k + 1, by omega, by go_num, fun j hj => by
          by_cases h : j < k
          · exact Hno.out j h
          · obtain rfl : j = k := by omega
            exact Hp.out, hix⟩
        case measure => simp [intOf]; omega
    · have e := Lib.hid (leastOf_none (n := n) (p := p) fun j hj => Hno.out j (by omega))
      go_wp2
      go_ret
      exact ⟨ret_int (by rw [e.out]), hi⟩
end Go.Proofs.Ytkmaapkbonkjfaa
