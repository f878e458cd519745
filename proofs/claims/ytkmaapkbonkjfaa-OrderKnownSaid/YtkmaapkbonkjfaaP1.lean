/- Walks of the layer order: Late of the program; enter, parted. -/
import Derived.Test.YtkmaapkbonkjfaaEnter
namespace Go.Proofs.Ytkmaapkbonkjfaa
open Go.RowKit

/-- orders that are taken fit their shop -/
theorem fit_of {s : ShopR} {t : List Int} (h : takenErr s t = 0) : errOf s = 0 ∧ Good s ∧ Fit s (ofL s t) ∧ t.length ≤ 8 := by
  have he : errOf s = 0 := by
    by_cases he : errOf s = 0
    · exact he
    · rw [takenErr_shop he] at h; exact h
  have hg := good_of_valid he
  have hob : outB 0 (s.orders.length - 1) t = false := by
    cases hob : outB 0 (s.orders.length - 1) t with
    | false => rfl
    | true => rw [takenErr_none he hob] at h; cases h
  have hno : ∀ j, j < t.length → badAt t j = false := by
    cases hf : fst? t.length (badAt t) with
    | none => exact fst?_none_spec hf
    | some k =>
      obtain ⟨h1, h2, h3⟩ := fst?_spec hf
      rw [takenErr_arg he hob h1 h2 h3] at h
      cases h
  have hlen := rising_len hob (Nat.le_refl _) hno
  have := hg.olen
  refine ⟨he, hg, ⟨by rw [ofL_len]; omega, fun o ho => ?_⟩, by omega⟩
  unfold ofL at ho
  obtain ⟨i, hi, rfl⟩ := List.mem_map.1 ho
  obtain ⟨j, hj, rfl⟩ := List.getElem_of_mem hi
  have h1 := outB_false hob hj
  rw [List.getElem?_eq_getElem hj] at h1
  simp only [Option.getD_some] at h1
  exact hg.ord (by omega)

/-- what a function of the layer is given: a shop and orders that are taken -/
structure Given (B : Nat) (w : World) (v vt : Value) (s : ShopR) (t : List Int) : Prop where
  shop : RdShop B w v s
  tk : Rd IntAt 1 B w vt t
  nm : ∀ p ∈ s.parts, p.name.size ≤ 9223372036854775807
  le : B ≤ w.heap.size
theorem Given.below {B : Nat} {w w' : World} {v vt : Value} {s : ShopR} {t : List Int} (h : Given B w v vt s t) (hb : Below w.heap.size w w') : Given B w' v vt s t :=
  ⟨h.shop.below (hb.mono h.le), h.tk.below (hb.mono h.le), h.nm, Nat.le_trans h.le hb.size⟩

theorem enter_bad {B : Nat} {w : World} {v vt : Value} {s : ShopR} {t : List Int} (h : Given B w v vt s t) (he : takenErr s t ≠ 0) :
    Calls Try.prog 52 #[v, vt] w fun e w' => e = .returned (.tuple #[.pointer none, .slice none 0 0, .int .i64 (takenErr s t)]) ∧ Below w.heap.size w w' := by
  by_cases h0 : errOf s = 0
  · refine (enter_in h.shop h.tk h.nm h.le h0).mono ?_
    rintro e w' (⟨_, he, hb⟩ | ⟨h, _⟩)
    · exact ⟨he, hb⟩
    · exact absurd h he
  · rw [takenErr_shop h0]
    exact enter_shop h.shop h.tk h.nm h.le h0

/-- what enter hands back -/
structure Entered (w w' : World) (p bm : Nat) (vl : Value) (s : ShopR) (t : List Int) : Prop where
  bl : Below w.heap.size w w'
  shop : ShopAt w'.heap.size w' p bm s
  ls : Rd OrdAt 4 w'.heap.size w' vl (ofL s t)
  hp : w.heap.size ≤ p
  hm : w.heap.size ≤ bm
theorem Entered.after {w w' w'' : World} {p bm : Nat} {vl : Value} {s : ShopR} {t : List Int} (h : Entered w w' p bm vl s t) (hk : KeepM bm w' w'') : Below w.heap.size w w'' := h.bl.trans (hk.below h.bl.size h.hm)
theorem enter_ok {B : Nat} {w : World} {v vt : Value} {s : ShopR} {t : List Int} (h : Given B w v vt s t) (he : takenErr s t = 0) :
    Calls Try.prog 52 #[v, vt] w fun e w' => ∃ p bm A c, e = .returned (.tuple #[.pointer (some ⟨p, 0, none⟩), .slice A t.length c, .int .i64 0]) ∧ Entered w w' p bm (.slice A t.length c) s t := by
  refine (enter_in h.shop h.tk h.nm h.le (fit_of he).1).mono ?_
  rintro e w' (⟨h, _⟩ | ⟨_, p, bm, A, c, h0, h1, h2, h3, h4, h5⟩)
  · exact absurd he h
  · exact ⟨p, bm, A, c, h0, h1, h2, h3, h4, h5⟩

def lateFV (s : ShopR) (t : List Int) : Value := .tuple #[.int .i64 (lateF s t).1, .int .i64 (lateF s t).2.1, .int .i64 (lateF s t).2.2]
theorem lateFV_eq {s : ShopR} {t : List Int} {a b c : Int} (h : lateF s t = (a, b, c)) : lateFV s t = .tuple #[.int .i64 a, .int .i64 b, .int .i64 c] := by unfold lateFV; rw [h]

/-- a shop that a function boxes -/
theorem Given.form {B : Nat} {w : World} {v vt : Value} {s : ShopR} {t : List Int} (h : Given B w v vt s t) : ∃ Ah ch Ap cp Ao co At_ ct, v = .agg #[.slice Ah s.hours.length ch, .slice Ap s.parts.length cp, .slice Ao s.orders.length co] ∧ vt = .slice At_ t.length ct := by
  obtain ⟨vh, vp, vo, hv, hh, hp, ho⟩ := h.shop
  obtain ⟨Ah, ch, rfl, _⟩ := hh
  obtain ⟨Ap, cp, rfl, _⟩ := hp
  obtain ⟨Ao, co, rfl, _⟩ := ho
  obtain ⟨At_, ct, rfl, _⟩ := h.tk
  exact ⟨Ah, ch, Ap, cp, Ao, co, At_, ct, hv, rfl⟩

theorem plate_any {B : Nat} {w : World} {v vt : Value} {s : ShopR} {t : List Int} (h : Given B w v vt s t) :
    Calls Try.prog 18 #[v, vt] w fun e w' => e = .returned (lateFV s t) ∧ Below w.heap.size w w' := by
  obtain ⟨Ah, ch, Ap, cp, Ao, co, At_, ct, rfl, rfl⟩ := h.form
  obtain ⟨W, hW, c0, c1, c2, hz, hb, _⟩ := shop_box w (.slice Ah s.hours.length ch) (.slice Ap s.parts.length cp) (.slice Ao s.orders.length co)
  go_enter Try.func18, Try.ntmps18
  go_upto_region 1 with (fail)
  rw [← hW]
  have hG := Lib.hid (h.below hb)
  have Hb := Lib.hid hb
  clear hW hz hb h
  by_cases he : takenErr s t = 0
  · have hq := Lib.hid (enter_ok hG.out he)
    obtain ⟨_, hg, hf, _⟩ := fit_of he
    have He := Lib.hid he
    clear he
    cases hfd : first? s (ofL s t) with
    | none =>
      have e := Lib.hid (lateFV_eq (s := s) (t := t) (a := 0) (b := 0) (c := 4) (by unfold lateF; rw [if_neg (by simp [He.out]), hfd]))
      have eL := Lib.hid (lateV_none hfd)
      clear hfd
      go_wp2_with (first | (go_at_call 52; refine hq.out.mono ?_; rintro e wx ⟨p, bm, A, c, rfl, hE⟩; have HE := Lib.hid hE; clear hE) | (go_at_call 53; refine (late_any HE.out.shop HE.out.ls hg hf (Nat.le_refl _)).mono ?_; rw [eL.out]; rintro e wy ⟨rfl, hk, _⟩; have HK := Lib.hid (Hb.out.trans ((HE.out.after hk).mono Hb.out.size)); clear hk))
      go_ret3
      exact ⟨by rw [e.out]; rfl, HK.out⟩
    | some d =>
      have hov : 0 < over s (ofL s t) d := by have := (fst?_spec hfd).2.1; simpa using this
      have e := Lib.hid (lateFV_eq (s := s) (t := t) (a := d) (b := over s (ofL s t) d) (c := 0) (by unfold lateF; rw [if_neg (by simp [He.out]), hfd]))
      have eL := Lib.hid (lateV_some hfd)
      have hnb : (over s (ofL s t) d == 0) = false := by simp; omega
      clear hfd
      go_wp2_with (first | (go_at_call 52; refine hq.out.mono ?_; rintro e wx ⟨p, bm, A, c, rfl, hE⟩; have HE := Lib.hid hE; clear hE) | (go_at_call 53; refine (late_any HE.out.shop HE.out.ls hg hf (Nat.le_refl _)).mono ?_; rw [eL.out]; rintro e wy ⟨rfl, hk, _⟩; have HK := Lib.hid (Hb.out.trans ((HE.out.after hk).mono Hb.out.size)); clear hk))
      go_ret3
      exact ⟨by rw [e.out]; rfl, HK.out⟩
  · have hq := Lib.hid (enter_bad hG.out he)
    have e := Lib.hid (lateFV_eq (s := s) (t := t) (a := 0) (b := 0) (c := takenErr s t) (by unfold lateF; rw [if_pos he]))
    have hne : (takenErr s t != 0) = true := by simpa using he
    clear he
    go_wp2_with (go_at_call 52; refine hq.out.mono ?_; rintro e wx ⟨rfl, hbx⟩)
    go_ret3
    exact ⟨by rw [e.out]; rfl, Hb.out.trans (hbx.mono Hb.out.size)⟩
end Go.Proofs.Ytkmaapkbonkjfaa
