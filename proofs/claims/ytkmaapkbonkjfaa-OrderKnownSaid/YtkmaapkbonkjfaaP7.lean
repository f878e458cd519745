/- Walks of the layer order: Promise. -/
import Derived.Test.YtkmaapkbonkjfaaP6
namespace Go.Proofs.Ytkmaapkbonkjfaa
open Go.RowKit

def promiseFV (s : ShopR) (t : List Int) (part many : Int) : Value := .tuple #[.int .i64 (promiseF s t part many).1, .int .i64 (promiseF s t part many).2]
theorem promiseFV_eq {s : ShopR} {t : List Int} {part many a b : Int} (h : promiseF s t part many = (a, b)) : promiseFV s t part many = .tuple #[.int .i64 a, .int .i64 b] := by unfold promiseFV; rw [h]

theorem fit_more {s : ShopR} {t : List Int} (h : takenErr s t = 0) {part many : Int} {k : Nat} (hp : inB part 0 (s.parts.length - 1) = true) (hm : inB many 1 50 = true) (hk : k < s.hours.length) : Fit s (ofL s t ++ [⟨part, many, k, 0⟩]) := by
  obtain ⟨_, hg, hf, h8⟩ := fit_of h
  rw [inB_iff] at hp hm
  refine ⟨by simp [ofL]; omega, fun o ho => ?_⟩
  rcases List.mem_append.1 ho with ho | ho
  · exact hf.all o ho
  · simp at ho
    subst ho
    exact ⟨by simp; omega, hm, by simp; omega, by simp⟩

theorem promise_least {B : Nat} {w : World} {p bm : Nat} {s : ShopR} {l : List OrdR} {A : Option Addr} {n : Nat} (hs : ShopAt B w p bm s) (hl : Rd OrdAt 4 B w (.slice A l.length n) l) (hg : Good s) (part many : Int)
    (hf : ∀ k : Nat, k < s.hours.length → Fit s (l ++ [⟨part, many, k, 0⟩])) (hB : B ≤ w.heap.size) {a b c d : Addr} (ca : w.cell? a = some (.pointer (some ⟨p, 0, none⟩))) (cb : w.cell? b = some (.slice A l.length n)) (cc : w.cell? c = some (.int .i64 part)) (cd : w.cell? d = some (.int .i64 many)) :
    Calls Try.prog 65 #[.int .i64 s.hours.length, .func (.func 66) #[] #[.pointer (some a), .pointer (some b), .pointer (some c), .pointer (some d)]] w fun e w' =>
      e = .returned (.int .i64 (leastOf s.hours.length fun k => canB s (l ++ [⟨part, many, k, 0⟩]))) ∧ KeepM bm w w' ∧ MapAt (castP s) w' bm := by
  have hhlen := hg.hlen
  refine least66 s.hours.length (by omega) _ a b c d (fun w' => KeepM bm w w' ∧ MapAt (castP s) w' bm) w ⟨.refl _ _, hs.map⟩ fun k hk w1 h1 => ?_
  refine (c66_any (hs.keep h1.1 h1.2) (hl.keepM h1.1 hs.map) hg part many k (hf k hk) (Nat.le_trans hB h1.1.size) (h1.1.cell hs.map ca) (h1.1.cell hs.map cb) (h1.1.cell hs.map cc) (h1.1.cell hs.map cd)).mono ?_
  rintro e w' ⟨he, hk, hm⟩
  exact ⟨he, h1.1.trans hk, hm⟩

set_option maxRecDepth 100000 in
theorem ppromise_any {B : Nat} {w : World} {v vt : Value} {s : ShopR} {t : List Int} (h : Given B w v vt s t) (part many : Int) :
    Calls Try.prog 29 #[v, vt, .int .i64 part, .int .i64 many] w fun e w' => e = .returned (promiseFV s t part many) ∧ Below w.heap.size w w' := by
  obtain ⟨Ah, ch, Ap, cp, Ao, co, At_, ct, rfl, rfl⟩ := h.form
  obtain ⟨W, hW, c0, c1, c2, hz, hb, _⟩ := shop_box w (.slice Ah s.hours.length ch) (.slice Ap s.parts.length cp) (.slice Ao s.orders.length co)
  obtain ⟨W1, hW1, r1, z1, b1⟩ := box_any W #[.int .i64 part] 3
  obtain ⟨W2, hW2, r2, z2, b2⟩ := box_any W1 #[.int .i64 many] 3
  go_enter Try.func29, Try.ntmps29
  go_upto_region 1 with (fail)
  rw [← hW, ← hW1, ← hW2]
  have hb2 : Below w.heap.size w W2 := hb.trans ((b1.mono (by omega)).trans (b2.mono (by omega)))
  have c0 := ((b1.trans (b2.mono (by omega))).cell (cell_lt c0)).trans c0
  have c1 := ((b1.trans (b2.mono (by omega))).cell (cell_lt c1)).trans c1
  have c2 := ((b1.trans (b2.mono (by omega))).cell (cell_lt c2)).trans c2
  have d0 := cellOf ((b2.block _ (by omega)).trans r1) 0 (v := .int .i64 part) rfl
  have d1 := cellOf r2 0 (v := .int .i64 many) rfl
  rw [z1] at d1
  rw [hz] at d0 d1
  have hG := Lib.hid (h.below hb2)
  have Hb := Lib.hid hb2
  clear hW hW1 hW2 hz hb h r1 z1 b1 r2 z2 b2 hb2
  by_cases he : takenErr s t = 0
  · have hq := Lib.hid (enter_ok hG.out he)
    obtain ⟨_, hg, hf, _⟩ := fit_of he
    have He := Lib.hid he
    clear he
    go_upto_region 2 with (go_at_call 52; refine hq.out.mono ?_; rintro e wx ⟨p, bm, A, c, rfl, hE⟩; have c0 := (hE.bl.cell (cell_lt c0)).trans c0; have c1 := (hE.bl.cell (cell_lt c1)).trans c1; have c2 := (hE.bl.cell (cell_lt c2)).trans c2; have d0 := (hE.bl.cell (cell_lt d0)).trans d0; have d1 := (hE.bl.cell (cell_lt d1)).trans d1; have HE := Lib.hid hE; clear hE)
    obtain ⟨W3, hW3, r3, z3, b3⟩ := box_any wx #[.pointer (some ⟨p, 0, none⟩)] 84
    obtain ⟨W4, hW4, r4, z4, b4⟩ := box_any W3 #[.slice A t.length c] 24
    rw [← hW3, ← hW4]
    clear hW3 hW4
    have hb4 : Below wx.heap.size wx W4 := b3.trans (b4.mono (by omega))
    have c0 := (hb4.cell (cell_lt c0)).trans c0
    have c1 := (hb4.cell (cell_lt c1)).trans c1
    have c2 := (hb4.cell (cell_lt c2)).trans c2
    have d0 := (hb4.cell (cell_lt d0)).trans d0
    have d1 := (hb4.cell (cell_lt d1)).trans d1
    have d2 := cellOf ((b4.block _ (by omega)).trans r3) 0 (v := .pointer (some ⟨p, 0, none⟩)) rfl
    have d3 := cellOf r4 0 (v := .slice A t.length c) rfl
    rw [z3] at d3
    have hplen := hg.plen
    have hhlen := hg.hlen
    have HB4 := Lib.hid hb4
    clear hb4 b3 b4 r3 r4 z3 z4
    cases n1 : inB part 0 (s.parts.length - 1) with
    | false =>
      have e := Lib.hid (promiseFV_eq (s := s) (t := t) (part := part) (many := many) (a := 0) (b := 4) (by unfold promiseF; rw [if_neg (by simp [He.out]), if_pos n1]))
      have n1 := (outB_one 0 (s.parts.length - 1) part).trans (by rw [n1])
      go_wp2_with (go_at_call 44; refine (out1 _ _ _ _).mono ?_; rintro e wx ⟨rfl, hbx⟩; have HBX := Lib.hid hbx; clear hbx)
      go_ret2
      exact ⟨by rw [e.out]; rfl, Hb.out.trans ((HE.out.bl.trans ((HB4.out.trans (HBX.out.mono HB4.out.size)).mono HE.out.bl.size)).mono Hb.out.size)⟩
    | true =>
    cases n2 : inB many 1 50 with
    | false =>
      have e := Lib.hid (promiseFV_eq (s := s) (t := t) (part := part) (many := many) (a := 0) (b := 7) (by unfold promiseF; rw [if_neg (by simp [He.out]), if_neg (by simp [n1]), if_pos n2]))
      have n1 := (outB_one 0 (s.parts.length - 1) part).trans (by rw [n1])
      have n2 := (outB_one 1 50 many).trans (by rw [n2])
      have HX := Lib.hid (Below.refl W4.heap.size W4)
      go_wp2_with (go_at_call 44; refine (out1 _ _ _ _).mono ?_; rintro e wx ⟨rfl, hbx⟩; have d1 := (hbx.cell (cell_lt d1)).trans d1; have HX := Lib.hid (HX.out.trans (hbx.mono HX.out.size)); clear hbx)
      go_ret2
      exact ⟨by rw [e.out]; rfl, Hb.out.trans ((HE.out.bl.trans ((HB4.out.trans (HX.out.mono HB4.out.size)).mono HE.out.bl.size)).mono Hb.out.size)⟩
    | true =>
      have hfm : ∀ k, k < s.hours.length → Fit s (ofL s t ++ [⟨part, many, k, 0⟩]) := fun k hk => fit_more He.out n1 n2 hk
      have es : ∀ d, promiseL s (ofL s t) part many = some d → promiseFV s t part many = .tuple #[.int .i64 d, .int .i64 0] := fun d hd => promiseFV_eq (by unfold promiseF; rw [if_neg (by simp [He.out]), if_neg (by simp [n1]), if_neg (by simp [n2]), hd])
      have en : promiseL s (ofL s t) part many = none → promiseFV s t part many = .tuple #[.int .i64 0, .int .i64 9] := fun hd => promiseFV_eq (by unfold promiseF; rw [if_neg (by simp [He.out]), if_neg (by simp [n1]), if_neg (by simp [n2]), hd])
      have Es := Lib.hid es
      have En := Lib.hid en
      have n1 : outB 0 (s.parts.length - 1) [part] = false := by rw [outB_one, n1]; rfl
      have n2 : outB 1 50 [many] = false := by rw [outB_one, n2]; rfl
      have HX := Lib.hid (Below.refl W4.heap.size W4)
      clear es en
      go_upto_region 8 with (go_at_call 44; refine (out1 _ _ _ _).mono ?_; rintro e wo ⟨rfl, hbx⟩; have c0 := (hbx.cell (cell_lt c0)).trans c0; have d0 := (hbx.cell (cell_lt d0)).trans d0; have d1 := (hbx.cell (cell_lt d1)).trans d1; have d2 := (hbx.cell (cell_lt d2)).trans d2; have d3 := (hbx.cell (cell_lt d3)).trans d3; have HX := Lib.hid (HX.out.trans (hbx.mono HX.out.size)); clear hbx)
      have hbo : Below wx.heap.size wx wo := HB4.out.trans (HX.out.mono HB4.out.size)
      have hso := HE.out.shop.below hbo
      have hlo := HE.out.ls.below hbo
      have hsz := hbo.size
      have hle := promise_least hso (l := ofL s t) (A := A) (n := c) (by rw [ofL_len]; exact hlo) hg part many hfm hsz d2 (by rw [ofL_len]; exact d3) d0 d1
      have Hle := Lib.hid hle
      have hlt := cell_lt c0
      have hmap := Lib.hid hso.map
      have Hbo := Lib.hid hbo
      clear hle hso hlo hbo d0 d1 d2 d3
      cases hd : promiseL s (ofL s t) part many with
      | some d =>
        have hlv : leastOf s.hours.length (fun d => canB s (ofL s t ++ [⟨part, many, d, 0⟩])) = d := by unfold leastOf; rw [show fst? _ _ = some d from hd]; rfl
        have hdl : d < s.hours.length := (fst?_spec hd).1
        have e := Lib.hid (Es.out d hd)
        have hne : ((d : Int) == (s.hours.length : Int)) = false := by simp; omega
        rw [hlv] at Hle
        clear hd hlv
        go_wp2_with (go_at_call 65; refine Hle.out.mono ?_; rintro e wz ⟨rfl, hk, hm⟩; have c0 := hk.cell hmap.out c0; have HK := Lib.hid hk; clear hk hm)
        go_ret2
        exact ⟨by rw [e.out]; rfl, Hb.out.trans ((HE.out.after ((KeepM.of_below Hbo.out).trans HK.out)).mono Hb.out.size)⟩
      | none =>
        have hlv : leastOf s.hours.length (fun d => canB s (ofL s t ++ [⟨part, many, d, 0⟩])) = s.hours.length := by unfold leastOf; rw [show fst? _ _ = none from hd]; rfl
        have e := Lib.hid (En.out hd)
        rw [hlv] at Hle
        clear hd hlv
        go_wp2_with (go_at_call 65; refine Hle.out.mono ?_; rintro e wz ⟨rfl, hk, hm⟩; have c0 := hk.cell hmap.out c0; have HK := Lib.hid hk; clear hk hm)
        go_ret2
        exact ⟨by rw [e.out]; rfl, Hb.out.trans ((HE.out.after ((KeepM.of_below Hbo.out).trans HK.out)).mono Hb.out.size)⟩
  · have hq := Lib.hid (enter_bad hG.out he)
    have e := Lib.hid (promiseFV_eq (s := s) (t := t) (part := part) (many := many) (a := 0) (b := takenErr s t) (by unfold promiseF; rw [if_pos he]))
    have hne : (takenErr s t != 0) = true := by simpa using he
    clear he
    go_wp2_with (go_at_call 52; refine hq.out.mono ?_; rintro e wx ⟨rfl, hbx⟩)
    go_ret2
    exact ⟨by rw [e.out]; rfl, Hb.out.trans (((hbx.alloc hbx.size _).alloc (by have := hbx.size; simp; omega) _).mono Hb.out.size)⟩
end Go.Proofs.Ytkmaapkbonkjfaa
