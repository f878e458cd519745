/- Walks of the layer order: Promise of the program, with its closure. Walks of the layer order: the closure of Promise. Walks of the layer order: Promise. -/
import Derived.Test.YtkmaapkbonkjfaaGPlan
import Derived.Test.YtkmaapkbonkjfaaGEnter
import Derived.ArgAppend
import Derived.Deep.RegionHeld3
set_option linter.unusedSimpArgs false
set_option linter.unusedVariables false
namespace Go.Proofs.Ytkmaapkbonkjfaa
open Go.RowKit

theorem flat_ords {w : World} {B : Nat} {A : Option Addr} {n c : Nat} {xs : List OrdR} (h : Rd OrdAt 4 B w (.slice A n c) xs) (ad : Addr) (hA : A = some ad) :
    ∀ j u, (xs.flatMap (Enc.enc (α := OrdR)))[j]? = some u → w.cell? (ad.add j) = some u := by
  intro j u hj
  have hlt := (List.getElem?_eq_some_iff.1 hj).1
  rw [flat_len] at hlt
  have hi : j / 4 < xs.length := by omega
  obtain ⟨A', cap', e, h1, h2, h3⟩ := h
  obtain ⟨ad', e2, hb, ha⟩ := h3 (j / 4) xs[j / 4] (List.getElem?_eq_getElem hi)
  injection e with e e' e''
  subst e
  rw [hA] at e2
  injection e2 with e2
  subst e2
  have hlt4 : j % 4 < 4 := Nat.mod_lt _ (by omega)
  have hfl : ∃ v, (Enc.enc (α := OrdR) xs[j / 4])[j % 4]? = some v := ⟨_, List.getElem?_eq_getElem (by rw [Enc.len]; exact hlt4)⟩
  obtain ⟨v, hv⟩ := hfl
  have := flat_at (xs := xs) (i := j / 4) (List.getElem?_eq_getElem hi) hv
  rw [show j / 4 * 4 + j % 4 = j by omega, hj] at this
  cases this
  have hadd : ∀ k, 0 < k → (⟨(ad.add (j / 4 * 4)).block, (ad.add (j / 4 * 4)).off + k, none⟩ : Addr) = ad.add (j / 4 * 4 + k) := by
    intro k hk
    unfold Addr.add
    rw [if_neg (show ¬ j / 4 * 4 + k = 0 by omega)]
    split
    · rename_i h0; simp
    · simp [Nat.add_assoc]
  obtain ⟨a0, a1, a2, a3⟩ := ha
  rw [hadd 1 (by omega)] at a1
  rw [hadd 2 (by omega)] at a2
  rw [hadd 3 (by omega)] at a3
  have hj4 : j = j / 4 * 4 + j % 4 := by omega
  generalize xs[j / 4] = o at *
  generalize hq : j / 4 * 4 = q at *
  generalize hr : j % 4 = r at *
  subst hj4
  match r, hlt4, hv with
  | 0, _, hv => simp [Enc.enc] at hv; subst hv; exact a0
  | 1, _, hv => simp [Enc.enc] at hv; subst hv; exact a1
  | 2, _, hv => simp [Enc.enc] at hv; subst hv; exact a2
  | 3, _, hv => simp [Enc.enc] at hv; subst hv; exact a3

/-- an order behind a slice that has no room: a new row -/
theorem append_over {B : Nat} {w : World} {A : Option Addr} {c : Nat} {xs : List OrdR} (h : Rd OrdAt 4 B w (.slice A xs.length c) xs) (x : OrdR) (hn : xs.length ≤ 1000) (hB : B ≤ w.heap.size) :
    ∃ A' c' w', (Builtin.append_ #[24, 24] 24 #[.slice A xs.length xs.length, .slice (some ⟨w.heap.size, 0, none⟩) 1 1]).run Try.prog (w.alloc (.cells #[.int .i64 x.part, .int .i64 x.many, .int .i64 x.due, .int .i64 x.worth] 60)) = .ok (.slice A' (xs.length + 1) c') w' ∧
      Own w.heap.size 60 w' (.slice A' (xs.length + 1) c') (xs ++ [x]) ∧ Below w.heap.size w w' := by
  cases A with
  | none =>
    have hy : xs = [] := by
      obtain ⟨A0, c0, e0, _, _, hcell⟩ := h
      injection e0 with e1 e2 e3
      subst e1
      cases xs with
      | nil => rfl
      | cons y ys => obtain ⟨ad, e, _⟩ := hcell 0 y rfl; cases e
    subst hy
    obtain ⟨A', c', w', h1, h2, h3, _⟩ := append_ord (Own.nil w.heap.size 60 w) x (by simp) (Nat.le_refl _)
    exact ⟨A', c', w', h1, h2, h3⟩
  | some ad =>
    obtain ⟨i, hi, hi2⟩ := Option.map_eq_some_iff.1 (show (Try.prog.info? 60).map (fun i => (i.size, i.bytes, i.zero.map (·.cells.size))) = some (4, 32, some 4) by kernel_rfl)
    simp only [Prod.mk.injEq] at hi2
    obtain ⟨hsize, hby, hz0⟩ := hi2
    obtain ⟨z, hz, hzs⟩ := Option.map_eq_some_iff.1 hz0
    have ht : Try.prog.underlying 24 = some (.slice 60) := by kernel_rfl
    obtain ⟨v', w', hrun, hown, hgr⟩ := run_append_arg_grows (P := Try.prog) (w.alloc (.cells #[.int .i64 x.part, .int .i64 x.many, .int .i64 x.due, .int .i64 x.worth] 60)) 24 24 60 i z 4 32 ht hi hz hsize hby hzs (by omega)
      ad xs.length xs.length (xs.flatMap Enc.enc) (by rw [flat_len]) (flat_ords (h.alloc hB _) ad rfl) ⟨w.heap.size, 0, none⟩ 1 1 (Enc.enc x) (by rw [Enc.len])
      (fun j u hu => by
        have hadd : (⟨w.heap.size, 0, none⟩ : Addr).add j = ⟨w.heap.size, j, none⟩ := by unfold Addr.add; split <;> simp_all
        rw [hadd]
        exact (cell_of_row _ _ j _ _ _ (heap_alloc_new w _)).trans (by simpa [Enc.enc] using hu))
      (by omega) (by unfold maxLen; omega) (by omega)
    have h4 : Own (w.alloc (.cells #[.int .i64 x.part, .int .i64 x.many, .int .i64 x.due, .int .i64 x.worth] 60)).heap.size 60 w' v' (xs ++ [x]) := Own.of_append (n := xs.length + 1) (by simp) (by simpa using hown)
    have h5 := h4.mono (base' := w.heap.size) (by simp)
    obtain ⟨A', c', rfl, hc1, hc2⟩ := h5.form
    rw [List.length_append, List.length_singleton] at hrun h5
    exact ⟨A', c', w', hrun, h5, ((Below.refl _ _).alloc (Nat.le_refl _) _).trans (Below.mono (B := (w.alloc (.cells #[.int .i64 x.part, .int .i64 x.many, .int .i64 x.due, .int .i64 x.worth] 60)).heap.size) ⟨hgr.os, hgr.tape, hgr.output, hgr.size, fun k hk => hgr.block k hk (by simp)⟩ (by simp))⟩

theorem slice3_ords (A : Option Addr) (n c : Nat) (hc : n ≤ c) (w : World) : (Instr.slice 24 (.slice A n c) none (some (.int .i64 n)) (some (.int .i64 n))).run Try.prog w = .ok (.slice A n n) w := by
  have ht : Try.prog.underlying 24 = some (.slice (Try.prog.elem 24)) := by kernel_rfl
  have hs : (sizeOf (Try.prog.elem 24)).run Try.prog w = .ok 4 w := by kernel_rfl
  rw [run_slice_hm (w := w) 24 A n c ht .i64 .i64 n n (by omega) (by omega) (by omega), hs]
  simp [Result.andThen, sliced]
  intro hn
  cases A <;> simp [Addr.add]
end Go.Proofs.Ytkmaapkbonkjfaa
namespace Go.Proofs.Ytkmaapkbonkjfaa
open Go.RowKit

theorem ShopAt.mono {B B' : Nat} {w : World} {p bm : Nat} {s : ShopR} (h : ShopAt B w p bm s) (hB : B ≤ B') : ShopAt B' w p bm s := by
  obtain ⟨⟨vh, vp, vo, vu, hp, h1, h2, h3, h4⟩, hm⟩ := h
  exact ⟨⟨vh, vp, vo, vu, hp, h1.mono hB, h2.mono hB, h3.mono hB, h4.mono hB⟩, hm⟩

set_option maxHeartbeats 1000000 in
set_option maxRecDepth 100000 in
theorem c66_any {B : Nat} {w : World} {p bm : Nat} {s : ShopR} {l : List OrdR} {A : Option Addr} {n : Nat} (hs : ShopAt B w p bm s) (hl : Rd OrdAt 4 B w (.slice A l.length n) l) (hg : Good s) (part many : Int) (k : Nat)
    (hf : Fit s (l ++ [⟨part, many, k, 0⟩])) (hB : B ≤ w.heap.size) {a b c d : Addr} (ca : w.cell? a = some (.pointer (some ⟨p, 0, none⟩))) (cb : w.cell? b = some (.slice A l.length n)) (cc : w.cell? c = some (.int .i64 part)) (cd : w.cell? d = some (.int .i64 many)) :
    Calls Try.prog 66 #[.int .i64 k, .pointer (some a), .pointer (some b), .pointer (some c), .pointer (some d)] w fun e w' => e = .returned (.bool (canB s (l ++ [⟨part, many, k, 0⟩]))) ∧ KeepM bm w w' ∧ MapAt (castP s) w' bm := by
  have hn : l.length ≤ n ∧ l.length ≤ 1000 := by
    obtain ⟨A0, c0, e0, h1, _⟩ := hl
    injection e0 with e1 e2 e3
    subst e3
    have := hf.len
    simp at this
    exact ⟨h1, by omega⟩
  obtain ⟨hn1, hn2⟩ := hn
  obtain ⟨A', c', w1, hrun, hown, hb1⟩ := append_over (w := w.drew) (hl.qt ⟨1, rfl⟩) ⟨part, many, k, 0⟩ hn2 hB
  have hcan := Lib.hid (pcan_any (((hs.below (w' := w.drew) (Below.refl _ _).drew).below hb1).mono (show B ≤ w1.heap.size from Nat.le_trans hB hb1.size)) hown.rd hg hf (Nat.le_refl _))
  have hk1 : KeepM bm w w1 := (KeepM.of_below (Below.refl _ _).drew).trans (.of_below hb1)
  have hsl := slice3_ords A l.length n hn1
  have hmap := Lib.hid (hs.map.below (w' := w.drew) (Below.refl _ _).drew |>.below hb1)
  have a1 := (hb1.cell (cell_lt (w := w.drew) ca)).trans ca
  have b1 := (hb1.cell (cell_lt (w := w.drew) cb)).trans cb
  have c1 := (hb1.cell (cell_lt (w := w.drew) cc)).trans cc
  have d1 := (hb1.cell (cell_lt (w := w.drew) cd)).trans cd
  have HR := Lib.hid hrun
  have Hk1 := Lib.hid hk1
  clear hs hl hf hown hb1 hrun hk1
  go_enter Try.func66, Try.ntmps66
  go_wp2_with fail
  go_region_held3 (fun w' => w'.cell? a = some (.pointer (some ⟨p, 0, none⟩)) ∧ w'.cell? b = some (.slice A l.length n) ∧ w'.cell? c = some (.int .i64 part) ∧ w'.cell? d = some (.int .i64 many))
    (first | go_keep | exact ⟨a1, b1, c1, d1⟩ | exact ⟨a2, b2, c2, d2⟩)
    ((first
      | (refine step_append_run rfl _ _ _ rfl rfl rfl HR.out ?_)
      | (go_at_call 60; refine hcan.out.mono ?_; rintro e wz ⟨rfl, hk, hm⟩; have a2 := hk.cell hmap.out a1; have b2 := hk.cell hmap.out b1; have c2 := hk.cell hmap.out c1; have d2 := hk.cell hmap.out d1; have HK := Lib.hid hk; have HM := Lib.hid hm; clear hk hm)))
  go_wp2
  go_ret
  exact ⟨rfl, Hk1.out.trans HK.out, HM.out⟩
end Go.Proofs.Ytkmaapkbonkjfaa
namespace Go.Proofs.Ytkmaapkbonkjfaa
open Go.RowKit

def promiseFV (s : ShopR) (t : List Int) (part many : Int) : Value := .tuple #[.int .i64 (promiseF s t part many).1, .int .i64 (promiseF s t part many).2]
theorem promiseFV_eq {s : ShopR} {t : List Int} {part many a b : Int} (h : promiseF s t part many = (a, b)) : promiseFV s t part many = .tuple #[.int .i64 a, .int .i64 b] := by unfold promiseFV; rw [h]

theorem fit_more {s : ShopR} {t : List Int} (h : takenErr s t = 0) {part many : Int} {k : Nat} (hp : inB part 0 (s.parts.length - 1) = true) (hm : inB many 1 50 = true) (hk : k < s.hours.length) : Fit s (ofL s t ++ [⟨part, many, k, 0⟩]) := by
  obtain ⟨_, hg, hf, h8⟩ := fit_of h
  rw [inB_iff] at hp hm
  refine ⟨by simp [ofL]; omega, fun o ho => ?_⟩
  rcases List.mem_append.1 ho with ho | ho
  · exact hf.all o ho
  · simp at ho
    subst ho
    exact ⟨by simp; omega, hm, by simp; omega, by simp⟩

theorem promise_least {B : Nat} {w : World} {p bm : Nat} {s : ShopR} {l : List OrdR} {A : Option Addr} {n : Nat} (hs : ShopAt B w p bm s) (hl : Rd OrdAt 4 B w (.slice A l.length n) l) (hg : Good s) (part many : Int)
    (hf : ∀ k : Nat, k < s.hours.length → Fit s (l ++ [⟨part, many, k, 0⟩])) (hB : B ≤ w.heap.size) {a b c d : Addr} (ca : w.cell? a = some (.pointer (some ⟨p, 0, none⟩))) (cb : w.cell? b = some (.slice A l.length n)) (cc : w.cell? c = some (.int .i64 part)) (cd : w.cell? d = some (.int .i64 many)) :
    Calls Try.prog 65 #[.int .i64 s.hours.length, .func (.func 66) #[] #[.pointer (some a), .pointer (some b), .pointer (some c), .pointer (some d)]] w fun e w' =>
      e = .returned (.int .i64 (leastOf s.hours.length fun k => canB s (l ++ [⟨part, many, k, 0⟩]))) ∧ KeepM bm w w' ∧ MapAt (castP s) w' bm := by
  have hhlen := hg.hlen
  refine least66 s.hours.length (by omega) _ a b c d (fun w' => KeepM bm w w' ∧ MapAt (castP s) w' bm) w ⟨.refl _ _, hs.map⟩ fun k hk w1 h1 => ?_
  refine (c66_any (hs.keep h1.1 h1.2) (hl.keepM h1.1 hs.map) hg part many k (hf k hk) (Nat.le_trans hB h1.1.size) (h1.1.cell hs.map ca) (h1.1.cell hs.map cb) (h1.1.cell hs.map cc) (h1.1.cell hs.map cd)).mono ?_
  rintro e w' ⟨he, hk, hm⟩
  exact ⟨he, h1.1.trans hk, hm⟩

set_option maxRecDepth 100000 in
theorem ppromise_any {B : Nat} {w : World} {v vt : Value} {s : ShopR} {t : List Int} (h : Given B w v vt s t) (part many : Int) :
    Calls Try.prog 29 #[v, vt, .int .i64 part, .int .i64 many] w fun e w' => e = .returned (promiseFV s t part many) ∧ Below w.heap.size w w' := by
  obtain ⟨Ah, ch, Ap, cp, Ao, co, At_, ct, rfl, rfl⟩ := h.form
  obtain ⟨W, hW, c0, c1, c2, hz, hb, _⟩ := shop_box w (.slice Ah s.hours.length ch) (.slice Ap s.parts.length cp) (.slice Ao s.orders.length co)
  obtain ⟨W1, hW1, r1, z1, b1⟩ := box_any W #[.int .i64 part] 3
  obtain ⟨W2, hW2, r2, z2, b2⟩ := box_any W1 #[.int .i64 many] 3
  go_enter Try.func29, Try.ntmps29
  go_upto_region 1 with (fail)
  rw [← hW, ← hW1, ← hW2]
  have hb2 : Below w.heap.size w W2 := hb.trans ((b1.mono (by omega)).trans (b2.mono (by omega)))
  have c0 := ((b1.trans (b2.mono (by omega))).cell (cell_lt c0)).trans c0
  have c1 := ((b1.trans (b2.mono (by omega))).cell (cell_lt c1)).trans c1
  have c2 := ((b1.trans (b2.mono (by omega))).cell (cell_lt c2)).trans c2
  have d0 := cellOf ((b2.block _ (by omega)).trans r1) 0 (v := .int .i64 part) rfl
  have d1 := cellOf r2 0 (v := .int .i64 many) rfl
  rw [z1] at d1
  rw [hz] at d0 d1
  have hG := Lib.hid (h.below hb2)
  have Hb := Lib.hid hb2
  clear hW hW1 hW2 hz hb h r1 z1 b1 r2 z2 b2 hb2
  by_cases he : takenErr s t = 0
  · have hq := Lib.hid (enter_ok hG.out he)
    obtain ⟨_, hg, hf, _⟩ := fit_of he
    have He := Lib.hid he
    clear he
    go_upto_region 2 with (go_at_call 52; refine hq.out.mono ?_; rintro e wx ⟨p, bm, A, c, rfl, hE⟩; have c0 := (hE.bl.cell (cell_lt c0)).trans c0; have c1 := (hE.bl.cell (cell_lt c1)).trans c1; have c2 := (hE.bl.cell (cell_lt c2)).trans c2; have d0 := (hE.bl.cell (cell_lt d0)).trans d0; have d1 := (hE.bl.cell (cell_lt d1)).trans d1; have HE := Lib.hid hE; clear hE)
    obtain ⟨W3, hW3, r3, z3, b3⟩ := box_any wx #[.pointer (some ⟨p, 0, none⟩)] 84
    obtain ⟨W4, hW4, r4, z4, b4⟩ := box_any W3 #[.slice A t.length c] 24
    rw [← hW3, ← hW4]
    clear hW3 hW4
    have hb4 : Below wx.heap.size wx W4 := b3.trans (b4.mono (by omega))
    have c0 := (hb4.cell (cell_lt c0)).trans c0
    have c1 := (hb4.cell (cell_lt c1)).trans c1
    have c2 := (hb4.cell (cell_lt c2)).trans c2
    have d0 := (hb4.cell (cell_lt d0)).trans d0
    have d1 := (hb4.cell (cell_lt d1)).trans d1
    have d2 := cellOf ((b4.block _ (by omega)).trans r3) 0 (v := .pointer (some ⟨p, 0, none⟩)) rfl
    have d3 := cellOf r4 0 (v := .slice A t.length c) rfl
    rw [z3] at d3
    have hplen := hg.plen
    have hhlen := hg.hlen
    have HB4 := Lib.hid hb4
    clear hb4 b3 b4 r3 r4 z3 z4
    cases n1 : inB part 0 (s.parts.length - 1) with
    | false =>
      have e := Lib.hid (promiseFV_eq (s := s) (t := t) (part := part) (many := many) (a := 0) (b := 4) (by unfold promiseF; rw [if_neg (by simp [He.out]), if_pos n1]))
      have n1 := (outB_one 0 (s.parts.length - 1) part).trans (by rw [n1])
      go_wp2_with (go_at_call 44; refine (out1 _ _ _ _).mono ?_; rintro e wx ⟨rfl, hbx⟩; have HBX := Lib.hid hbx; clear hbx)
      go_ret2
      exact ⟨by rw [e.out]; rfl, Hb.out.trans ((HE.out.bl.trans ((HB4.out.trans (HBX.out.mono HB4.out.size)).mono HE.out.bl.size)).mono Hb.out.size)⟩
    | true =>
    cases n2 : inB many 1 50 with
    | false =>
      have e := Lib.hid (promiseFV_eq (s := s) (t := t) (part := part) (many := many) (a := 0) (b := 7) (by unfold promiseF; rw [if_neg (by simp [He.out]), if_neg (by simp [n1]), if_pos n2]))
      have n1 := (outB_one 0 (s.parts.length - 1) part).trans (by rw [n1])
      have n2 := (outB_one 1 50 many).trans (by rw [n2])
      have HX := Lib.hid (Below.refl W4.heap.size W4)
      go_wp2_with (go_at_call 44; refine (out1 _ _ _ _).mono ?_; rintro e wx ⟨rfl, hbx⟩; have d1 := (hbx.cell (cell_lt d1)).trans d1; have HX := Lib.hid (HX.out.trans (hbx.mono HX.out.size)); clear hbx)
      go_ret2
      exact ⟨by rw [e.out]; rfl, Hb.out.trans ((HE.out.bl.trans ((HB4.out.trans (HX.out.mono HB4.out.size)).mono HE.out.bl.size)).mono Hb.out.size)⟩
    | true =>
      have hfm : ∀ k, k < s.hours.length → Fit s (ofL s t ++ [⟨part, many, k, 0⟩]) := fun k hk => fit_more He.out n1 n2 hk
      have es : ∀ d, promiseL s (ofL s t) part many = some d → promiseFV s t part many = .tuple #[.int .i64 d, .int .i64 0] := fun d hd => promiseFV_eq (by unfold promiseF; rw [if_neg (by simp [He.out]), if_neg (by simp [n1]), if_neg (by simp [n2]), hd])
      have en : promiseL s (ofL s t) part many = none → promiseFV s t part many = .tuple #[.int .i64 0, .int .i64 9] := fun hd => promiseFV_eq (by unfold promiseF; rw [if_neg (by simp [He.out]), if_neg (by simp [n1]), if_neg (by simp [n2]), hd])
      have Es := Lib.hid es
      have En := Lib.hid en
      have n1 : outB 0 (s.parts.length - 1) [part] = false := by rw [outB_one, n1]; rfl
      have n2 : outB 1 50 [many] = false := by rw [outB_one, n2]; rfl
      have HX := Lib.hid (Below.refl W4.heap.size W4)
      clear es en
      go_upto_region 8 with (go_at_call 44; refine (out1 _ _ _ _).mono ?_; rintro e wo ⟨rfl, hbx⟩; have c0 := (hbx.cell (cell_lt c0)).trans c0; have d0 := (hbx.cell (cell_lt d0)).trans d0; have d1 := (hbx.cell (cell_lt d1)).trans d1; have d2 := (hbx.cell (cell_lt d2)).trans d2; have d3 := (hbx.cell (cell_lt d3)).trans d3; have HX := Lib.hid (HX.out.trans (hbx.mono HX.out.size)); clear hbx)
      have hbo : Below wx.heap.size wx wo := HB4.out.trans (HX.out.mono HB4.out.size)
      have hso := HE.out.shop.below hbo
      have hlo := HE.out.ls.below hbo
      have hsz := hbo.size
      have hle := promise_least hso (l := ofL s t) (A := A) (n := c) (by rw [ofL_len]; exact hlo) hg part many hfm hsz d2 (by rw [ofL_len]; exact d3) d0 d1
      have Hle := Lib.hid hle
      have hlt := cell_lt c0
      have hmap := Lib.hid hso.map
      have Hbo := Lib.hid hbo
      clear hle hso hlo hbo d0 d1 d2 d3
      cases hd : promiseL s (ofL s t) part many with
      | some d =>
        have hlv : leastOf s.hours.length (fun d => canB s (ofL s t ++ [⟨part, many, d, 0⟩])) = d := by unfold leastOf; rw [show fst? _ _ = some d from hd]; rfl
        have hdl : d < s.hours.length := (fst?_spec hd).1
        have e := Lib.hid (Es.out d hd)
        have hne : ((d : Int) == (s.hours.length : Int)) = false := by simp; omega
        rw [hlv] at Hle
        clear hd hlv
        go_wp2_with (go_at_call 65; refine Hle.out.mono ?_; rintro e wz ⟨rfl, hk, hm⟩; have c0 := hk.cell hmap.out c0; have HK := Lib.hid hk; clear hk hm)
        go_ret2
        exact ⟨by rw [e.out]; rfl, Hb.out.trans ((HE.out.after ((KeepM.of_below Hbo.out).trans HK.out)).mono Hb.out.size)⟩
      | none =>
        have hlv : leastOf s.hours.length (fun d => canB s (ofL s t ++ [⟨part, many, d, 0⟩])) = s.hours.length := by unfold leastOf; rw [show fst? _ _ = none from hd]; rfl
        have e := Lib.hid (En.out hd)
        rw [hlv] at Hle
        clear hd hlv
        go_wp2_with (go_at_call 65; refine Hle.out.mono ?_; rintro e wz ⟨rfl, hk, hm⟩; have c0 := hk.cell hmap.out c0; have HK := Lib.hid hk; clear hk hm)
        go_ret2
        exact ⟨by rw [e.out]; rfl, Hb.out.trans ((HE.out.after ((KeepM.of_below Hbo.out).trans HK.out)).mono Hb.out.size)⟩
  · have hq := Lib.hid (enter_bad hG.out he)
    have e := Lib.hid (promiseFV_eq (s := s) (t := t) (part := part) (many := many) (a := 0) (b := takenErr s t) (by unfold promiseF; rw [if_pos he]))
    have hne : (takenErr s t != 0) = true := by simpa using he
    clear he
    go_wp2_with (go_at_call 52; refine hq.out.mono ?_; rintro e wx ⟨rfl, hbx⟩)
    go_ret2
    exact ⟨by rw [e.out]; rfl, Hb.out.trans (((hbx.alloc hbx.size _).alloc (by have := hbx.size; simp; omega) _).mono Hb.out.size)⟩
end Go.Proofs.Ytkmaapkbonkjfaa
