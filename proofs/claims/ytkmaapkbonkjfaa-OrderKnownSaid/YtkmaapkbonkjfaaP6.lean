/- Walks of the layer order: the closure of Promise. -/
import Derived.Test.YtkmaapkbonkjfaaP5
namespace Go.Proofs.Ytkmaapkbonkjfaa
open Go.RowKit

theorem ShopAt.mono {B B' : Nat} {w : World} {p bm : Nat} {s : ShopR} (h : ShopAt B w p bm s) (hB : B ≤ B') : ShopAt B' w p bm s := by
  obtain ⟨⟨vh, vp, vo, vu, hp, h1, h2, h3, h4⟩, hm⟩ := h
  exact ⟨⟨vh, vp, vo, vu, hp, h1.mono hB, h2.mono hB, h3.mono hB, h4.mono hB⟩, hm⟩

set_option maxHeartbeats 1000000 in
set_option maxRecDepth 100000 in
theorem c66_any {B : Nat} {w : World} {p bm : Nat} {s : ShopR} {l : List OrdR} {A : Option Addr} {n : Nat} (hs : ShopAt B w p bm s) (hl : Rd OrdAt 4 B w (.slice A l.length n) l) (hg : Good s) (part many : Int) (k : Nat)
    (hf : Fit s (l ++ [⟨part, many, k, 0⟩])) (hB : B ≤ w.heap.size) {a b c d : Addr} (ca : w.cell? a = some (.pointer (some ⟨p, 0, none⟩))) (cb : w.cell? b = some (.slice A l.length n)) (cc : w.cell? c = some (.int .i64 part)) (cd : w.cell? d = some (.int .i64 many)) :
    Calls Try.prog 66 #[.int .i64 k, .pointer (some a), .pointer (some b), .pointer (some c), .pointer (some d)] w fun e w' => e = .returned (.bool (canB s (l ++ [⟨part, many, k, 0⟩]))) ∧ KeepM bm w w' ∧ MapAt (castP s) w' bm := by
  have hn : l.length ≤ n ∧ l.length ≤ 1000 := by
    obtain ⟨A0, c0, e0, h1, _⟩ := hl
    injection e0 with e1 e2 e3
    subst e3
    have := hf.len
    simp at this
    exact ⟨h1, by omega⟩
  obtain ⟨hn1, hn2⟩ := hn
  obtain ⟨A', c', w1, hrun, hown, hb1⟩ := append_over (w := w.drew) (hl.qt ⟨1, rfl⟩) ⟨part, many, k, 0⟩ hn2 hB
  have hcan := Lib.hid (pcan_any (((hs.below (w' := w.drew) (Below.refl _ _).drew).below hb1).mono (show B ≤ w1.heap.size from Nat.le_trans hB hb1.size)) hown.rd hg hf (Nat.le_refl _))
  have hk1 : KeepM bm w w1 := (KeepM.of_below (Below.refl _ _).drew).trans (.of_below hb1)
  have hsl := slice3_ords A l.length n hn1
  have hmap := Lib.hid (hs.map.below (w' := w.drew) (Below.refl _ _).drew |>.below hb1)
  have a1 := (hb1.cell (cell_lt (w := w.drew) ca)).trans ca
  have b1 := (hb1.cell (cell_lt (w := w.drew) cb)).trans cb
  have c1 := (hb1.cell (cell_lt (w := w.drew) cc)).trans cc
  have d1 := (hb1.cell (cell_lt (w := w.drew) cd)).trans cd
  have HR := Lib.hid hrun
  have Hk1 := Lib.hid hk1
  clear hs hl hf hown hb1 hrun hk1
  go_enter Try.func66, Try.ntmps66
  go_wp2_with fail
  go_region_held3 (fun w' => w'.cell? a = some (.pointer (some ⟨p, 0, none⟩)) ∧ w'.cell? b = some (.slice A l.length n) ∧ w'.cell? c = some (.int .i64 part) ∧ w'.cell? d = some (.int .i64 many))
    (first | go_keep | exact ⟨a1, b1, c1, d1⟩ | exact ⟨a2, b2, c2, d2⟩)
    ((first
      | (refine step_append_run rfl _ _ _ rfl rfl rfl HR.out ?_)
      | (go_at_call 60; refine hcan.out.mono ?_; rintro e wz ⟨rfl, hk, hm⟩; have a2 := hk.cell hmap.out a1; have b2 := hk.cell hmap.out b1; have c2 := hk.cell hmap.out c1; have d2 := hk.cell hmap.out d1; have HK := Lib.hid hk; have HM := Lib.hid hm; clear hk hm)))
  go_wp2
  go_ret
  exact ⟨rfl, Hk1.out.trans HK.out, HM.out⟩
end Go.Proofs.Ytkmaapkbonkjfaa
