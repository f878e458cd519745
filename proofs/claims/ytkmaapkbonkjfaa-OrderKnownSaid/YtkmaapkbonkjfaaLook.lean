/- Walks of the layer order: look, enter. -/
import Derived.Test.YtkmaapkbonkjfaaCheck
import Derived.Test.YtkmaapkbonkjfaaLate
import Derived.Test.YtkmaapkbonkjfaaAppend
namespace Go.Proofs.Ytkmaapkbonkjfaa
open Go.RowKit

theorem look_bad {B : Nat} {w : World} {v : Value} {s : ShopR} (hs : RdShop B w v s) (hn : ∀ p ∈ s.parts, p.name.size ≤ 9223372036854775807) (hB : B ≤ w.heap.size) (he : errOf s ≠ 0) :
    Calls Try.prog 68 #[v] w fun e w' => e = .returned (.tuple #[.pointer none, .int .i64 (errOf s)]) ∧ Below w.heap.size w w' := by
  have hs' := hs
  obtain ⟨vh, vp, vo, rfl, hh, hp, ho⟩ := hs'
  go_enter Try.func68, Try.ntmps68
  obtain ⟨W, hW, c0, c1, c2, hz, hb, _⟩ := shop_box w vh vp vo
  obtain ⟨Ah, ch, rfl, h1, h2, _⟩ := id hh
  obtain ⟨Ap, cp, rfl, h3, h4, _⟩ := id hp
  obtain ⟨Ao, co, rfl, h5, h6, _⟩ := id ho
  have hq := Lib.hid (pcheck_any (hs.below (hb.mono hB)) hn (by omega))
  go_upto_region 1 with (fail)
  rw [← hW]
  clear hW hs hz h1 h2 h3 h4 h5 h6
  have hb := Lib.hid hb
  unfold checkV at hq
  have hnb : ((check s).2.2 != 0) = true := by simpa [errOf] using he
  clear he hh hp ho
  go_wp2_with (go_at_call 16; refine hq.out.mono ?_; rintro e wx ⟨rfl, hbx⟩)
  go_ret2
  refine ⟨rfl, hb.out.trans (hbx.mono hb.out.size)⟩

set_option maxRecDepth 100000 in
/-- a shop that is looked at, whose own slices lie below B0, and all else from base on -/
structure ShopSep (B0 B1 base : Nat) (w : World) (p bm : Nat) (s : ShopR) : Prop where
  mem : ∃ vh vp vo vu, w.heap[p]? = some (.cells #[vh, vp, vo, vu, .map (some bm)] 125) ∧ Rd IntAt 1 B0 w vh s.hours ∧ Rd PartAt 4 B0 w vp s.parts ∧ Rd OrdAt 4 B0 w vo s.orders ∧ Rd IntAt 1 B1 w vu (ups s) ∧ SlFrom base vu
  map : MapAt (castP s) w bm
  hp : base ≤ p
  hb : base ≤ bm
theorem ShopSep.at_ {B0 B1 base : Nat} {w : World} {p bm : Nat} {s : ShopR} (h : ShopSep B0 B1 base w p bm s) (hB : B0 ≤ B1) : ShopAt B1 w p bm s := by
  obtain ⟨⟨vh, vp, vo, vu, hp, h1, h2, h3, h4, _⟩, hm, _, _⟩ := h
  exact ⟨⟨vh, vp, vo, vu, hp, h1.mono hB, h2.mono hB, h3.mono hB, h4⟩, hm⟩
theorem ShopSep.cells {B0 B1 base : Nat} {w w' : World} {p bm : Nat} {s : ShopR} (h : ShopSep B0 B1 base w p bm s) (hc : ∀ (b : Nat) (c : Array Value) (t : TypeId) (f : Nat × Nat), w.heap[b]? = some (.cells c t f) → w'.heap[b]? = some (.cells c t f)) (hm : MapAt (castP s) w' bm) : ShopSep B0 B1 base w' p bm s := by
  obtain ⟨⟨vh, vp, vo, vu, hp, h1, h2, h3, h4, h5⟩, _, g1, g2⟩ := h
  exact ⟨⟨vh, vp, vo, vu, hc _ _ _ _ hp, h1.stay fun b c e f _ k => hc _ _ _ _ k, h2.stay fun b c e f _ k => hc _ _ _ _ k, h3.stay fun b c e f _ k => hc _ _ _ _ k, h4.stay fun b c e f _ k => hc _ _ _ _ k, h5⟩, hm, g1, g2⟩
theorem ShopSep.below {B0 B1 base : Nat} {w w' : World} {p bm : Nat} {s : ShopR} (h : ShopSep B0 B1 base w p bm s) (hb : Below w.heap.size w w') : ShopSep B0 B1 base w' p bm s :=
  h.cells (fun b _ _ _ hc => (hb.block b (lt_of_block hc)).trans hc) (h.map.below hb)
theorem mapAt_setCell {c : (Nat → Int) → Nat → Int} {w : World} {b : Nat} (h : MapAt c w b) (p : Addr) (v : Value) : MapAt c (w.setCell p v) b := by
  obtain ⟨es, clk, hh, he⟩ := h
  refine ⟨es, clk, ?_, he⟩
  by_cases e : b = p.block
  · subst e
    simp [World.setCell, Array.getElem?_modify, hh]
  · exact (Below.heap_setCell w p v b e).trans hh
theorem ShopSep.setMid {B0 B1 base : Nat} {w : World} {p bm : Nat} {s : ShopR} (h : ShopSep B0 B1 base w p bm s) {q : Addr} (h1 : B0 ≤ q.block) (h2 : q.block < base) (v : Value) : ShopSep B0 B1 base (w.setCell q v) p bm s := by
  obtain ⟨⟨vh, vp, vo, vu, hp, a1, a2, a3, a4, a5⟩, hm, g1, g2⟩ := h
  refine ⟨⟨vh, vp, vo, vu, (Below.heap_setCell _ _ _ _ (by omega)).trans hp, a1.setCell h1 v, a2.setCell h1 v, a3.setCell h1 v, ?_, a5⟩, mapAt_setCell hm q v, g1, g2⟩
  obtain ⟨A, cap, e, b1, b2, b3⟩ := a4
  refine ⟨A, cap, e, b1, b2, fun i x hx => ?_⟩
  obtain ⟨ad, e2, hb, ha⟩ := b3 i x hx
  refine ⟨ad, e2, hb, AtKeep.keep w _ _ x (fun r hr => World.cell?_setCell_other w q r v (fun e3 => ?_)) ha⟩
  rw [block_add] at hr
  have := a5 ad _ _ (by rw [e, e2])
  subst e3
  omega

set_option maxRecDepth 100000 in
theorem look_sep {B : Nat} {w : World} {v : Value} {s : ShopR} (hs : RdShop B w v s) (hn : ∀ p ∈ s.parts, p.name.size ≤ 9223372036854775807) (hB : B ≤ w.heap.size) (he : errOf s = 0) :
    Calls Try.prog 68 #[v] w fun e w' => ∃ p bm, e = .returned (.tuple #[.pointer (some ⟨p, 0, none⟩), .int .i64 0]) ∧ Below w.heap.size w w' ∧ ShopSep B w'.heap.size w.heap.size w' p bm s := by
  have hg := good_of_valid he
  have hs' := hs
  obtain ⟨vh, vp, vo, rfl, hh, hp, ho⟩ := hs'
  go_enter Try.func68, Try.ntmps68
  obtain ⟨W, hW, c0, c1, c2, hz, hb, _⟩ := shop_box w vh vp vo
  obtain ⟨Ah, ch, rfl, h1, h2, _⟩ := id hh
  obtain ⟨Ap, cp, rfl, h3, h4, _⟩ := id hp
  obtain ⟨Ao, co, rfl, h5, h6, _⟩ := id ho
  have hq := Lib.hid (pcheck_any (hs.below (hb.mono hB)) hn (by omega))
  go_upto_region 1 with (fail)
  rw [← hW]
  clear hW hs hz h1 h2 h3 h4 h5 h6
  have Hb := Lib.hid hb
  clear hb
  unfold checkV at hq
  rw [show (check s).2.2 = 0 from he] at hq
  generalize (check s).2.1 = n2 at *
  generalize (check s).1 = n1 at *
  have Hh := Lib.hid hh
  have Hp := Lib.hid hp
  have Ho := Lib.hid ho
  have He := Lib.hid he
  clear he hh hp ho
  go_upto_region 4 with (go_at_call 16; refine hq.out.mono ?_; rintro e wx ⟨rfl, hbx⟩; have c0 := (hbx.cell (cell_lt c0)).trans c0; have c1 := (hbx.cell (cell_lt c1)).trans c1; have c2 := (hbx.cell (cell_lt c2)).trans c2)
  have hbw0 : w.heap.size < wx.heap.size := cell_lt c0
  have hmk : (Instr.makeMap 123 none).run Try.prog wx = .ok (.map (some wx.heap.size)) (wx.alloc (.map #[] 0)) := rfl
  go_upto_region 5 with (fail)
  obtain ⟨W2, hW2⟩ : ∃ W2, W2 = wx.alloc (.map #[] 0) := ⟨_, rfl⟩
  obtain ⟨W3, hW3, r3, z3, b3⟩ := box_any W2 #[.slice Ah s.hours.length ch, .slice Ap s.parts.length cp, .slice Ao s.orders.length co, .slice none 0 0, .map (some wx.heap.size)] 125
  have z2 : W2.heap.size = wx.heap.size + 1 := by rw [hW2]; simp
  have r2 : W2.heap[wx.heap.size]? = some (.map #[] 0) := by rw [hW2]; exact heap_alloc_new wx _
  have b2 : Below wx.heap.size wx W2 := by rw [hW2]; exact (Below.refl _ _).alloc (Nat.le_refl _) _
  rw [← hW2, ← hW3]
  have hsz1 := hbx.size
  have hsz0 := Hb.out.size
  have hB3 : Below w.heap.size w W3 := Hb.out.trans ((hbx.mono hsz0).trans ((b2.mono (by omega)).trans (b3.mono (by omega))))
  rw [z2] at r3 z3 b3
  have hh3 := Lib.hid (Hh.out.below (hB3.mono hB))
  have hp3 := Lib.hid (Hp.out.below (hB3.mono hB))
  have ho3 := Lib.hid (Ho.out.below (hB3.mono hB))
  have c0 := (b3.cell (by have := cell_lt c0; omega)).trans ((b2.cell (cell_lt c0)).trans c0)
  have hm3 := (b3.block _ (by omega)).trans r2
  obtain ⟨bm, hbm⟩ : ∃ bm, wx.heap.size = bm := ⟨_, rfl⟩
  rw [hbm] at r3 z3 hm3
  have hbw : w.heap.size < bm := by omega
  have hhl := hg.hlen
  have HG := Lib.hid hg
  have HB3 := Lib.hid hB3
  have R3 := Lib.hid r3
  have Z3 := Lib.hid z3
  have M3 := Lib.hid hm3
  have C0 := Lib.hid c0
  have HBW := Lib.hid hbw
  rw [hbm]
  clear hW2 hW3 z2 r2 b2 b3 hmk r3 z3 hm3 hB3 c1 c2 hbx hsz1 hsz0 hbm hg hq Hb hn hbw hbw0
  go_wp2
  clear c0
  go_loopw [8, 27] (fun n i wr => ∃ (k : Nat) (A : Option Addr) (c : Nat), k ≤ s.hours.length ∧ i = .int .i64 k ∧ n = .int .i64 (s.hours.take k).sum ∧
    wr.heap[bm + 1]? = some (.cells #[.slice Ah s.hours.length ch, .slice Ap s.parts.length cp, .slice Ao s.orders.length co, .slice A k c, .map (some bm)] 125) ∧ Own (bm + 2) 3 wr (.slice A k c) ((List.range k).map (worked s)) ∧
    Below (bm + 1) W3 wr ∧ k ≤ c ∧ c ≤ 9223372036854775807 ∧ bm + 2 ≤ wr.heap.size) (fun _ i _ => s.hours.length - (intOf i).toNat)
  case atStart => exact ⟨0, none, 0, Nat.zero_le _, rfl, by simp, R3.out, Own.nil _ _ _, Below.refl _ _, by omega, by omega, by have := Z3.out; omega⟩
  case round =>
    obtain ⟨k, A, c, hk, rfl, rfl, hp, hown, hbl, hc1, hc2, hszr⟩ := hrel
    by_cases hlt : k < s.hours.length
    · obtain ⟨ad, rfl, _, h0⟩ := (hh3.out.below (hbl.mono (by have := HBW.out; omega))).int hlt
      have hsum := Lib.hid (sum_take_succ hlt)
      have b1 := sum_take_bd HG.out k (by omega)
      have b2 := HG.out.hour hlt
      rw [List.getD_eq_getElem?_getD] at hsum b2
      obtain ⟨A', c', w2, hrun, hown', hbl', hsz', hc1', hc2'⟩ := append_int hown ((s.hours.take k).sum + s.hours[k]?.getD 0) (by simp; omega) hszr
      have hp' := (hbl'.block _ (by omega)).trans hp
      have p3 := cellOf hp 3 (v := .slice A k c) rfl
      have p3' := cellOf hp' 3 (v := .slice A k c) rfl
      have p3f : w2.frozen? ⟨bm + 1, 3, none⟩ = false := by simp [World.frozen?, hp']
      generalize s.hours[k]?.getD 0 = x at *
      generalize (s.hours.take k).sum = m at *
      rw [List.length_map, List.length_range] at hrun hown' hc1'
      have Hp' := Lib.hid hp'
      have Hown' := Lib.hid hown'
      have Hbl := Lib.hid (hbl.trans (hbl'.mono (by omega)))
      clear hp' hp hown hown' hbl hbl'
      go_wp2_with (at_builtin; refine wpList_append_run rfl _ _ _ rfl rfl rfl hrun ?_)
      go_roundw
      case rel =>
        refine ⟨k + 1, A', c', by omega, by go_num, by rw [hsum.out], ?_, ?_, ?_, hc1', hc2', by simpa [World.setCell] using hsz'⟩
        · simp [World.setCell, Array.getElem?_modify, Hp'.out]
        · rw [List.range_succ, List.map_append, show [k].map (worked s) = [m + x] by simp [worked, hsum.out]]
          exact Hown'.out.other (by simp) _
        · exact Hbl.out.setCell (p := ⟨bm + 1, 3, none⟩) (by simp) _
      case measure => simp [intOf]; omega
    · have hk2 : k = s.hours.length := by omega
      have hu : Rd IntAt 1 wr.heap.size wr (.slice A k c) (ups s) := by
        have := hown.rd
        rw [hk2] at this
        unfold ups
        rw [hk2]
        exact this
      have hHB := HBW.out
      have hBl := Hid.out HB3
      have hwr : Below w.heap.size w wr := hBl.trans (hbl.mono (by omega))
      have hshop : ShopSep B wr.heap.size w.heap.size wr (bm + 1) bm s := by
        refine ⟨⟨_, _, _, _, hp, ?_, ?_, ?_, hu, ?_⟩, ⟨#[], 0, (hbl.block _ (by omega)).trans M3.out, by simp⟩, by omega, by omega⟩
        · exact hh3.out.below (hbl.mono (by omega))
        · exact hp3.out.below (hbl.mono (by omega))
        · exact ho3.out.below (hbl.mono (by omega))
        · have := hown.from
          exact this.mono (by omega)
      have Hshop := Lib.hid hshop
      have Hwr := Lib.hid hwr
      clear hp hown hbl hu hshop hwr hBl
      go_wp2
      go_ret2
      exact ⟨bm + 1, bm, rfl, Hwr.out, Hshop.out⟩

theorem look_ok {B : Nat} {w : World} {v : Value} {s : ShopR} (hs : RdShop B w v s) (hn : ∀ p ∈ s.parts, p.name.size ≤ 9223372036854775807) (hB : B ≤ w.heap.size) (he : errOf s = 0) :
    Calls Try.prog 68 #[v] w fun e w' => ∃ p bm, e = .returned (.tuple #[.pointer (some ⟨p, 0, none⟩), .int .i64 0]) ∧ Below w.heap.size w w' ∧ ShopAt w'.heap.size w' p bm s ∧ w.heap.size ≤ p ∧ w.heap.size ≤ bm := by
  refine (look_sep hs hn hB he).mono ?_
  rintro e w' ⟨p, bm, h1, h2, h3⟩
  exact ⟨p, bm, h1, h2, h3.at_ (Nat.le_trans hB h2.size), h3.hp, h3.hb⟩
end Go.Proofs.Ytkmaapkbonkjfaa
