/- A shop that is looked at: what its memory holds; castings. -/
import Derived.Test.YtkmaapkbonkjfaaGMapL
import Derived.Test.YtkmaapkbonkjfaaGIter
import Derived.Deep.Cut
import Derived.BigRegion
import Derived.RegionTactic
set_option linter.unusedSimpArgs false
set_option linter.unusedVariables false
namespace Go.Proofs.Ytkmaapkbonkjfaa
open Go.RowKit

def castP (s : ShopR) (f : Nat → Int) (i : Nat) : Int := if i < s.parts.length then need (s.parts.getD i default) (f i) else 0
def ups (s : ShopR) : List Int := (List.range s.hours.length).map (worked s)

/-- all that there was is as it was, but for block bm -/
structure KeepM (bm : Nat) (w w' : World) : Prop where
  os : w'.os = w.os
  tape : w'.tape = w.tape
  output : w'.output = w.output
  size : w.heap.size ≤ w'.heap.size
  block : ∀ k, k < w.heap.size → k ≠ bm → w'.heap[k]? = w.heap[k]?
theorem KeepM.refl (bm : Nat) (w : World) : KeepM bm w w := ⟨rfl, rfl, rfl, Nat.le_refl _, fun _ _ _ => rfl⟩
theorem KeepM.trans {bm : Nat} {a b c : World} (h : KeepM bm a b) (k : KeepM bm b c) : KeepM bm a c :=
  ⟨k.os.trans h.os, k.tape.trans h.tape, k.output.trans h.output, Nat.le_trans h.size k.size, fun i hi hn => (k.block i (Nat.lt_of_lt_of_le hi h.size) hn).trans (h.block i hi hn)⟩
theorem KeepM.of_below {bm : Nat} {w w' : World} (h : Below w.heap.size w w') : KeepM bm w w' := ⟨h.os, h.tape, h.output, h.size, fun k hk _ => h.block k hk⟩
theorem KeepM.below {bm B : Nat} {w w' : World} (h : KeepM bm w w') (hB : B ≤ w.heap.size) (hb : B ≤ bm) : Below B w w' := ⟨h.os, h.tape, h.output, h.size, fun k hk => h.block k (by omega) (by omega)⟩
theorem KeepM.stay {bm : Nat} {w w' : World} (h : KeepM bm w w') {es : Array MapEntry} {clk : Nat} (hm : w.heap[bm]? = some (.map es clk)) {b : Nat} {c : Array Value} {e : TypeId} {f : Nat × Nat} (hb : w.heap[b]? = some (.cells c e f)) : w'.heap[b]? = some (.cells c e f) := by
  refine (h.block b (lt_of_block hb) fun he => ?_).trans hb
  subst he
  rw [hm] at hb
  cases hb
theorem KeepM.nc {bm : Nat} {w w' : World} (h : KeepM bm w w') {es : Array MapEntry} {clk : Nat} (hm : w.heap[bm]? = some (.map es clk)) : NC w w' := fun b o ho hd => by
  refine (h.block b (lt_of_block ho) fun he => ?_).trans ho
  subst he
  rw [hm] at ho
  cases ho
  cases hd

structure ShopAt (B : Nat) (w : World) (p bm : Nat) (s : ShopR) : Prop where
  mem : ∃ vh vp vo vu, w.heap[p]? = some (.cells #[vh, vp, vo, vu, .map (some bm)] 125) ∧ Rd IntAt 1 B w vh s.hours ∧ Rd PartAt 4 B w vp s.parts ∧ Rd OrdAt 4 B w vo s.orders ∧ Rd IntAt 1 B w vu (ups s)
  map : MapAt (castP s) w bm
theorem ShopAt.keep {B : Nat} {w w' : World} {p bm : Nat} {s : ShopR} (h : ShopAt B w p bm s) (k : KeepM bm w w') (hm : MapAt (castP s) w' bm) : ShopAt B w' p bm s := by
  obtain ⟨⟨vh, vp, vo, vu, hp, h1, h2, h3, h4⟩, es, clk, hh, _⟩ := h
  have hs : ∀ (b : Nat) (c : Array Value) (e : TypeId) (f : Nat × Nat), b < B → w.heap[b]? = some (.cells c e f) → w'.heap[b]? = some (.cells c e f) := fun b c e f _ hb => k.stay hh hb
  exact ⟨⟨vh, vp, vo, vu, k.stay hh hp, h1.stay hs, h2.stay hs, h3.stay hs, h4.stay hs⟩, hm⟩
theorem MapAt.below {c : (Nat → Int) → Nat → Int} {w w' : World} {b : Nat} (h : MapAt c w b) (hb : Below w.heap.size w w') : MapAt c w' b := by
  obtain ⟨es, clk, hh, he⟩ := h
  exact ⟨es, clk, (hb.block b (lt_of_block hh)).trans hh, he⟩
theorem ShopAt.below {B : Nat} {w w' : World} {p bm : Nat} {s : ShopR} (h : ShopAt B w p bm s) (hb : Below w.heap.size w w') : ShopAt B w' p bm s := h.keep (.of_below hb) (h.map.below hb)

/-- block b holds three numbers -/
def ArrAt (w : World) (b : Nat) (f : Nat → Int) : Prop := w.heap[b]? = some (.cells #[.int .i64 (f 0), .int .i64 (f 1), .int .i64 (f 2)] 93)
theorem ArrAt.cell {w : World} {b : Nat} {f : Nat → Int} (h : ArrAt w b f) {i : Nat} (hi : i < 3) : w.cell? ⟨b, i, none⟩ = some (.int .i64 (f i)) := by
  match i, hi with
  | 0, _ => exact cellOf h 0 rfl
  | 1, _ => exact cellOf h 1 rfl
  | 2, _ => exact cellOf h 2 rfl
theorem ArrAt.frozen {w : World} {b : Nat} {f : Nat → Int} (h : ArrAt w b f) (i : Nat) : w.frozen? ⟨b, i, none⟩ = false := by
  unfold ArrAt at h
  simp [World.frozen?, h]
theorem ArrAt.below {w w' : World} {b : Nat} {f : Nat → Int} (h : ArrAt w b f) (hb : Below w.heap.size w w') : ArrAt w' b f := (hb.block b (lt_of_block h)).trans h
theorem ArrAt.other {w : World} {b : Nat} {f : Nat → Int} (h : ArrAt w b f) {p : Addr} (hp : b ≠ p.block) (v : Value) : ArrAt (w.setCell p v) b f := (Below.heap_setCell w p v b hp).trans h
theorem ArrAt.set_ {w : World} {b : Nat} {f : Nat → Int} (h : ArrAt w b f) {i : Nat} (hi : i < 3) (v : Int) : ArrAt (w.setCell ⟨b, i, none⟩ (.int .i64 v)) b (fun j => if j = i then v else f j) := by
  unfold ArrAt at h ⊢
  simp only [World.setCell, Array.getElem?_modify, h, if_true, Option.map_some]
  match i, hi with
  | 0, _ => simp
  | 1, _ => simp
  | 2, _ => simp
theorem ArrAt.congr {w : World} {b : Nat} {f g : Nat → Int} (h : ArrAt w b f) (e : ∀ i, i < 3 → f i = g i) : ArrAt w b g := by
  unfold ArrAt at h ⊢
  rw [h, e 0 (by omega), e 1 (by omega), e 2 (by omega)]

theorem load_arr {w : World} {b : Nat} {f : Nat → Int} (h : ArrAt w b f) : (Instr.loadAt 93 (.pointer (some ⟨b, 0, none⟩))).run Try.prog w = .ok (encP f) w := by
  have h0 := h.cell (i := 0) (by omega)
  have h1 := h.cell (i := 1) (by omega)
  have h2 := h.cell (i := 2) (by omega)
  simp [go_sem, h0, h1, h2, encP]
theorem results83 {w : World} {b : Nat} {f : Nat → Int} {tmps : Array Value} (h : ArrAt w b f) (ht : tmps.getD 4 undef = .pointer (some ⟨b, 0, none⟩)) : (results Try.f83 tmps).run Try.prog w = .ok (encP f) w := by
  have h0 := h.cell (i := 0) (by omega)
  have h1 := h.cell (i := 1) (by omega)
  have h2 := h.cell (i := 2) (by omega)
  have ht' : tmps[4]?.getD undef = .pointer (some ⟨b, 0, none⟩) := by simpa using ht
  simp [results, Try.results83, ht', go_sem, h0, h1, h2, encP]
theorem ArrAt.set3 {w : World} {b : Nat} {f g : Nat → Int} (h : ArrAt w b f) : ArrAt (((w.setCell ⟨b, 0, none⟩ (.int .i64 (g 0))).setCell ⟨b, 1, none⟩ (.int .i64 (g 1))).setCell ⟨b, 2, none⟩ (.int .i64 (g 2))) b g := by
  refine (((h.set_ (i := 0) (by omega) (g 0)).set_ (i := 1) (by omega) (g 1)).set_ (i := 2) (by omega) (g 2)).congr fun i hi => ?_
  match i, hi with
  | 0, _ => simp
  | 1, _ => simp
  | 2, _ => simp
theorem set3_below {B : Nat} {a w : World} (h : Below B a w) {b : Nat} (hb : B ≤ b) (x y z : Value) : Below B a (((w.setCell ⟨b, 0, none⟩ x).setCell ⟨b, 1, none⟩ y).setCell ⟨b, 2, none⟩ z) :=
  ((h.setCell (p := ⟨b, 0, none⟩) hb x).setCell (p := ⟨b, 1, none⟩) hb y).setCell (p := ⟨b, 2, none⟩) hb z
theorem set3_heap (w : World) {b k : Nat} (hk : k ≠ b) (x y z : Value) : (((w.setCell ⟨b, 0, none⟩ x).setCell ⟨b, 1, none⟩ y).setCell ⟨b, 2, none⟩ z).heap[k]? = w.heap[k]? := by
  rw [Below.heap_setCell _ _ _ _ (by simpa using hk), Below.heap_setCell _ _ _ _ (by simpa using hk), Below.heap_setCell _ _ _ _ (by simpa using hk)]
theorem set3_size (w : World) (b : Nat) (x y z : Value) : (((w.setCell ⟨b, 0, none⟩ x).setCell ⟨b, 1, none⟩ y).setCell ⟨b, 2, none⟩ z).heap.size = w.heap.size := by
  simp [World.setCell]
theorem castP_congr {s : ShopR} {f g : Nat → Int} (e : encP f = encP g) : encP (castP s f) = encP (castP s g) := by
  unfold encP at e ⊢
  simp only [Value.agg.injEq, Array.mk.injEq, List.cons.injEq, Value.int.injEq, true_and, and_true] at e
  simp [castP, e.1, e.2.1, e.2.2]

set_option maxHeartbeats 1000000 in
/-- the castings are known -/
theorem castings_yes {B : Nat} {w : World} {p bm : Nat} {s : ShopR} (hs : ShopAt B w p bm s) (f h : Nat → Int)
    (hl : ∀ wx : World, wx.heap[bm]? = w.heap[bm]? → (Instr.lookup 123 (.map (some bm)) (encP f) true).run Try.prog wx = .ok (.tuple #[encP h, .bool true]) wx) :
    Calls Try.prog 83 #[.pointer (some ⟨p, 0, none⟩), encP f] w fun e w' => e = .returned (encP h) ∧ KeepM bm w w' ∧ MapAt (castP s) w' bm := by
  obtain ⟨W1, hW1, r1, z1, b1⟩ := box_any w #[.int .i64 (f 0), .int .i64 (f 1), .int .i64 (f 2)] 93
  obtain ⟨W2, hW2, r2, z2, b2⟩ := box_any W1 #[.int .i64 0, .int .i64 0, .int .i64 0] 93
  have hb : Below w.heap.size w W2 := b1.trans (b2.mono (by omega))
  have hs2 := hs.below hb
  have hsm := hs.map
  obtain ⟨⟨vh, vp, vo, vu, hp, _⟩, es, clk, hmm, _⟩ := id hs2
  have hA : ArrAt W2 w.heap.size f := (b2.block _ (by omega)).trans r1
  have c0 := hA.cell (i := 0) (by omega)
  have c1 := hA.cell (i := 1) (by omega)
  have c2 := hA.cell (i := 2) (by omega)
  rw [z1] at r2
  have hR : ArrAt W2 (w.heap.size + 1) (fun _ => 0) := r2
  have m4 := cellOf hp 4 (v := .map (some bm)) rfl
  have hmb : W2.heap[bm]? = w.heap[bm]? := by
    obtain ⟨es, clk, hh, _⟩ := hs.map
    exact hb.block _ (lt_of_block hh)
  have l1 := hl W2.drew hmb
  have l2 : ∀ o, (Instr.lookup 123 (.map (some bm)) (encP f) true).run Try.prog (W2.alloc o).drew = .ok (.tuple #[encP h, .bool true]) (W2.alloc o).drew := fun o => hl _ ((Below.heap_alloc W2 o bm (lt_of_block hmm)).trans hmb)
  unfold encP at l1 l2
  rw [z1] at z2
  have hplt : p < w.heap.size + 1 + 1 := by rw [← z2]; exact lt_of_block hp
  have k0 := hR.cell (i := 0) (by omega)
  have k1 := hR.cell (i := 1) (by omega)
  have k2 := hR.cell (i := 2) (by omega)
  have kf0 := hR.frozen 0
  have kf1 := hR.frozen 1
  have kf2 := hR.frozen 2
  have Hs := Lib.hid hs2
  have HR := Lib.hid hR
  unfold encP
  go_enter Try.func83, Try.ntmps83
  go_upto_region 1 with (fail)
  rw [← hW1, ← hW2]
  clear hW2 hW1 r1 b1 hs r2 b2 hp z1 hs2 hA hmm hmb hl hR
  go_region
  go_wp2
  have hbf := set3_below hb (b := w.heap.size + 1) (by omega) (.int .i64 (h 0)) (.int .i64 (h 1)) (.int .i64 (h 2))
  have hbg := (hbf.alloc hbf.size (.cells #[.int .i64 (h 0), .int .i64 (h 1), .int .i64 (h 2)] 93)).drew
  exact bodyPost_ret (results83 (ArrAt.below (HR.out.set3 (g := h)) ((Below.refl _ _).alloc (Nat.le_refl _) _).drew) rfl) rfl ⟨rfl, .of_below hbg, hsm.below hbg⟩

set_option maxHeartbeats 1000000 in
/-- the castings are not known -/
theorem castings_no {B : Nat} {w : World} {p bm : Nat} {s : ShopR} (hs : ShopAt B w p bm s) (hg : Good s) (f : Nat → Int) (hf : ∀ i, i < 3 → 0 ≤ f i ∧ f i ≤ 450) (hB : B ≤ w.heap.size)
    (hl : ∀ wx : World, wx.heap[bm]? = w.heap[bm]? → (Instr.lookup 123 (.map (some bm)) (encP f) true).run Try.prog wx = .ok (.tuple #[encP fun _ => 0, .bool false]) wx) :
    Calls Try.prog 83 #[.pointer (some ⟨p, 0, none⟩), encP f] w fun e w' => e = .returned (encP (castP s f)) ∧ KeepM bm w w' ∧ MapAt (castP s) w' bm := by
  obtain ⟨W1, hW1, r1, z1, b1⟩ := box_any w #[.int .i64 (f 0), .int .i64 (f 1), .int .i64 (f 2)] 93
  obtain ⟨W2, hW2, r2, z2, b2⟩ := box_any W1 #[.int .i64 0, .int .i64 0, .int .i64 0] 93
  have hb : Below w.heap.size w W2 := b1.trans (b2.mono (by omega))
  have hplen := hg.plen
  obtain ⟨⟨vh, vp, vo, vu, hp, h1, h2, h3, h4⟩, hmap⟩ := id hs
  obtain ⟨es, clk, hmm, _⟩ := id hmap
  obtain ⟨A, cap, rfl, _, _, _⟩ := id h2
  have hplt0 := lt_of_block hp
  have hmlt := lt_of_block hmm
  have hp2 := (hb.block p hplt0).trans hp
  have hA : ArrAt W2 w.heap.size f := (b2.block _ (by omega)).trans r1
  have c0 := hA.cell (i := 0) (by omega)
  have c1 := hA.cell (i := 1) (by omega)
  have c2 := hA.cell (i := 2) (by omega)
  rw [z1] at r2
  have hR : ArrAt W2 (w.heap.size + 1) (fun _ => 0) := r2
  have m1 := cellOf hp2 1 (v := .slice A s.parts.length cap) rfl
  have m4 := cellOf hp2 4 (v := .map (some bm)) rfl
  have hmb : W2.heap[bm]? = w.heap[bm]? := hb.block _ hmlt
  have l1 := hl W2.drew hmb
  have l2 : ∀ o, (Instr.lookup 123 (.map (some bm)) (encP f) true).run Try.prog (W2.alloc o).drew = .ok (.tuple #[encP fun _ => 0, .bool false]) (W2.alloc o).drew := fun o => hl _ ((Below.heap_alloc W2 o bm (by omega)).trans hmb)
  unfold encP at l1 l2
  rw [z1] at z2
  have hplt : p < w.heap.size + 1 + 1 := by omega
  have HA := Lib.hid hA
  have HR := Lib.hid hR
  have Hf := Lib.hid hf
  have Hl := Lib.hid hl
  have Hmap := Lib.hid hmap
  unfold encP
  go_enter Try.func83, Try.ntmps83
  go_upto_region 1 with (fail)
  rw [← hW1, ← hW2]
  clear hW2 hW1 r1 b1 hs r2 b2 z1 hA hmm hmb hl hR hf hmap h1 h3 h4
  go_region
  clear l1 l2
  obtain ⟨W3, hW3, r3, z3, b3⟩ := box_any W2 #[.int .i64 0, .int .i64 0, .int .i64 0] 93
  have m1 := (b3.cell (cell_lt m1)).trans m1
  rw [← hW3]
  have HC := Lib.hid (show ArrAt W3.drew (w.heap.size + 1 + 1) (fun i => if i < 0 then castP s f i else 0) from by rw [← z2]; exact ArrAt.congr (f := fun _ => 0) r3 (by simp))
  have HA3 := Lib.hid (show ArrAt W3.drew w.heap.size f from HA.out.below b3.drew)
  have HR3 := Lib.hid (show ArrAt W3.drew (w.heap.size + 1) (fun _ => 0) from HR.out.below b3.drew)
  have HB3 := Lib.hid (show Below w.heap.size w W3.drew from (hb.trans (b3.mono hb.size)).drew)
  clear hW3 HA HR b3 hb r3 z3 c0 c1 c2 m4
  go_wp2
  go_loopw [26] (fun i wr => ∃ k : Nat, k ≤ s.parts.length ∧ i = .int .i64 k ∧ ArrAt wr w.heap.size f ∧ ArrAt wr (w.heap.size + 1) (fun _ => 0) ∧ ArrAt wr (w.heap.size + 1 + 1) (fun i => if i < k then castP s f i else 0) ∧ Below w.heap.size w wr) (fun i _ => s.parts.length - (intOf i).toNat)
  case atStart => exact ⟨0, Nat.zero_le _, rfl, HA3.out, HR3.out, HC.out, HB3.out⟩
  case round =>
    clear HA3 HR3 HC HB3 m1
    obtain ⟨k, hk, rfl, hA, hR, hC, hbr⟩ := hrel
    by_cases hlt : k < s.parts.length
    · obtain ⟨ad, rfl, had, p0, p1, p2, p3⟩ := (h2.below (hbr.mono hB)).part hlt
      have hpok := hg.part hlt
      have hfk := Hf.out k (by omega)
      have hck : castP s f k = need (s.parts.getD k default) (f k) := by unfold castP; rw [if_pos hlt]
      rw [List.getD_eq_getElem?_getD] at hpok hck
      have e1 := hA.cell (i := k) (by omega)
      have e2 := hC.cell (i := k) (by omega)
      have e3 := hC.frozen k
      have e4 := lt_of_block hC
      have e5 := lt_of_block hA
      have e6 := cell_lt p0
      obtain ⟨q1, q2⟩ := hpok.batch
      obtain ⟨q3, q4⟩ := hpok.long
      obtain ⟨q5, q6⟩ := hpok.stock
      obtain ⟨q7, q8⟩ := hfk
      have HCK := Lib.hid hck
      have Hh2 := Lib.hid h2
      generalize f k = n at *
      generalize s.parts[k]?.getD default = pp at *
      have HA := Lib.hid hA
      have HR := Lib.hid hR
      have HC := Lib.hid hC
      clear hpok hck h2 hA hR hC
      go_wp2
      go_region
      go_wp2
      have hv : (if 1 < n - pp.stock + pp.batch then n - pp.stock + pp.batch - 1 else 0) / pp.batch = castP s f k := by
        rw [HCK.out]
        unfold need
        congr 1
        split <;> omega
      rw [hv]
      clear hv
      go_roundw
      case rel =>
        refine ⟨k + 1, by omega, by go_num, ?_, ?_, ?_, ?_⟩
        · exact ArrAt.below (HA.out.other (p := ⟨_, _, none⟩) (by simp; omega) _) ((Below.refl _ _).alloc (Nat.le_refl _) _).drew
        · exact ArrAt.below (HR.out.other (p := ⟨_, _, none⟩) (by simp) _) ((Below.refl _ _).alloc (Nat.le_refl _) _).drew
        · refine ArrAt.below (ArrAt.congr (HC.out.set_ (i := k) (by omega) (castP s f k)) fun j _ => ?_) ((Below.refl _ _).alloc (Nat.le_refl _) _).drew
          by_cases hj : j = k
          · subst hj; simp
          · simp only [hj, if_false]
            by_cases hj2 : j < k
            · rw [if_pos hj2, if_pos (by omega)]
            · rw [if_neg hj2, if_neg (by omega)]
        · exact ((hbr.setCell (p := ⟨_, _, none⟩) (by simp; omega) _).alloc (by simp; exact hbr.size) _).drew
      case measure => simp [intOf]; omega
    · have hC2 : ArrAt wr (w.heap.size + 1 + 1) (castP s f) := hC.congr fun i hi => by
        by_cases h : i < k
        · rw [if_pos h]
        · rw [if_neg h]; unfold castP; rw [if_neg (by omega)]
      have hmr := Hmap.out.below hbr
      obtain ⟨es', clk', hU, hes'⟩ := update_run hmr f rfl
      have u1 := hU wr.drew rfl
      have hp9 := (hbr.block p hplt0).trans hp
      have m9 := cellOf hp9 4 (v := .map (some bm)) rfl
      have a0 := hA.cell (i := 0) (by omega)
      have a1 := hA.cell (i := 1) (by omega)
      have a2 := hA.cell (i := 2) (by omega)
      have d0 := hC2.cell (i := 0) (by omega)
      have d1 := hC2.cell (i := 1) (by omega)
      have d2 := hC2.cell (i := 2) (by omega)
      have hz9 := lt_of_block hC2
      unfold encP at u1
      have HA := Lib.hid hA
      have HR := Lib.hid hR
      have HC := Lib.hid hC2
      have Hmr := Lib.hid hmr
      clear hA hR hC hC2 hU hmr h2 hp hp2 hp9
      go_upto_region 8 with (fail)
      go_region
      obtain ⟨W5, hW5⟩ : ∃ W5, W5 = wr.drew.putObj bm (.map es' clk') := ⟨_, rfl⟩
      rw [← hW5]
      have hcells : ∀ b g, ArrAt wr b g → ArrAt W5 b g := fun b g hg => by
        rw [hW5]
        refine (World.putObj_heap_other (fun e => ?_)).trans hg
        obtain ⟨es, clk, hh, _⟩ := Hmr.out
        subst e
        unfold ArrAt at hg
        rw [hg] at hh
        cases hh
      have HR5 := Lib.hid (hcells _ _ HR.out)
      have HC5 := hcells _ _ HC.out
      have hk5 := Lib.hid (show KeepM bm w W5 by
        rw [hW5]
        exact ⟨hbr.os, hbr.tape, hbr.output, by simpa using hbr.size, fun k hk hn => (World.putObj_heap_other hn).trans (hbr.block k hk)⟩)
      have hm5 := Lib.hid (show MapAt (castP s) W5 bm from ⟨es', clk', by rw [hW5]; exact World.putObj_heap_same (show bm < wr.heap.size by omega), hes'⟩)
      have hz5 : W5.heap.size = wr.heap.size := by rw [hW5]; simp
      clear hW5 u1 hcells a0 a1 a2 d0 d1 d2 m9
      have d0 := HC5.cell (i := 0) (by omega)
      have d1 := HC5.cell (i := 1) (by omega)
      have d2 := HC5.cell (i := 2) (by omega)
      have k0 := HR5.out.cell (i := 0) (by omega)
      have k1 := HR5.out.cell (i := 1) (by omega)
      have k2 := HR5.out.cell (i := 2) (by omega)
      have kf0 := HR5.out.frozen 0
      have kf1 := HR5.out.frozen 1
      have kf2 := HR5.out.frozen 2
      clear HC5
      go_wp2
      refine bodyPost_ret (results83 (HR5.out.set3 (g := castP s f)) rfl) rfl ⟨rfl, ⟨hk5.out.os, hk5.out.tape, hk5.out.output, ?_, fun k hk hn => ?_⟩, ?_⟩
      · rw [set3_size]; exact hk5.out.size
      · rw [set3_heap _ (by omega)]; exact hk5.out.block k hk hn
      · obtain ⟨es, clk, hh, he⟩ := hm5.out
        exact ⟨es, clk, by rw [set3_heap _ (by omega)]; exact hh, he⟩

theorem castings_any {B : Nat} {w : World} {p bm : Nat} {s : ShopR} (hs : ShopAt B w p bm s) (hg : Good s) (f : Nat → Int) (hf : ∀ i, i < 3 → 0 ≤ f i ∧ f i ≤ 450) (hB : B ≤ w.heap.size) :
    Calls Try.prog 83 #[.pointer (some ⟨p, 0, none⟩), encP f] w fun e w' => e = .returned (encP (castP s f)) ∧ KeepM bm w w' ∧ MapAt (castP s) w' bm := by
  obtain ⟨v, ok, hl, ⟨rfl, g, hgf, rfl⟩ | ⟨rfl, rfl⟩⟩ := lookup_run hs.map f
  · rw [castP_congr hgf] at hl
    exact castings_yes hs f _ hl
  · exact castings_no hs hg f hf hB hl
end Go.Proofs.Ytkmaapkbonkjfaa
