/- Parts of the proof of TpP: CoK, CoL, Sort, CoT, CoR. -/
import Derived.Test.YthnimhnlnddnoaaGreatDoorH42
import Derived.WalkKit
import Derived.Deep.Quiet
import Derived.WalkMore
import Derived.Shelf.SortM.Plain
import Derived.Test.YthnimhnlnddnoaaGreatDoorProg
set_option linter.unusedSimpArgs false
set_option linter.unusedVariables false
set_option maxRecDepth 100000
set_option maxHeartbeats 8000000
namespace Go.Proofs.YthnimhnlnddnoaaGreatDoor
open Go.RowKit Go.Shelf
def cosC (b : Nat) (lvV mv fxV : Value) (tn : Nat) : Array Value := #[.pointer (some ⟨b, 0, none⟩), lvV, mv, fxV, .int .i64 tn]
structure KeepH (h : Nat) (w w' : World) : Prop where
 os : w'.os = w.os
 tape : w'.tape = w.tape
 output : w'.output = w.output
 size : w.heap.size ≤ w'.heap.size
 keep : ∀ k, k < w.heap.size → k ≠ h → w'.heap[k]? = w.heap[k]?
theorem KeepH.trans {h : Nat} {x y z : World} (a : KeepH h x y) (k : KeepH h y z) : KeepH h x z :=
 ⟨k.os.trans a.os, k.tape.trans a.tape, k.output.trans a.output, Nat.le_trans a.size k.size, fun i h1 h2 => (k.keep i (by have := a.size; omega) h2).trans (a.keep i h1 h2)⟩
theorem KeepH.of_below {h : Nat} {w w' : World} (b : Below w.heap.size w w') : KeepH h w w' := ⟨b.os, b.tape, b.output, b.size, fun k hk _ => b.block k hk⟩
theorem KeepH.below {h : Nat} {w w' : World} (k : KeepH h w w') (hh : h < w.heap.size) : Below h w w' := ⟨k.os, k.tape, k.output, k.size, fun i hi => k.keep i (by omega) (by omega)⟩
theorem KeepH.setCell {h : Nat} {w w' : World} (k : KeepH h w w') (n : Nat) (v : Value) : KeepH h w (w'.setCell ⟨h, n, none⟩ v) :=
 ⟨k.os, k.tape, k.output, by simpa [World.setCell] using k.size, fun i hi hn => (Below.heap_setCell _ _ _ _ (by show i ≠ h; exact hn)).trans (k.keep i hi hn)⟩
theorem Rd.mix {α : Type} {At : World → Addr → α → Prop} {sz B1 B2 : Nat} {w1 w2 : World} {v : Value} {xs : List α} (h1 : Rd At sz B1 w1 v xs) (h2 : Rd At sz B2 w2 v xs) : Rd At sz B1 w2 v xs := by
 obtain ⟨A, cap, e, a1, a2, a3⟩ := h1
 obtain ⟨A', cap', e', _, _, b3⟩ := h2
 rw [e] at e'
 injection e' with e1
 subst e1
 refine ⟨A, cap, e, a1, a2, fun i x hx => ?_⟩
 obtain ⟨ad, e2, hb, _⟩ := a3 i x hx
 obtain ⟨ad', e2', _, ha⟩ := b3 i x hx
 rw [e2] at e2'
 injection e2' with e3
 subst e3
 exact ⟨ad, e2, hb, ha⟩
theorem ask_any {B : Nat} {w : World} {r : List RvR} {lv fx : List Int} {tn h b : Nat} {Ar AL AF : Option Addr} {cr cL cF : Nat} {mv : Value} (hg : RGood r) (htn : tn < r.length) (hmo : rvD r tn = -1) (hlv : ∀ y ∈ lv, -20000 ≤ y ∧ y ≤ 20000) (hll : lv.length ≤ 100) (hfl : fx.length ≤ 9)
  (hrow : w.heap[h]? = some (.cells (cosC b (.slice AL lv.length cL) mv (.slice AF fx.length cF) tn) 132)) (hpt : Rd RvAt 4 B w (.slice Ar r.length cr) r) (hB : B ≤ h) (hriv : RivAt w b (.slice Ar r.length cr) (dropP r r.length)) (hbh : b ≠ h)
  (hlvs : ∃ base, h < base ∧ Own base 3 w (.slice AL lv.length cL) lv) (hfxs : ∃ base, h < base ∧ Own base 3 w (.slice AF fx.length cF) fx) :
  Calls Tryz.prog 82 #[.pointer (some ⟨h, 0, none⟩)] w fun e w' => e = .returned (.int .i64 (askR r lv fx tn)) ∧ (∃ mv', w'.heap[h]? = some (.cells (cosC b (.slice AL lv.length cL) mv' (.slice AF fx.length cF) tn) 132)) ∧ KeepH h w w' := by
 have hh := lt_of_block hrow
 have q4 := cellOf hrow 4 (v := .int .i64 tn) rfl
 have q2 := cellOf hrow 2 (v := mv) rfl
 have f2 : w.frozen? ⟨h, 2, none⟩ = false := by simp [World.frozen?, hrow]
 have hmk : (Instr.makeMap 130 none).run Tryz.prog w = .ok (.map (some w.heap.size)) (w.alloc (.map #[] 0)) := rfl
 rw [ask_is hg lv fx hmo]
 obtain ⟨W1, hW1⟩ : ∃ X, X = w.alloc (.map #[] 0) := ⟨_, rfl⟩
 have hb1 : Below w.heap.size w W1 := by rw [hW1]; exact (Below.refl _ _).alloc (Nat.le_refl _) _
 have hn1 : W1.heap[w.heap.size]? = some (.map #[] 0) := by rw [hW1]; exact heap_alloc_new w _
 have hz1 : W1.heap.size = w.heap.size + 1 := by rw [hW1]; simp
 rw [← hW1] at hmk
 obtain ⟨W2, hW2⟩ : ∃ X, X = W1.setCell ⟨h, 2, none⟩ (.map (some w.heap.size)) := ⟨_, rfl⟩
 have hrow1 := (hb1.block _ hh).trans hrow
 have hrow2 : W2.heap[h]? = some (.cells (cosC b (.slice AL lv.length cL) (.map (some w.heap.size)) (.slice AF fx.length cF) tn) 132) := by rw [hW2]; exact heap_setCell_row hrow1 _
 have old : ∀ k, k ≠ h → W2.heap[k]? = W1.heap[k]? := fun k hk => by rw [hW2]; exact Below.heap_setCell _ _ _ _ (by show k ≠ h; exact hk)
 have hK2 : KeepH h w W2 := by rw [hW2]; exact (KeepH.of_below hb1).setCell _ _
 have hz2 : W2.heap.size = w.heap.size + 1 := by rw [hW2, World.setCell]; simpa using hz1
 have own2 : ∀ (base : Nat) (v : Value) (xs : List Int), h < base → Own base 3 w v xs → Rd IntAt 1 w.heap.size W2 v xs := fun base v xs hlt ho =>
  ho.rd.mix (show Own base 3 W2 v xs by rw [hW2]; exact (ho.below hb1).other (by show h < base; exact hlt) _).rd
 have hlk : LkB r w.heap.size b (.slice Ar r.length cr) W2 := by
  refine ⟨(hpt.below (hK2.below hh |>.mono hB)).mono (by omega), ?_, by have := hriv.lt; omega⟩
  exact (old b hbh).trans ((hb1.block _ hriv.lt).trans hriv)
 have hck : CosK r lv fx tn h b w.heap.size (.slice Ar r.length cr) (.slice AL lv.length cL) (.slice AF fx.length cF) W2 :=
  ⟨hlk, hrow2, hh, by obtain ⟨base, hlt, ho⟩ := hlvs; exact own2 base _ _ hlt ho, by obtain ⟨base, hlt, ho⟩ := hfxs; exact own2 base _ _ hlt ho⟩
 have hsm : SMap (costC r lv fx tn) W2 w.heap.size := ⟨#[], 0, (old _ (by omega)).trans hn1, fun e he => (by simp at he)⟩
 have HC := Lib.hid (cost_any hg htn hlv hll hfl _ tn htn rfl (-9000) W2 hck (by omega) hsm)
 have q2 := cellOf hrow1 2 (v := mv) rfl
 have f2 : W1.frozen? ⟨h, 2, none⟩ = false := by simp [World.frozen?, hrow1]
 have q4 := cellOf hrow2 4 (v := .int .i64 tn) rfl
 have HK2 := Lib.hid hK2
 have HR2 := Lib.hid hrow2
 have HZ := Lib.hid hz2
 have HH := Lib.hid hh
 clear hW1 hb1 hn1 hz1 hrow1 hrow2 hK2 hz2 own2 hlk hck hsm hlvs hfxs hpt hriv old hrow hlv hg hh
 generalize costC r lv fx tn tn (-9000) = cc at *
 go_enter Tryz.func82, Tryz.ntmps82
 go_upto_region 2 with (fail)
 rw [← hW2]
 clear q2 f2 hW2 hmk
 go_wp2_with (go_at_call 83; refine HC.out.mono ?_; rintro e w3 ⟨rfl, _, hcf⟩)
 go_ret
 refine ⟨rfl, ⟨_, (hcf.keep h (by have := HZ.out; have := HH.out; omega) (by have := HH.out; omega)).trans HR2.out⟩, ⟨hcf.os.trans HK2.out.os, hcf.tape.trans HK2.out.tape, hcf.output.trans HK2.out.output, Nat.le_trans HK2.out.size hcf.size, fun k hk hn => (hcf.keep k (by have := HZ.out; omega) (by omega)).trans (HK2.out.keep k hk hn)⟩⟩
end Go.Proofs.YthnimhnlnddnoaaGreatDoor
namespace Go.Proofs.YthnimhnlnddnoaaGreatDoor
open Go.RowKit Go.Shelf
theorem append_cut {base : Nat} {w : World} {A : Option Addr} {c : Nat} {xs : List Int} (h : Own base 3 w (.slice A xs.length c) xs) (hlen : xs.length ≤ 1000) {gx : Nat} {x : Int} (hx : w.cell? ⟨gx, 0, none⟩ = some (.int .i64 x)) :
  ∃ A' c' w', (Builtin.append_ #[30, 30] 30 #[.slice A xs.length xs.length, .slice (some ⟨gx, 0, none⟩) 1 1]).run Tryz.prog w = .ok (.slice A' (xs.length + 1) c') w' ∧ Own w.heap.size 3 w' (.slice A' (xs.length + 1) c') (xs ++ [x]) ∧ Below w.heap.size w w' := by
 obtain ⟨i, hi, hi2⟩ := Option.map_eq_some_iff.1 (show (Tryz.prog.info? 3).map (fun i => (i.size, i.bytes, i.zero.map (·.cells.size))) = some (1, 8, some 1) by kernel_rfl)
 simp only [Prod.mk.injEq] at hi2
 obtain ⟨hsize, hby, hz0⟩ := hi2
 obtain ⟨z, hz, hzs⟩ := Option.map_eq_some_iff.1 hz0
 have ht : Tryz.prog.underlying 30 = some (.slice 3) := by kernel_rfl
 have hfx : xs.flatMap (Enc.enc (α := Int)) = xs.map fun x => Value.int .i64 x := flat_ints xs
 have hnews : ∀ (j : Nat) u, [Value.int .i64 x][j]? = some u → w.cell? ((⟨gx, 0, none⟩ : Addr).add j) = some u := fun j u hu => by
  cases j with
  | zero => simp only [List.getElem?_cons_zero, Option.some.injEq] at hu; subst hu; exact hx
  | succ j => simp at hu
 have grown : ∀ old : Nat, old < xs.length + 1 → Own w.heap.size 3 (w.drew.alloc (.cells ((xs.flatMap (Enc.enc (α := Int))).toArray ++ [Value.int .i64 x].toArray ++ Builtin.zeroCells z.cells (grownCap w (xs.length + 1) old 3 - (xs.length + 1))) 3)) (.slice (some ⟨w.heap.size, 0, none⟩) (xs.length + 1) (grownCap w (xs.length + 1) old 3)) (xs ++ [x]) := by
  intro old ho
  have hge := grownCap_ge w (xs.length + 1) old 3
  have hcm : grownCap w (xs.length + 1) old 3 ≤ maxLen := grownCap_le_maxLen w (xs.length + 1) old 3 (by unfold maxLen; omega)
  refine ⟨by rw [flat_ints]; simp, .inr ⟨w.heap.size, _, _, by simp, Nat.le_refl _, heap_alloc_new w.drew _, by simpa using hge, hcm, ?_, ?_⟩⟩
  ·rw [hfx]
   simp only [Array.size_append, List.size_toArray, size_zeroCells, hzs, List.length_map, List.length_cons, List.length_nil]
   omega
  ·rw [hfx, flat_ints]
   simp only [Array.toList_append, List.map_append, List.map_cons, List.map_nil]
   rw [List.take_left' (by simp)]
 have hbl : ∀ o, Below w.heap.size w (w.drew.alloc o) := fun o => ((Below.refl _ _).drew).alloc (Nat.le_refl _) _
 cases A with
 | none =>
  have hxn : xs = [] := by
   rcases h with ⟨_, ⟨h1, h0⟩ | ⟨g, cap, cur, h1, _⟩⟩
   ·exact List.eq_nil_of_length_eq_zero h0
   ·cases h1
  subst hxn
  have hr := _root_.Go.run_append_nil (P := Tryz.prog) w 30 30 3 i z ht hi hz ⟨gx, 0, none⟩ 1 1 [.int .i64 x] (by rw [hsize]; rfl) hnews (by omega) (by omega) (by rw [hby]; omega)
  refine ⟨_, _, _, hr, ?_, hbl _⟩
  simpa using grown 0 (by simp)
 | some ad =>
  have hcell : ∀ j u, (xs.flatMap (Enc.enc (α := Int)))[j]? = some u → w.cell? (ad.add j) = some u := fun j u hu => by
   rw [hfx, List.getElem?_map] at hu
   obtain ⟨y, hy, rfl⟩ := Option.map_eq_some_iff.1 hu
   obtain ⟨A', c', e1, _, _, h3⟩ := h.rd
   injection e1 with e1
   obtain ⟨ad', e2, _, ha⟩ := h3 j y hy
   rw [← e1] at e2
   injection e2 with e2
   subst e2
   simpa [IntAt] using ha
  have hr := _root_.Go.run_append_grow (P := Tryz.prog) w 30 30 3 i z ht hi hz ad xs.length xs.length (xs.flatMap (Enc.enc (α := Int))) (by rw [hfx, hsize]; simp) hcell ⟨gx, 0, none⟩ 1 1 [.int .i64 x] (by rw [hsize]; rfl) hnews (by omega) (by omega) (by rw [hby]; exact growslice_fits (by omega) (by omega))
  exact ⟨_, _, _, hr, grown xs.length (by omega), hbl _⟩
theorem mouth_any (w : World) (nm : ByteArray) (dn ls hgt : Int) : Calls Tryz.prog 80 #[.agg #[.string nm, .int .i64 dn, .int .i64 ls, .int .i64 hgt]] w fun e w' => e = .returned (.bool (dn == -1)) ∧ Below w.heap.size w w' := by
 obtain ⟨W1, hW1, r1, z1, d1⟩ := box_any w #[.string nm, .int .i64 dn, .int .i64 ls, .int .i64 hgt] 51
 have q1 := cellOf r1 1 (v := .int .i64 dn) rfl
 have HB := Lib.hid d1
 clear r1 z1 d1
 go_enter Tryz.func80, Tryz.ntmps80
 go_upto_region 1 with (fail)
 rw [← hW1]
 clear hW1
 go_wp2
 go_ret
 exact ⟨rfl, HB.out⟩
theorem idxm_any {B : Nat} {w : World} {v : Value} {r : List RvR} {tn : Nat} (hs : Rd RvAt 4 B w v r) (hB : B ≤ w.heap.size) (ht : tn < r.length) (hm : rvD r tn = -1) (hno : ∀ k, k < tn → rvD r k ≠ -1) :
  Calls Tryz.prog 79 #[v, .func (.func 80) #[] #[]] w fun e w' => e = .returned (.int .i64 tn) ∧ Below w.heap.size w w' := by
 obtain ⟨A, cap, rfl, h1, h2, _⟩ := id hs
 have HS := Lib.hid hs
 have HNo := Lib.hid hno
 clear hs hno
 go_enter Tryz.func79, Tryz.ntmps79
 go_wp2
 go_loopw [8] (fun j wr => ∃ k : Nat, k ≤ tn ∧ j = .int .i64 k ∧ Below w.heap.size w wr) (fun j _ => r.length - (intOf j).toNat)
 case atStart => exact ⟨0, Nat.zero_le _, rfl, Below.refl _ _⟩
 case round =>
  obtain ⟨k, hk, rfl, hb⟩ := hrel
  have hlt : k < r.length := by omega
  obtain ⟨ad, rfl, _, n0, n1, n2, n3⟩ := (HS.out.below (hb.mono hB)).rv hlt
  have HRD := Lib.hid (show rvD r k = (r.getD k default).down from rfl)
  have HB := Lib.hid hb
  clear hb
  generalize r.getD k default = px at *
  obtain ⟨nm, dn, ls, hg⟩ := px
  simp only at n0 n1 n2 n3 HRD
  have HC := Lib.hid (mouth_any wr nm dn ls hg)
  by_cases hkt : k = tn
  ·subst hkt
   have e : (dn == -1) = true := by rw [← HRD.out, hm]; rfl
   rw [e] at HC
   have HM := Lib.hid hm
   clear hm e
   go_wp2_with (go_at_call 80; refine HC.out.mono ?_; rintro e w1 ⟨rfl, hb1⟩)
   go_ret
   exact ⟨rfl, HB.out.trans (hb1.mono HB.out.size)⟩
  ·have e : (dn == -1) = false := by
    have := HNo.out k (by omega)
    rw [HRD.out] at this
    simpa using this
   rw [e] at HC
   clear e
   go_wp2_with (go_at_call 80; refine HC.out.mono ?_; rintro e w1 ⟨rfl, hb1⟩)
   go_roundw
   case rel => exact ⟨k + 1, by omega, by go_num, HB.out.trans (hb1.mono HB.out.size)⟩
   case measure => simp [intOf]; omega
end Go.Proofs.YthnimhnlnddnoaaGreatDoor
namespace Go.Proofs
open Go.Shelf
def Tryz.laysSlM5_f81_ren : Go.Shelf.Ren := ⟨fun | 5 => 81 | 8 => 115 | 7 => 114 | 19 => 140 | 20 => 141 | 10 => 131 | 11 => 132 | 12 => 133 | 13 => 134 | 14 => 135 | 15 => 136 | 16 => 137 | 17 => 138 | 18 => 139 | 30 => 152 | 31 => 153 | 32 => 154 | 33 => 155 | 34 => 156 | 35 => 120 | 40 => 171 | n => n, fun | 23 => 30 | 25 => 3 | 3 => 3 | 32 => 143 | 22 => 30 | 0 => 0 | 44 => 182 | 46 => 184 | 4 => 4 | 36 => 192 | 35 => 191 | 41 => 180 | 5 => 5 | 9 => 9 | 53 => 205 | 57 => 209 | 63 => 222 | 64 => 223 | n => n, fun | n => n⟩
theorem Tryz.laysSlM5_f81 : Go.Proofs.SlLaysM.n5 Tryz.prog Tryz.laysSlM5_f81_ren := {
 mixed := by kernel_rfl
 f5 := ⟨Tryz.f81.name, by decide, Tryz.func81.trans (congrArg some (by kernel_rfl))⟩
 f7 := ⟨Tryz.f114.name, by decide, Tryz.func114.trans (congrArg some (by kernel_rfl))⟩
 f8 := Tryz.func115.trans (congrArg some (by kernel_rfl))
 f10 := ⟨Tryz.f131.name, by decide, Tryz.func131.trans (congrArg some (by kernel_rfl))⟩
 f11 := ⟨Tryz.f132.name, by decide, Tryz.func132.trans (congrArg some (by kernel_rfl))⟩
 f12 := ⟨Tryz.f133.name, by decide, Tryz.func133.trans (congrArg some (by kernel_rfl))⟩
 f13 := ⟨Tryz.f134.name, by decide, Tryz.func134.trans (congrArg some (by kernel_rfl))⟩
 f14 := ⟨Tryz.f135.name, by decide, Tryz.func135.trans (congrArg some (by kernel_rfl))⟩
 f15 := ⟨Tryz.f136.name, by decide, Tryz.func136.trans (congrArg some (by kernel_rfl))⟩
 f16 := ⟨Tryz.f137.name, by decide, Tryz.func137.trans (congrArg some (by kernel_rfl))⟩
 f17 := ⟨Tryz.f138.name, by decide, Tryz.func138.trans (congrArg some (by kernel_rfl))⟩
 f18 := ⟨Tryz.f139.name, by decide, Tryz.func139.trans (congrArg some (by kernel_rfl))⟩
 f19 := Tryz.func140.trans (congrArg some (by kernel_rfl))
 f20 := Tryz.func141.trans (congrArg some (by kernel_rfl))
 f30 := ⟨Tryz.f152.name, by decide, Tryz.func152.trans (congrArg some (by kernel_rfl))⟩
 f31 := Tryz.func153.trans (congrArg some (by kernel_rfl))
 f32 := Tryz.func154.trans (congrArg some (by kernel_rfl))
 f33 := ⟨Tryz.f155.name, by decide, Tryz.func155.trans (congrArg some (by kernel_rfl))⟩
 f34 := ⟨Tryz.f156.name, by decide, Tryz.func156.trans (congrArg some (by kernel_rfl))⟩
 f35 := ⟨Tryz.f120.name, by decide, Tryz.func120.trans (congrArg some (by kernel_rfl))⟩
 f40 := ⟨Tryz.f171.name, by decide, Tryz.func171.trans (congrArg some (by kernel_rfl))⟩
 t0 := Tryz.underlying0
 a0 := Tryz.isAgg0
 z0 := Tryz.sizeOf0
 v0 := Tryz.zeroValue0
 t3 := Tryz.underlying3
 a3 := Tryz.isAgg3
 z3 := Tryz.sizeOf3
 v3 := Tryz.zeroValue3
 t4 := Tryz.underlying4
 a4 := Tryz.isAgg4
 z4 := Tryz.sizeOf4
 v4 := Tryz.zeroValue4
 t5 := Tryz.underlying5
 a5 := Tryz.isAgg5
 z5 := Tryz.sizeOf5
 v5 := Tryz.zeroValue5
 t9 := Tryz.underlying9
 a9 := Tryz.isAgg9
 z9 := Tryz.sizeOf9
 v9 := Tryz.zeroValue9
 t22 := Tryz.underlying30
 a22 := Tryz.isAgg30
 z22 := Tryz.sizeOf30
 v22 := Tryz.zeroValue30
 t23 := Tryz.underlying30
 a23 := Tryz.isAgg30
 z23 := Tryz.sizeOf30
 v23 := Tryz.zeroValue30
 t25 := Tryz.underlying3
 a25 := Tryz.isAgg3
 z25 := Tryz.sizeOf3
 v25 := Tryz.zeroValue3
 t32 := Tryz.underlying143
 a32 := Tryz.isAgg143
 z32 := Tryz.sizeOf143
 v32 := Tryz.zeroValue143
 t35 := Tryz.underlying191
 a35 := Tryz.isAgg191
 z35 := Tryz.sizeOf191
 v35 := Tryz.zeroValue191
 t36 := Tryz.underlying192
 a36 := Tryz.isAgg192
 z36 := Tryz.sizeOf192
 v36 := Tryz.zeroValue192
 t41 := Tryz.underlying180
 a41 := Tryz.isAgg180
 z41 := Tryz.sizeOf180
 v41 := Tryz.zeroValue180
 t44 := Tryz.underlying182
 a44 := Tryz.isAgg182
 z44 := Tryz.sizeOf182
 v44 := Tryz.zeroValue182
 t46 := Tryz.underlying184
 a46 := Tryz.isAgg184
 z46 := Tryz.sizeOf184
 v46 := Tryz.zeroValue184
 t53 := Tryz.underlying205
 a53 := Tryz.isAgg205
 z53 := Tryz.sizeOf205
 v53 := Tryz.zeroValue205
 t57 := Tryz.underlying209
 a57 := Tryz.isAgg209
 z57 := Tryz.sizeOf209
 v57 := Tryz.zeroValue209
 t63 := Tryz.underlying222
 a63 := Tryz.isAgg222
 z63 := Tryz.sizeOf222
 v63 := Tryz.zeroValue222
 t64 := Tryz.underlying223
 a64 := Tryz.isAgg223
 z64 := Tryz.sizeOf223
 v64 := Tryz.zeroValue223 }
open Go.Sort Go.RowKit in
theorem Tryz.slices_Sort_int (blk off cap : Nat) (zs : List Int) (w : World) (hH : Holds (Value.int .i64) w blk off zs.toArray) (hblk : blk < w.heap.size) (hsz : zs.length < 4611686018427387904) :
  Calls Tryz.prog 81 #[.slice (some ⟨blk, off, none⟩) zs.length cap] w fun e w' =>
   e = .returned (.tuple #[]) ∧ ∃ n os, w' = grow (putRow (Value.int .i64) (Sort.ahead w n) blk off (zs.mergeSort fun x y => decide (x ≤ y)).toArray) os := AnyM.slices_Sort_int Tryz.laysSlM5_f81 blk off cap zs w hH hblk hsz
end Go.Proofs
namespace Go.Proofs.YthnimhnlnddnoaaGreatDoor
open Go.RowKit Go.Shelf
def sortI (l : List Int) : List Int := l.mergeSort fun x y => decide (x ≤ y)
theorem sortI_len (l : List Int) : (sortI l).length = l.length := List.length_mergeSort l
theorem sort_own {base : Nat} {w : World} {A : Option Addr} {c : Nat} {xs : List Int} (h : Own base 3 w (.slice A xs.length c) xs) (h0 : xs ≠ []) (hlen : xs.length ≤ 1000) :
  Calls Tryz.prog 81 #[.slice A xs.length c] w fun e w' => e = .returned (.tuple #[]) ∧ Own base 3 w' (.slice A xs.length c) (sortI xs) ∧ w.grownBy w' (Value.slice A xs.length c).ownBlock := by
 rcases h with ⟨hl, ⟨h1, hx0⟩ | ⟨g, cap, cur, h1, hb, hh, hn, hc, hsz, hx⟩⟩
 ·exact absurd (List.eq_nil_of_length_eq_zero hx0) h0
 ·injection h1 with h1 h2 h3
  subst h1 h3
  have hg := lt_of_block hh
  have hcell : ∀ j, j < xs.length → cur[j]? = some (.int .i64 (xs.getD j 0)) := fun j hj => by
   have e : (cur.toList.take (xs.length * 1))[j]? = (xs.flatMap (Enc.enc (α := Int)))[j]? := by rw [hx]
   rw [flat_ints, List.getElem?_take, if_pos (by omega), Array.getElem?_toList] at e
   rw [e]
   simp [List.getElem?_eq_getElem hj]
  have hH : Sort.Holds (Value.int .i64) w g 0 xs.toArray := fun j hj => by
   have hj : j < xs.length := by simpa using hj
   refine ⟨?_, by simp [World.frozen?, hh]⟩
   rw [Nat.zero_add]
   refine cellOf hh j ?_
   rw [hcell j hj]
   congr 2
   rw [List.getD_eq_getElem?_getD, List.getElem?_eq_getElem hj]
   simp [hj]
  refine (Tryz.slices_Sort_int g 0 c xs w hH hg (by omega)).mono ?_
  rintro e w' ⟨rfl, n, os, rfl⟩
  have hsl := sortI_len xs
  have hrow : ∀ k, k < w.heap.size → (Sort.grow (Sort.putRow (Value.int .i64) (Sort.ahead w n) g 0 (sortI xs).toArray) os).heap[k]? = if k = g then some (.cells (Sort.putCells (Value.int .i64) 0 (sortI xs).toArray cur) 3) else w.heap[k]? := fun k hk => by
   rw [Sort.heap_grow_old _ _ (by simpa using hk)]
   unfold Sort.putRow Sort.mapBlock
   rw [Sort.heap_ahead, Array.getElem?_modify]
   by_cases e : k = g
   ·subst e
    rw [if_pos rfl, if_pos rfl, hh]
    rfl
   ·rw [if_neg (fun h => e h.symm), if_neg e]
  refine ⟨rfl, ⟨by rw [flat_ints]; simp [hsl], .inr ⟨g, c, Sort.putCells (Value.int .i64) 0 (sortI xs).toArray cur, by rw [hsl], hb, by have := hrow g hg; rw [if_pos rfl] at this; exact this, by rw [hsl]; exact hn, hc, by simp [Sort.putCells]; omega, ?_⟩⟩, ⟨rfl, rfl, rfl, by
   show w.heap.size ≤ (Sort.grow (Sort.putRow (Value.int .i64) (Sort.ahead w n) g 0 (sortI xs).toArray) os).heap.size
   simp, fun k hk hne => ?_⟩⟩
  ·rw [flat_ints]
   refine List.ext_getElem? fun j => ?_
   rw [List.getElem?_take]
   by_cases hj : j < xs.length
   ·rw [if_pos (by rw [hsl]; omega), Array.getElem?_toList]
    unfold Sort.putCells
    rw [Array.getElem?_mapIdx, hcell j hj, Option.map_some, if_pos ⟨Nat.zero_le _, by simpa [hsl] using hj⟩, List.getElem?_map, List.getElem?_eq_getElem (by omega)]
    simp [hsl, hj]
   ·rw [if_neg (by rw [hsl]; omega), List.getElem?_eq_none (by rw [List.length_map, hsl]; omega)]
  ·have := hrow k hk
   rw [if_neg (fun e => hne (by rw [e]; rfl))] at this
   exact this
theorem sortI_eq {l l' : List Int} (hp : l.Perm l') (hs : l'.Pairwise (· ≤ ·)) : sortI l = l' := by
 refine List.Perm.eq_of_pairwise (le := fun a b => a ≤ b) (fun a b _ _ h1 h2 => Int.le_antisymm h1 h2) ?_ hs ((List.mergeSort_perm l _).trans hp)
 have := List.pairwise_mergeSort (le := fun x y : Int => decide (x ≤ y)) (fun a b c h1 h2 => by simp at *; omega) (fun a b => by simp; omega) l
 exact this.imp (fun h => by simpa using h)
end Go.Proofs.YthnimhnlnddnoaaGreatDoor
namespace Go.Proofs.YthnimhnlnddnoaaGreatDoor
open Go.RowKit
def levE (r : List RvR) (tn i : Nat) : List Int := [rvH r i - dropR r i tn, 9000 - dropR r i tn, 0]
def levK (r : List RvR) (tn k : Nat) : List Int := (List.range k).flatMap (levE r tn)
theorem levK_succ (r : List RvR) (tn k : Nat) : levK r tn (k + 1) = levK r tn k ++ levE r tn k := by
 unfold levK
 rw [List.range_succ, List.flatMap_append]
 simp
theorem levK_len (r : List RvR) (tn : Nat) : ∀ k, (levK r tn k).length = 3 * k
 | 0 => rfl
 | k + 1 => by rw [levK_succ, List.length_append, levK_len r tn k]; simp [levE]; omega
def lvS (r : List RvR) (tn : Nat) : List Int := sortI (levK r tn r.length)
theorem lvS_bound {r : List RvR} (hg : RGood r) {tn : Nat} : ∀ y ∈ lvS r tn, -20000 ≤ y ∧ y ≤ 20000 := by
 intro y hy
 have hy : y ∈ levK r tn r.length := (List.mergeSort_perm _ _).mem_iff.1 hy
 unfold levK at hy
 rw [List.mem_flatMap] at hy
 obtain ⟨i, hi, hy⟩ := hy
 have hi : i < r.length := by simpa using hi
 have := hg.hgt i hi
 have := (drop_ge hg (i := tn) hi).1
 have := drop_le hg (i := tn) hi
 simp only [levE, List.mem_cons, List.not_mem_nil, or_false] at hy
 omega
theorem fixR_last (r : List RvR) (lv : List Int) (tn : Nat) (c : Int) (hs : List Int) (y : Int) : fixR r lv tn c hs [y] = hs ++ [y + dropR r hs.length tn] := rfl
theorem fixR_hit {r : List RvR} {lv : List Int} {tn : Nat} {c : Int} {hs : List Int} {y : Int} (l : List Int) (h : askR r lv (hs ++ [y + dropR r hs.length tn]) tn = c) : fixR r lv tn c hs (y :: l) = hs ++ [y + dropR r hs.length tn] := by
 cases l with
 | nil => rfl
 | cons z l => rw [fixR, if_pos h]; simp
theorem fixR_miss {r : List RvR} {lv : List Int} {tn : Nat} {c : Int} {hs : List Int} {y : Int} {l : List Int} (hl : l ≠ []) (h : ¬ askR r lv (hs ++ [y + dropR r hs.length tn]) tn = c) : fixR r lv tn c hs (y :: l) = fixR r lv tn c hs l := by
 cases l with
 | nil => exact absurd rfl hl
 | cons z l => rw [fixR, if_neg h]; simp
theorem fixR_len (r : List RvR) (lv : List Int) (tn : Nat) (c : Int) (hs : List Int) : ∀ l : List Int, l ≠ [] → (fixR r lv tn c hs l).length = hs.length + 1
 | [], h => absurd rfl h
 | [y], _ => by simp [fixR]
 | y :: z :: l, _ => by
  by_cases h : askR r lv (hs ++ [y + dropR r hs.length tn]) tn = c
  ·rw [fixR_hit _ h]; simp
  ·rw [fixR_miss (by simp) h]; exact fixR_len r lv tn c hs (z :: l) (by simp)
theorem leastK_len (r : List RvR) (lv : List Int) (tn : Nat) (c : Int) (hl : lv ≠ []) : ∀ k, (leastK r lv tn c k).length = k
 | 0 => rfl
 | k + 1 => by rw [leastK, fixR_len _ _ _ _ _ _ hl, leastK_len r lv tn c hl k]
end Go.Proofs.YthnimhnlnddnoaaGreatDoor
