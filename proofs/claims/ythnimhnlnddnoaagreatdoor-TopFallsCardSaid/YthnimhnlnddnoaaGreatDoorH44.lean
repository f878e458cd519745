/- Parts of the proof of TpP: CoS. -/
import Derived.Test.YthnimhnlnddnoaaGreatDoorH43
import Derived.Test.YthnimhnlnddnoaaGreatDoorH29
import Derived.WalkKit
import Derived.Deep.Quiet
set_option linter.unusedSimpArgs false
set_option linter.unusedVariables false
set_option maxRecDepth 100000
set_option maxHeartbeats 8000000
namespace Go.Proofs.YthnimhnlnddnoaaGreatDoor
open Go.RowKit Go.Shelf
theorem Own.keepH {base h : Nat} {w w' : World} {v : Value} {xs : List Int} (ho : Own base 3 w v xs) (hh : h < base) (k : KeepH h w w') : Own base 3 w' v xs :=
 ho.keep fun g hg => by
  obtain ⟨hge, cu, hcu⟩ := ho.owner hg
  exact k.keep g (lt_of_block hcu) (by omega)
structure FxI (W : World) (h k : Nat) (hs : List Int) (z : Int) (val : Nat → Value) (L : Nat → Bool) (vs : Nat → Value) (X : World) : Prop where
 bel : L 20 = false → Below W.heap.size W X
 rd : ∀ i, i < 20 → i ≠ 17 → i ≠ 18 → L i = true → vs i = val i
 lit : L 17 = true → ∃ g, vs 17 = .slice (some ⟨g, 0, none⟩) 1 1 ∧ (L 20 = false → X.cell? ⟨g, 0, none⟩ = some (.int .i64 z))
 app : L 18 = true → ∃ A c, vs 18 = .slice A (k + 1) c ∧ (L 20 = false → Own W.heap.size 3 X (.slice A (k + 1) c) (hs ++ [z]))
 st : L 20 = true → ∃ X' A c, Below W.heap.size W X' ∧ Own W.heap.size 3 X' (.slice A (k + 1) c) (hs ++ [z]) ∧ X = X'.setCell ⟨h, 3, none⟩ (.slice A (k + 1) c)
theorem FxI.start {W : World} {h k : Nat} {hs : List Int} {z : Int} {val : Nat → Value} : FxI W h k hs z val (fun _ => false) (fun _ => undef) W.drew :=
 ⟨fun _ => (Below.refl _ _).drew, fun _ _ _ _ h => (by cases h), fun h => (by cases h), fun h => (by cases h), fun h => (by cases h)⟩
section
variable {W X : World} {h k : Nat} {hs : List Int} {z : Int} {val vs : Nat → Value} {L : Nat → Bool}
theorem FxI.read (hI : FxI W h k hs z val L vs X) {i : Nat} {v : Value} (h1 : i ≠ 17) (h2 : i ≠ 18) (h3 : i < 20) (hv : v = val i) : FxI W h k hs z val (updB L i) (updV vs i v) X := by
 refine ⟨?_, fun q q1 q2 q3 => ?_, ?_, ?_, ?_⟩
 ·rw [updB_other _ (show (20 : Nat) ≠ i by omega)]; exact hI.bel
 ·by_cases e : q = i
  ·subst e; intro _; rw [updV_self]; exact hv
  ·rw [updB_other _ e, updV_other _ _ e]; exact hI.rd q q1 q2 q3
 ·rw [updB_other _ (Ne.symm h1), updB_other _ (show (20 : Nat) ≠ i by omega), updV_other _ _ (Ne.symm h1)]; exact hI.lit
 ·rw [updB_other _ (Ne.symm h2), updB_other _ (show (20 : Nat) ≠ i by omega), updV_other _ _ (Ne.symm h2)]; exact hI.app
 ·rw [updB_other _ (show (20 : Nat) ≠ i by omega)]; exact hI.st
theorem FxI.made (hI : FxI W h k hs z val L vs X) (n20 : L 20 = false) (n18 : L 18 = false) : FxI W h k hs z val (updB L 17) (updV vs 17 (.slice (some ⟨X.heap.size, 0, none⟩) 1 1)) (X.alloc (.cells #[.int .i64 z] 3)) := by
 have hb := hI.bel n20
 refine ⟨fun _ => hb.alloc hb.size _, fun q q1 q2 q3 hq => ?_, fun _ => ⟨_, updV_self _ _ _, fun _ => cellOf (heap_alloc_new X _) 0 rfl⟩, fun h => ?_, fun h => ?_⟩
 ·rw [updB_other _ q2] at hq; rw [updV_other _ _ q2]; exact hI.rd q q1 q2 q3 hq
 ·rw [updB_other _ (by omega), n18] at h; cases h
 ·rw [updB_other _ (by omega), n20] at h; cases h
theorem FxI.grown {X' : World} {A : Option Addr} {c : Nat} (hI : FxI W h k hs z val L vs X) (n20 : L 20 = false) (ho : Own X.heap.size 3 X' (.slice A (k + 1) c) (hs ++ [z])) (hb : Below X.heap.size X X') : FxI W h k hs z val (updB L 18) (updV vs 18 (.slice A (k + 1) c)) X' := by
 have hb0 := hI.bel n20
 refine ⟨fun _ => hb0.trans (hb.mono hb0.size), fun q q1 q2 q3 hq => ?_, fun h => ?_, fun _ => ⟨_, _, updV_self _ _ _, fun _ => ho.mono hb0.size⟩, fun h => ?_⟩
 ·rw [updB_other _ q3] at hq; rw [updV_other _ _ q3]; exact hI.rd q q1 q2 q3 hq
 ·rw [updB_other _ (by omega)] at h
  obtain ⟨g, h1, h2⟩ := hI.lit h
  exact ⟨g, by rw [updV_other _ _ (by omega)]; exact h1, fun _ => (hb.cell (cell_lt (h2 n20))).trans (h2 n20)⟩
 ·rw [updB_other _ (by omega), n20] at h; cases h
theorem FxI.stored {A : Option Addr} {c : Nat} {v : Value} (hI : FxI W h k hs z val L vs X) (hb : Below W.heap.size W X) (ho : Own W.heap.size 3 X (.slice A (k + 1) c) (hs ++ [z])) (h18 : L 18 = true) (hv : vs 18 = .slice A (k + 1) c) : FxI W h k hs z val (updB L 20) (updV vs 20 v) (X.setCell ⟨h, 3, none⟩ (.slice A (k + 1) c)) := by
 refine ⟨fun h => (by rw [updB_self] at h; cases h), fun q q1 q2 q3 hq => ?_, fun h => ?_, fun _ => ⟨A, c, by rw [updV_other _ _ (by omega)]; exact hv, fun h => (by rw [updB_self] at h; cases h)⟩, fun _ => ⟨X, A, c, hb, ho, rfl⟩⟩
 ·rw [updB_other _ (by omega)] at hq; rw [updV_other _ _ (by omega)]; exact hI.rd q q1 q2 q3 hq
 ·rw [updB_other _ (by omega)] at h
  obtain ⟨g, h1, _⟩ := hI.lit h
  exact ⟨g, by rw [updV_other _ _ (by omega)]; exact h1, fun h => (by rw [updB_self] at h; cases h)⟩
end
theorem rleast_any {B : Nat} {w : World} {v : Value} {r : List RvR} {tn : Nat} (hs : Rd RvAt 4 B w v r) (hg : RGood r) (hB : B ≤ w.heap.size) (ht : tn < r.length) (hm : rvD r tn = -1) :
  Calls Tryz.prog 40 #[v] w fun e w' => ∃ A c, e = .returned (.tuple #[.int .i64 (askR r (lvS r tn) [] tn), .slice A r.length c, .int .i64 0]) ∧
   Own w.heap.size 3 w' (.slice A r.length c) (leastK r (lvS r tn) tn (askR r (lvS r tn) [] tn) r.length) ∧ Below w.heap.size w w' := by
 obtain ⟨A, cap, rfl, h5, h6, _⟩ := id hs
 have hlen := hg.len
 have HS := Lib.hid hs
 have HG := Lib.hid hg
 have HMo := Lib.hid hm
 have HO := Lib.hid (ropen_any hs hg hB)
 have HNo := Lib.hid (show ∀ k, k < tn → rvD r k ≠ -1 from fun k hk h => by
  have := hg.mouth k tn (by omega) ht h hm
  omega)
 clear hs hg hm h5 h6
 go_enter Tryz.func40, Tryz.ntmps40
 go_upto_region 4 with (go_at_call 46; refine HO.out.mono ?_; rintro e w1 ⟨b, rfl, hL, hb, hb1⟩)
 have HI := Lib.hid (fun (X : World) (hx : Below w1.heap.size w1 X) => idxm_any (w := X) (HS.out.below ((hb1.trans (hx.mono hb1.size)).mono hB)) (by have := hb1.size; have := hx.size; omega) ht HMo.out HNo.out)
 have HL := Lib.hid hL
 have HB1 := Lib.hid hb1
 clear hL hb1
 go_upto_region 5 with (go_at_call 79; refine (HI.out _ (Below.refl _ _)).mono ?_; rintro e w2 ⟨rfl, hb2⟩)
 obtain ⟨W3, hW3, r3, z3, d3⟩ := box_any w2 #[.pointer (some ⟨b, 0, none⟩), .slice none 0 0, .map none, .slice none 0 0, .int .i64 tn] 132
 rw [← hW3]
 obtain ⟨h, hh⟩ : ∃ h, h = w2.heap.size := ⟨_, rfl⟩
 rw [← hh] at r3 z3 ⊢
 have hB2 := HB1.out.trans (hb2.mono HB1.out.size)
 have hriv3 : RivAt W3 b (.slice A r.length cap) (dropP r r.length) := ((show RivAt w1 b _ _ from HL.out).below hb2).below d3
 have hbh : b ≠ h := by have := (show RivAt w1 b _ _ from HL.out).lt; have := hb2.size; omega
 have hpt3 : Rd RvAt 4 B W3 (.slice A r.length cap) r := HS.out.below ((hB2.trans (d3.mono hB2.size)).mono hB)
 have hBh : B ≤ h := by have := hB2.size; omega
 have hwh : w.heap.size ≤ h := by have := hB2.size; omega
 have HR3 := Lib.hid (show W3.heap[h]? = some (.cells (cosC b (.slice none (levK r tn 0).length 0) (.map none) (.slice none 0 0) tn) 132) from r3)
 have HZ3 := Lib.hid z3
 have HB3 := Lib.hid (hB2.trans (d3.mono hB2.size))
 have HV3 := Lib.hid hriv3
 have HP3 := Lib.hid hpt3
 have hbh9 := Lib.hid hbh
 clear hW3 hh r3 z3 d3 hb2 hB2 hriv3 hpt3 hbh HI HL HO
 go_wp2
 go_loopw [28] (fun iv wr => ∃ (k : Nat) (L : Option Addr) (c : Nat), k ≤ r.length ∧ iv = .int .i64 k ∧ wr.heap[h]? = some (.cells (cosC b (.slice L (levK r tn k).length c) (.map none) (.slice none 0 0) tn) 132) ∧ Own (h + 1) 3 wr (.slice L (levK r tn k).length c) (levK r tn k) ∧ KeepH h W3 wr) (fun iv _ => r.length - (intOf iv).toNat)
 case atStart => exact ⟨0, none, 0, Nat.zero_le _, rfl, HR3.out, Own.nil _ _ _, KeepH.of_below (Below.refl _ _)⟩
 case round =>
  obtain ⟨k, L, c, hk, rfl, hrow, hown, hkp⟩ := hrel
  have HKp := Lib.hid hkp
  have hhz : h < W3.heap.size := by have := HZ3.out; omega
  have hbw : Below h W3 wr := hkp.below hhz
  by_cases hlt : k < r.length
  ·have hriv := (hkp.keep b (by have := HV3.out.lt; exact this) hbh9.out).trans HV3.out
   have hLN : LkN r b (.slice A r.length cap) wr := ⟨⟨B, HP3.out.below (hbw.mono hBh), by have := hkp.size; omega⟩, hriv⟩
   have e1 := hLN.drop hlen.2 hlt ht
   obtain ⟨ad, rfl, _, n0, n1, n2, n3⟩ := (HP3.out.below (hbw.mono hBh)).rv hlt
   have hgt := HG.out.hgt k hlt
   have hd1 := (drop_ge HG.out (i := tn) hlt).1
   have hd2 := drop_le HG.out (i := tn) hlt
   have HE := Lib.hid (levK_succ r tn k)
   have HLe := Lib.hid (levK_len r tn k)
   have HEe := Lib.hid (show levE r tn k = [rvH r k - dropR r k tn, 9000 - dropR r k tn, 0] from rfl)
   have HRH := Lib.hid (show rvH r k = (r.getD k default).hgt from rfl)
   have hgt : 0 ≤ (r.getD k default).hgt ∧ (r.getD k default).hgt ≤ 9000 := hgt
   rw [HRH.out] at HEe
   generalize r.getD k default = px at *
   obtain ⟨nm, dn, ls, hg4⟩ := px
   simp only at n0 n1 n2 n3 HEe hgt
   generalize dropR r k tn = d at *
   obtain ⟨W5, hW5, r5, z5, d5⟩ := box_any wr #[.string nm, .int .i64 dn, .int .i64 ls, .int .i64 hg4] 51
   have hrow5 := rowX hrow d5
   have HOw := Lib.hid (hown.below d5)
   have HK5 := Lib.hid (hkp.trans (.of_below d5))
   have HR5 := Lib.hid hrow5
   have e1 := (d5.cell (cell_lt e1)).trans e1
   have q4 := cellOf hrow5 4 (v := .int .i64 tn) rfl
   have q1 := cellOf hrow5 1 (v := .slice L (levK r tn k).length c) rfl
   have m3 := cellOf r5 3 (v := .int .i64 hg4) rfl
   have HZ5 := Lib.hid z5
   have ht9 : tn < 9 := by omega
   have hk9 : k < 9 := by omega
   clear hrow hown hkp hbw hriv hLN r5 d5 hrow5 HRH z5
   go_upto_region 8 with (fail)
   rw [← hW5]
   clear hW5 n0 n1 n2 n3
   go_quiet (fail)
   obtain ⟨w6, hw6⟩ : ∃ X, X = W5.drewN nq := ⟨_, rfl⟩
   have e6 : Below W5.heap.size W5 w6 := by rw [hw6]; exact below_drewN (Below.refl _ _) nq
   rw [← hw6]
   clear hw6
   replace q4 := (e6.cell (cell_lt q4)).trans q4
   replace q1 := (e6.cell (cell_lt q1)).trans q1
   replace m3 := (e6.cell (cell_lt m3)).trans m3
   have hrow6 := rowX HR5.out e6
   have f1 : w6.frozen? ⟨h, 1, none⟩ = false := by simp [World.frozen?, hrow6]
   have hO6 := HOw.out.below e6
   have HK6 := Lib.hid (HK5.out.trans (.of_below e6))
   have hz6 : h + 1 ≤ w6.heap.size := by have := e6.size; have := HZ5.out; have := lt_of_block hrow6; omega
   obtain ⟨LL, cc, w7, hrun, hO7, hb7, hl7⟩ := append_ints (xs := levK r tn k) (ys := [hg4 - d, 9000 - d, 0]) (w := w6.alloc (.cells #[.int .i64 (hg4 - d), .int .i64 (9000 - d), .int .i64 0] 3)) (hO6.alloc _) (lit_rd (g := w6.heap.size) (n := 3) (e := 3) [hg4 - d, 9000 - d, 0] (by simp) rfl rfl (heap_alloc_new w6 _)) (by rw [HLe.out]; simp; omega) (by simp; omega)
   simp only [List.length_cons, List.length_nil, Nat.zero_add, Nat.reduceAdd] at hrun hO7
   have hrow7 : w7.heap[h]? = _ := (hb7.block h (by omega)).trans ((Below.heap_alloc w6 _ h (lt_of_block hrow6)).trans hrow6)
   have f7 : w7.frozen? ⟨h, 1, none⟩ = false := by simp [World.frozen?, hrow7]
   have q7 := cellOf hrow7 1 (v := .slice L (levK r tn k).length c) rfl
   have HKW := Lib.hid (show KeepH h W3 w7 from ⟨hb7.os.trans HK6.out.os, hb7.tape.trans HK6.out.tape, hb7.output.trans HK6.out.output, Nat.le_trans HK6.out.size (Nat.le_trans (by simp) hb7.size), fun i h1 h2 => by
    have := HZ3.out
    exact (hb7.block i (by omega)).trans ((Below.heap_alloc w6 _ i (by omega)).trans (HK6.out.keep i h1 h2))⟩)
   have HR7 := Lib.hid hrow7
   have HO7 := Lib.hid hO7
   clear hrow6 hO6 hO7 hb7 hl7 hrow7 hz6 e6 e1
   rw [HLe.out] at hrun q1 q7
   have HL7 := Lib.hid (show (levK r tn (k + 1)).length = 3 * k + 3 by rw [levK_len]; omega)
   have HRo := Lib.hid (heap_setCell_row HR7.out (n := 1) (.slice LL (3 * k + 3) cc))
   have HOw7 := Lib.hid (show Own (h + 1) 3 (w7.setCell ⟨h, 1, none⟩ (.slice LL (3 * k + 3) cc)) (.slice LL (3 * k + 3) cc) (levK r tn (k + 1)) by
    rw [HE.out, HEe.out]
    have := HO7.out
    rw [HLe.out] at this
    exact this.other (by show h < h + 1; omega) _)
   go_wp2_with (at_builtin; refine wpList_append_run rfl _ _ _ rfl rfl rfl hrun ?_)
   go_roundw
   case rel => exact ⟨k + 1, LL, cc, by omega, by go_num, by rw [HL7.out]; exact HRo.out, by rw [HL7.out]; exact HOw7.out, HKW.out.setCell _ _⟩
   case measure => simp [intOf]; omega
  ·have hkn : k = r.length := by omega
   subst hkn
   have hll := levK_len r tn r.length
   have HSo := Lib.hid (sort_own hown (by intro h; rw [h] at hll; simp at hll; omega) (by omega))
   have hbd := lvS_bound HG.out (tn := tn)
   have hsl : (lvS r tn).length = (levK r tn r.length).length := sortI_len _
   have hN : (lvS r tn).length ≤ 27 := by omega
   have hN0 : 0 < (lvS r tn).length := by omega
   have hls : lvS r tn = sortI (levK r tn r.length) := rfl
   rw [← hls, ← hsl] at HSo
   rw [← hsl] at hrow
   obtain ⟨lv, hlv⟩ : ∃ l, l = lvS r tn := ⟨_, rfl⟩
   rw [← hlv] at HSo hrow hbd hN hN0
   have HLV := Lib.hid hlv
   have HBd := Lib.hid hbd
   have q1 := cellOf hrow 1 (v := .slice L lv.length c) rfl
   have HRow := Lib.hid hrow
   have hzw : h + 1 ≤ wr.heap.size := lt_of_block hrow
   have HZw := Lib.hid hzw
   clear hrow hown hbw hll hsl hbd hls hlv hlt hzw
   have HAs := Lib.hid (fun (X : World) (mv : Value) (fx : List Int) (AF : Option Addr) (cF : Nat) (hX : KeepH h W3 X) (hfl : fx.length ≤ 9) (hrow : X.heap[h]? = some (.cells (cosC b (.slice L lv.length c) mv (.slice AF fx.length cF) tn) 132)) (ho : Own (h + 1) 3 X (.slice L lv.length c) lv) (hf : Own (h + 1) 3 X (.slice AF fx.length cF) fx) =>
    ask_any HG.out ht HMo.out HBd.out (by omega) hfl hrow (HP3.out.below ((hX.below hhz).mono hBh)) hBh ((hX.keep b HV3.out.lt hbh9.out).trans HV3.out) hbh9.out ⟨h + 1, by omega, ho⟩ ⟨h + 1, by omega, hf⟩)
   go_upto_region 13 with (go_at_call 81; refine HSo.out.mono ?_; rintro e w8 ⟨rfl, ho8, hg8⟩)
   have hob : ∀ k, k < h + 1 → some k ≠ (Value.slice L lv.length c).ownBlock := fun k hk e => by have := (ho8.owner e.symm).1; omega
   have hrow8 := (hg8.block h (by have := HZw.out; omega) (hob h (by omega))).trans HRow.out
   have hK8 : KeepH h W3 w8 := ⟨hg8.os.trans HKp.out.os, hg8.tape.trans HKp.out.tape, hg8.output.trans HKp.out.output, Nat.le_trans HKp.out.size hg8.size, fun i h1 h2 => by
    have := HZ3.out
    exact (hg8.block i (by have := HZw.out; omega) (hob i (by omega))).trans (HKp.out.keep i h1 h2)⟩
   have HK8 := Lib.hid hK8
   have HO8 := Lib.hid ho8
   have HA0 := Lib.hid (HAs.out w8 _ [] none 0 hK8 (by simp) hrow8 ho8 (Own.nil _ _ _))
   obtain ⟨ca, hca⟩ : ∃ c, c = askR r lv [] tn := ⟨_, rfl⟩
   rw [← hca] at HA0
   have HCA := Lib.hid hca
   clear hob hrow8 hK8 ho8 hg8 q1 hca
   go_upto_region 14 with (go_at_call 82; refine HA0.out.mono ?_; rintro e w9 ⟨rfl, ⟨mv9, hrow9⟩, hk9⟩)
   have HK9 := Lib.hid (HK8.out.trans hk9)
   have HR9 := Lib.hid hrow9
   have HO9 := Lib.hid (HO8.out.keepH (by omega) hk9)
   clear hrow9 hk9
   have HLn := Lib.hid (leastK_len r lv tn ca (by intro h; rw [h] at hN0; simp at hN0))
   go_wp2
   go_loopw [3, 62] (fun hv iv wr => ∃ (k : Nat) (H : Option Addr) (cH : Nat) (mv : Value), k ≤ r.length ∧ iv = .int .i64 k ∧ hv = .slice H k cH ∧ Own (h + 1) 3 wr (.slice H k cH) (leastK r lv tn ca k) ∧ wr.heap[h]? = some (.cells (cosC b (.slice L lv.length c) mv (.slice H k cH) tn) 132) ∧ Own (h + 1) 3 wr (.slice L lv.length c) lv ∧ KeepH h W3 wr) (fun _ iv _ => r.length - (intOf iv).toNat)
   case atStart => exact ⟨0, none, 0, mv9, Nat.zero_le _, rfl, rfl, Own.nil _ _ _, HR9.out, HO9.out, HK9.out⟩
   case round =>
    obtain ⟨k, H, cH, mv, hk, rfl, rfl, hoH, hrow, hoL, hkp⟩ := hrel
    by_cases hlt : k < r.length
    ·obtain ⟨hs, hhs⟩ : ∃ l, l = leastK r lv tn ca k := ⟨_, rfl⟩
     have hhl : hs.length = k := by rw [hhs]; exact HLn.out k
     rw [← hhs] at hoH
     have HHs := Lib.hid (show leastK r lv tn ca (k + 1) = fixR r lv tn ca hs lv by rw [hhs]; rfl)
     have q1 := cellOf hrow 1 (v := .slice L lv.length c) rfl
     have HHl := Lib.hid hhl
     have HoH := Lib.hid hoH
     have HoL := Lib.hid hoL
     have HRw := Lib.hid hrow
     have HKk := Lib.hid hkp
     have hzw := lt_of_block hrow
     have HZk := Lib.hid hzw
     clear hhs hhl hoH hoL hrow hkp hzw
     go_wp2
     clear q1
     obtain ⟨wk, hwk⟩ : ∃ X, X = wr := ⟨_, rfl⟩
     go_loopw [68] (fun jv wq => ∃ (j : Nat) (F : List Int) (AF : Option Addr) (cF : Nat) (mv : Value), j ≤ lv.length ∧ jv = .int .i64 j ∧ wq.heap[h]? = some (.cells (cosC b (.slice L lv.length c) mv (.slice AF F.length cF) tn) 132) ∧ Own (h + 1) 3 wq (.slice AF F.length cF) F ∧ (j < lv.length → fixR r lv tn ca hs lv = fixR r lv tn ca hs (lv.drop j)) ∧ (j = lv.length → fixR r lv tn ca hs lv = F) ∧ Own (h + 1) 3 wq (.slice H k cH) hs ∧ Own (h + 1) 3 wq (.slice L lv.length c) lv ∧ KeepH h W3 wq) (fun jv _ => lv.length - (intOf jv).toNat)
     case atStart => exact ⟨0, hs, H, cH, mv, Nat.zero_le _, rfl, by rw [HHl.out]; exact HRw.out, by rw [HHl.out]; exact HoH.out, fun _ => rfl, fun h => absurd h (by omega), HoH.out, HoL.out, HKk.out⟩
     case round =>
      obtain ⟨j, F, AF, cF, mv, hj, rfl, hrow, hoF, hf1, hf2, hoH, hoL, hkp⟩ := hrel
      obtain ⟨wq, hwq⟩ : ∃ X, X = wr := ⟨_, rfl⟩
      by_cases hlj : j < lv.length
      ·obtain ⟨adL, rfl, _, eL⟩ := hoL.rd.int hlj
       have hcp := hoH.form
       obtain ⟨_, cH0, hHe, hcp, _⟩ := hcp
       simp only [Value.slice.injEq] at hHe
       obtain ⟨hH0, hk0, rfl⟩ := hHe
       rw [HHl.out] at hcp
       clear hH0 hk0
       have HFd := Lib.hid (hf1 hlj)
       have HDr := Lib.hid (show lv.drop j = lv.getD j 0 :: lv.drop (j + 1) by
        rw [List.getD_eq_getElem?_getD, List.getElem?_eq_getElem hlj]
        exact List.drop_eq_getElem_cons hlj)
       replace eL : wr.cell? (adL.add j) = some (Value.int .i64 (lv.getD j 0)) := by rw [List.getD_eq_getElem?_getD]; exact eL
       have hyb := HBd.out _ (getD_mem hlj 0)
       obtain ⟨y, hy⟩ : ∃ y, y = lv.getD j 0 := ⟨_, rfl⟩
       rw [← hy] at eL hyb HDr
       have hhz2 : h < W3.heap.size := hhz
       have hLN : LkN r b (.slice A r.length cap) wr := ⟨⟨B, HP3.out.below ((hkp.below hhz).mono hBh), by have := hkp.size; omega⟩, (hkp.keep b HV3.out.lt hbh9.out).trans HV3.out⟩
       have hdd := hLN.drop hlen.2 hlt ht
       have hd1 := (drop_ge HG.out (i := tn) hlt).1
       have hd2 := drop_le HG.out (i := tn) hlt
       obtain ⟨d, hd⟩ : ∃ d, d = dropR r k tn := ⟨_, rfl⟩
       rw [← hd] at hdd hd1 hd2
       have HDd := Lib.hid hd
       have H4 := Lib.hid (cellOf hrow 4 (v := .int .i64 tn) rfl)
       have H3 := Lib.hid (cellOf hrow 3 (v := .slice AF F.length cF) rfl)
       have F3 := Lib.hid (show wr.frozen? ⟨h, 3, none⟩ = false by simp [World.frozen?, hrow])
       have HD := Lib.hid hdd
       have HX := Lib.hid (fun (X : World) (hb : Below wr.heap.size wr X) => by
        have := hoH.below hb
        rw [← HHl.out] at this
        exact this)
       have HCp := Lib.hid hcp
       have HSl := Lib.hid (show ∀ X : World, True from fun _ => trivial)
       have HRq := Lib.hid hrow
       have HoHq := Lib.hid hoH
       have HoLq := Lib.hid hoL
       have HKq := Lib.hid hkp
       have ht9 : tn < 9 := by omega
       have hk9 : k < 9 := by omega
       rw [← hwq] at HX H4 H3 F3 HD eL HRq HoHq HoLq HKq ⊢
       clear hrow hoF hf1 hf2 hoH hoL hkp hy hhz2 hLN hdd hd hcp hwq
       go_upto_region 20 with (fail)
       clear eL
       refine wp_region_ghost (FxI wq h k hs (y + d) (fun k0 => ([.slice H k cH, .slice H k cH, .int .i64 k, .slice H k cH, .int .i64 k, .slice H k k, .int .i64 y, .pointer (some ⟨b, 0, none⟩), .int .i64 k, .pointer (some ⟨h, 4, none⟩), .int .i64 tn, .pointer (some ⟨b, 0, none⟩), .pointer (some ⟨b, 1, none⟩), .pointer (some ⟨b, 1 + k * 9, none⟩), .pointer (some ⟨b, 1 + k * 9 + tn, none⟩), .int .i64 d, .int .i64 (y + d), undef, undef, .pointer (some ⟨h, 3, none⟩)] : List Value).getD k0 undef)) (by kernel_rfl) (by kernel_rfl) FxI.start ?_ ?_
       ·refine ⟨?_, ?_, ?_, ?_, ?_, ?_, ?_, ?_, ?_, ?_, ?_, ?_, ?_, ?_, ?_, ?_, ?_, ?_, ?_, ?_, ?_, trivial⟩
        all_goals
         intro L vs X b0 hL hw hcl hI hf
        ·have e3 := hf.old 3 (by kernel_rfl)
         exact wp_of_run (v := .slice H k cH) (w' := X) (by unfold execOp; go_simp) (hI.read (by omega) (by omega) (by omega) rfl)
        ·have e3 := hf.old 3 (by kernel_rfl)
         exact wp_of_run (v := .slice H k cH) (w' := X) (by unfold execOp; go_simp) (hI.read (by omega) (by omega) (by omega) rfl)
        ·have e73 := hf.got hw 1 73 (.slice H k cH) rfl (by kernel_rfl) (by simp) (hI.rd 1 (by omega) (by omega) (by omega))
         exact wp_of_run (v := .int .i64 k) (w' := X) (by unfold execOp; go_simp) (hI.read (by omega) (by omega) (by omega) rfl)
        ·have e3 := hf.old 3 (by kernel_rfl)
         exact wp_of_run (v := .slice H k cH) (w' := X) (by unfold execOp; go_simp) (hI.read (by omega) (by omega) (by omega) rfl)
        ·have e75 := hf.got hw 3 75 (.slice H k cH) rfl (by kernel_rfl) (by simp) (hI.rd 3 (by omega) (by omega) (by omega))
         exact wp_of_run (v := .int .i64 k) (w' := X) (by unfold execOp; go_simp) (hI.read (by omega) (by omega) (by omega) rfl)
        ·have e72 := hf.got hw 0 72 (.slice H k cH) rfl (by kernel_rfl) (by simp) (hI.rd 0 (by omega) (by omega) (by omega))
         have e74 := hf.got hw 2 74 (.int .i64 k) rfl (by kernel_rfl) (by simp) (hI.rd 2 (by omega) (by omega) (by omega))
         have e76 := hf.got hw 4 76 (.int .i64 k) rfl (by kernel_rfl) (by simp) (hI.rd 4 (by omega) (by omega) (by omega))
         have hcp := HCp.out
         exact wp_of_run (v := .slice H k k) (w' := X) (by unfold execOp; go_simp) (hI.read (by omega) (by omega) (by omega) rfl)
        ·have e13 := hf.old 13 (by kernel_rfl)
         exact wp_of_run (v := .int .i64 y) (w' := X) (by unfold execOp; go_simp) (hI.read (by omega) (by omega) (by omega) rfl)
        ·have e5 := hf.old 5 (by kernel_rfl)
         exact wp_of_run (v := .pointer (some ⟨b, 0, none⟩)) (w' := X) (by unfold execOp; go_simp) (hI.read (by omega) (by omega) (by omega) rfl)
        ·have e11 := hf.old 11 (by kernel_rfl)
         exact wp_of_run (v := .int .i64 k) (w' := X) (by unfold execOp; go_simp) (hI.read (by omega) (by omega) (by omega) rfl)
        ·have e6 := hf.old 6 (by kernel_rfl)
         exact wp_of_run (v := .pointer (some ⟨h, 4, none⟩)) (w' := X) (by unfold execOp; go_simp) (hI.read (by omega) (by omega) (by omega) rfl)
        ·have e81 := hf.got hw 9 81 (.pointer (some ⟨h, 4, none⟩)) rfl (by kernel_rfl) (by simp) (hI.rd 9 (by omega) (by omega) (by omega))
         have n20 : L 20 = false := not_yet hcl 20 hL rfl (by kernel_rfl)
         have hb := hI.bel n20
         have qH4 := (hb.cell (cell_lt H4.out)).trans H4.out
         exact wp_of_run (v := .int .i64 tn) (w' := X) (by unfold execOp; go_simp) (hI.read (by omega) (by omega) (by omega) rfl)
        ·have e79 := hf.got hw 7 79 (.pointer (some ⟨b, 0, none⟩)) rfl (by kernel_rfl) (by simp) (hI.rd 7 (by omega) (by omega) (by omega))
         exact wp_of_run (v := .pointer (some ⟨b, 0, none⟩)) (w' := X) (by unfold execOp; go_simp) (hI.read (by omega) (by omega) (by omega) rfl)
        ·have e83 := hf.got hw 11 83 (.pointer (some ⟨b, 0, none⟩)) rfl (by kernel_rfl) (by simp) (hI.rd 11 (by omega) (by omega) (by omega))
         exact wp_of_run (v := .pointer (some ⟨b, 1, none⟩)) (w' := X) (by unfold execOp; go_simp) (hI.read (by omega) (by omega) (by omega) rfl)
        ·have e80 := hf.got hw 8 80 (.int .i64 k) rfl (by kernel_rfl) (by simp) (hI.rd 8 (by omega) (by omega) (by omega))
         have e84 := hf.got hw 12 84 (.pointer (some ⟨b, 1, none⟩)) rfl (by kernel_rfl) (by simp) (hI.rd 12 (by omega) (by omega) (by omega))
         refine wp_of_run (v := .pointer (some ⟨b, 1 + k * 9, none⟩)) (w' := X) (by unfold execOp; go_simp; intro hcn; omega) ?_
         exact hI.read (by omega) (by omega) (by omega) rfl
        ·have e82 := hf.got hw 10 82 (.int .i64 tn) rfl (by kernel_rfl) (by simp) (hI.rd 10 (by omega) (by omega) (by omega))
         have e85 := hf.got hw 13 85 (.pointer (some ⟨b, 1 + k * 9, none⟩)) rfl (by kernel_rfl) (by simp) (hI.rd 13 (by omega) (by omega) (by omega))
         refine wp_of_run (v := .pointer (some ⟨b, 1 + k * 9 + tn, none⟩)) (w' := X) (by unfold execOp; go_simp; intro hcn; omega) ?_
         exact hI.read (by omega) (by omega) (by omega) rfl
        ·have e86 := hf.got hw 14 86 (.pointer (some ⟨b, 1 + k * 9 + tn, none⟩)) rfl (by kernel_rfl) (by simp) (hI.rd 14 (by omega) (by omega) (by omega))
         have n20 : L 20 = false := not_yet hcl 20 hL rfl (by kernel_rfl)
         have hb := hI.bel n20
         have qHD := (hb.cell (cell_lt HD.out)).trans HD.out
         exact wp_of_run (v := .int .i64 d) (w' := X) (by unfold execOp; go_simp) (hI.read (by omega) (by omega) (by omega) rfl)
        ·have e78 := hf.got hw 6 78 (.int .i64 y) rfl (by kernel_rfl) (by simp) (hI.rd 6 (by omega) (by omega) (by omega))
         have e87 := hf.got hw 15 87 (.int .i64 d) rfl (by kernel_rfl) (by simp) (hI.rd 15 (by omega) (by omega) (by omega))
         have hw0 : IntKind.i64.wrap (y + d) = y + d := IntWalk.i64_in _ (by omega)
         exact wp_of_run (v := .int .i64 (y + d)) (w' := X) (by unfold execOp; go_simp) (hI.read (by omega) (by omega) (by omega) rfl)
        ·have e88 := hf.got hw 16 88 (.int .i64 (y + d)) rfl (by kernel_rfl) (by simp) (hI.rd 16 (by omega) (by omega) (by omega))
         have n20 : L 20 = false := not_yet hcl 20 hL rfl (by kernel_rfl)
         have hb := hI.bel n20
         exact wp_of_run (v := .slice (some ⟨X.heap.size, 0, none⟩) 1 1) (w' := X.alloc (.cells #[.int .i64 (y + d)] 3)) (by unfold execOp; go_simp) (hI.made n20 (not_yet hcl 18 hL rfl (by kernel_rfl)))
        ·have e77 := hf.got hw 5 77 (.slice H k k) rfl (by kernel_rfl) (by simp) (hI.rd 5 (by omega) (by omega) (by omega))
         have h17 : L 17 = true := done_of hw 17 (by kernel_rfl)
         have n20 : L 20 = false := not_yet hcl 20 hL rfl (by kernel_rfl)
         have hb := hI.bel n20
         obtain ⟨g0, hv17, hg17⟩ := hI.lit h17
         have e89 : b0.tmps[89]?.getD undef = .slice (some ⟨g0, 0, none⟩) 1 1 := (hf.new 17 89 rfl h17 (by simp)).trans hv17
         obtain ⟨A9, c9, w9, hrun9, ho9, hb9⟩ := append_cut (HX.out X hb) (by have := HHl.out; omega) (hg17 n20)
         rw [HHl.out] at hrun9 ho9
         refine wp_of_run (run_exec_append (.tmp 77) (.tmp 89) 30 rfl (eval_tmp e77) (eval_tmp e89) hrun9) ?_
         exact hI.grown n20 ho9 hb9
        ·have e6 := hf.old 6 (by kernel_rfl)
         exact wp_of_run (v := .pointer (some ⟨h, 3, none⟩)) (w' := X) (by unfold execOp; go_simp) (hI.read (by omega) (by omega) (by omega) rfl)
        ·have h18 : L 18 = true := done_of hw 18 (by kernel_rfl)
         have h19 : L 19 = true := done_of hw 19 (by kernel_rfl)
         have hb := hI.bel hL
         obtain ⟨A9, c9, hv18, ho9⟩ := hI.app h18
         have e90 : b0.tmps[90]?.getD undef = .slice A9 (k + 1) c9 := (hf.new 18 90 rfl h18 (by simp)).trans hv18
         have e91 : b0.tmps[91]?.getD undef = .pointer (some ⟨h, 3, none⟩) := (hf.new 19 91 rfl h19 (by simp)).trans (hI.rd 19 (by omega) (by omega) (by omega) h19)
         have qx := (hb.cell (cell_lt H3.out)).trans H3.out
         have fx := (hb.frozen (cell_lt H3.out)).trans F3.out
         have hO := ho9 hL
         refine wp_of_skip (w' := X.setCell ⟨h, 3, none⟩ (.slice A9 (k + 1) c9)) (by unfold execOp; go_simp) ?_
         exact hI.stored hb hO h18 hv18
       ·intro vs X hI
        obtain ⟨X', A9, c9, hbX, hoX, rfl⟩ := hI.st rfl
        clear hI
        have hl9 : (hs ++ [y + d]).length = k + 1 := by simp [HHl.out]
        have hrX := rowX HRq.out hbX
        have hzq := lt_of_block HRq.out
        have hrow9 : (X'.setCell ⟨h, 3, none⟩ (.slice A9 (k + 1) c9)).heap[h]? = some (.cells (cosC b (.slice (some adL) lv.length c) mv (.slice A9 (k + 1) c9) tn) 132) := heap_setCell_row hrX _
        have hk9X : KeepH h W3 (X'.setCell ⟨h, 3, none⟩ (.slice A9 (k + 1) c9)) := (HKq.out.trans (.of_below hbX)).setCell _ _
        have ho9 : Own (h + 1) 3 (X'.setCell ⟨h, 3, none⟩ (.slice A9 (k + 1) c9)) (.slice A9 (k + 1) c9) (hs ++ [y + d]) := (hoX.mono (by omega)).other (by show h < h + 1; omega) _
        have hoL9 := (HoLq.out.below hbX).other (p := ⟨h, 3, none⟩) (by show h < h + 1; omega) (.slice A9 (k + 1) c9)
        have hoH9 := (HoHq.out.below hbX).other (p := ⟨h, 3, none⟩) (by show h < h + 1; omega) (.slice A9 (k + 1) c9)
        obtain ⟨wX, hwX⟩ : ∃ Y, Y = X'.setCell ⟨h, 3, none⟩ (.slice A9 (k + 1) c9) := ⟨_, rfl⟩
        rw [← hwX] at hrow9 hk9X ho9 hoL9 hoH9 ⊢
        rw [← hl9] at hrow9 ho9
        have HAq := Lib.hid (HAs.out wX mv (hs ++ [y + d]) A9 c9 hk9X (by omega) hrow9 hoL9 ho9)
        rw [hl9] at ho9
        have HO9' := Lib.hid ho9
        have HoL9 := Lib.hid hoL9
        have HoH9 := Lib.hid hoH9
        have HKX := Lib.hid hk9X
        have HL9 := Lib.hid hl9
        clear hl9 hrX hzq hrow9 hk9X ho9 hoL9 hoH9 hwX hbX hoX
        have HDk := Lib.hid (show y + dropR r hs.length tn = y + d by rw [HHl.out, HDd.out])
        obtain ⟨cc, hcc⟩ : ∃ c, c = askR r lv (hs ++ [y + d]) tn := ⟨_, rfl⟩
        rw [← hcc] at HAq
        have HCC := Lib.hid hcc
        clear hcc
        simp [fill, slotOf, Act.put]
        generalize vs 0 = u200
        generalize vs 1 = u201
        generalize vs 2 = u202
        generalize vs 3 = u203
        generalize vs 4 = u204
        generalize vs 5 = u205
        generalize vs 6 = u206
        generalize vs 7 = u207
        generalize vs 8 = u208
        generalize vs 9 = u209
        generalize vs 10 = u210
        generalize vs 11 = u211
        generalize vs 12 = u212
        generalize vs 13 = u213
        generalize vs 14 = u214
        generalize vs 15 = u215
        generalize vs 16 = u216
        generalize vs 17 = u217
        generalize vs 18 = u218
        generalize vs 19 = u219
        rw [HL9.out] at HAq
        go_upto_region 21 with (fail)
        by_cases hce : cc = ca
        ·have HF := Lib.hid (show leastK r lv tn ca (k + 1) = hs ++ [y + d] by
          rw [HHs.out, HFd.out, HDr.out, fixR_hit _ (by rw [HDk.out, ← HCC.out]; exact hce), HDk.out])
         have teq : (cc == ca) = true := by simp [hce]
         clear hce
         go_upto_region 23 with (go_at_call 82; refine HAq.out.mono ?_; rintro e w9 ⟨rfl, ⟨mvq, hrowq⟩, hkq⟩)
         have q3 := cellOf hrowq 3 (v := .slice A9 (k + 1) c9) rfl
         have HR9q := Lib.hid hrowq
         have HKq9 := Lib.hid hkq
         clear hrowq hkq
         go_wp2
         go_roundw
         case rel => exact ⟨k + 1, A9, c9, mvq, by omega, by go_num, rfl, by rw [HF.out]; exact HO9'.out.keepH (by omega) HKq9.out, HR9q.out, HoL9.out.keepH (by omega) HKq9.out, HKX.out.trans HKq9.out⟩
         case measure => simp [intOf]; omega
        ·have teq : (cc == ca) = false := by simp [hce]
         have HF1 := Lib.hid (show j + 1 < lv.length → fixR r lv tn ca hs lv = fixR r lv tn ca hs (lv.drop (j + 1)) from fun hj1 => by
          rw [HFd.out, HDr.out, fixR_miss (by intro h; have := List.length_drop (i := j + 1) (l := lv); rw [h] at this; simp at this; omega) (by rw [HDk.out, ← HCC.out]; exact hce)])
         have HF2 := Lib.hid (show j + 1 = lv.length → fixR r lv tn ca hs lv = hs ++ [y + d] from fun hj1 => by
          rw [HFd.out, HDr.out, hj1, List.drop_length, fixR_last, HDk.out])
         clear hce
         go_wp2_with (go_at_call 82; refine HAq.out.mono ?_; rintro e w9 ⟨rfl, ⟨mvq, hrowq⟩, hkq⟩)
         go_roundw
         case rel => exact ⟨j + 1, hs ++ [y + d], A9, c9, mvq, by omega, by go_num, by rw [HL9.out]; exact hrowq, by rw [HL9.out]; exact HO9'.out.keepH (by omega) hkq, HF1.out, HF2.out, HoH9.out.keepH (by omega) hkq, HoL9.out.keepH (by omega) hkq, HKX.out.trans hkq⟩
         case measure => simp [intOf]; omega
      ·have hjn : j = lv.length := by omega
       have HF := Lib.hid (show leastK r lv tn ca (k + 1) = F by rw [HHs.out]; exact hf2 hjn)
       have hFl : F.length = k + 1 := by rw [← HF.out]; exact HLn.out (k + 1)
       rw [hFl] at hrow hoF
       have q3 := cellOf hrow 3 (v := .slice AF (k + 1) cF) rfl
       have HRq := Lib.hid hrow
       have HoFq := Lib.hid hoF
       have HoLq := Lib.hid hoL
       have HKq := Lib.hid hkp
       clear hrow hoF hf1 hf2 hoH hoL hkp hwq hjn hFl
       go_wp2
       go_roundw
       case rel => exact ⟨k + 1, AF, cF, mv, by omega, by go_num, rfl, by rw [HF.out]; exact HoFq.out, HRq.out, HoLq.out, HKq.out⟩
       case measure => simp [intOf]; omega
    ·have hkn : k = r.length := by omega
     have HO9 := Lib.hid hoH
     have HK9' := Lib.hid hkp
     clear hoH hrow hoL hkp
     subst hkn
     go_wp2
     go_ret3
     exact ⟨H, cH, by rw [HCA.out, ← HLV.out]; rfl, by rw [← HLV.out, ← HCA.out]; exact HO9.out.mono (by omega), HB3.out.trans ((HK9'.out.below hhz).mono hwh)⟩
end Go.Proofs.YthnimhnlnddnoaaGreatDoor
