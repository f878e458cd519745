/- Walks of the layer order: Kept of the program. -/
import Derived.Test.YtkmaapkbonkjfaaP8
import Derived.Test.YtkmaapkbonkjfaaQTail
namespace Go.Proofs.Ytkmaapkbonkjfaa
open Go.RowKit

def KeptR (w : World) (s : ShopR) (t : List Int) (part : Int) (e : Ending) (w' : World) : Prop :=
  ∃ A c, e = .returned (.tuple #[.slice A (keptF s t part).1.length c, .int .i64 (keptF s t part).2]) ∧ Rd IntAt 1 w'.heap.size w' (.slice A (keptF s t part).1.length c) (keptF s t part).1 ∧ Below w.heap.size w w'
theorem keptR_eq {w w' : World} {s : ShopR} {t : List Int} {part : Int} {e : Ending} {l : List Int} {n : Int} (h : keptF s t part = (l, n)) {A : Option Addr} {c : Nat} (he : e = .returned (.tuple #[.slice A l.length c, .int .i64 n])) (hr : Rd IntAt 1 w'.heap.size w' (.slice A l.length c) l) (hb : Below w.heap.size w w') : KeptR w s t part e w' := by
  unfold KeptR
  rw [h]
  exact ⟨A, c, he, hr, hb⟩

set_option maxRecDepth 100000 in
theorem pkept_any {B : Nat} {w : World} {v vt : Value} {s : ShopR} {t : List Int} (h : Given B w v vt s t) (part : Int) :
    Calls Try.prog 27 #[v, vt, .int .i64 part] w (KeptR w s t part) := by
  obtain ⟨Ah, ch, Ap, cp, Ao, co, At_, ct, rfl, rfl⟩ := h.form
  obtain ⟨W, hW, c0, c1, c2, hz, hb, _⟩ := shop_box w (.slice Ah s.hours.length ch) (.slice Ap s.parts.length cp) (.slice Ao s.orders.length co)
  go_enter Try.func27, Try.ntmps27
  go_upto_region 1 with (fail)
  rw [← hW]
  have hG := Lib.hid (h.below hb)
  have Hb := Lib.hid hb
  have Hz := Lib.hid hz
  clear hW hz hb h
  by_cases he : takenErr s t = 0
  · have hq := Lib.hid (enter_ok hG.out he)
    obtain ⟨_, hg, hf, ht8⟩ := fit_of he
    have He := Lib.hid he
    clear he
    have hplen := hg.plen
    have hhlen := hg.hlen
    cases n1 : inB part 0 (s.parts.length - 1) with
    | false =>
      have e := Lib.hid (show keptF s t part = ([], 4) by unfold keptF; rw [if_neg (by simp [He.out]), if_pos n1])
      have n1 := (outB_one 0 (s.parts.length - 1) part).trans (by rw [n1])
      have HX := Lib.hid (Below.refl W.heap.size W)
      go_wp2_with (first | (go_at_call 52; refine hq.out.mono ?_; rintro e wx ⟨p, bm, A, c, rfl, hE⟩; have c1 := (hE.bl.cell (cell_lt c1)).trans c1; have HX := Lib.hid (HX.out.trans (hE.bl.mono HX.out.size)); clear hE) | (go_at_call 44; refine (out1 _ _ _ _).mono ?_; rintro e wo ⟨rfl, hbx⟩; have HX := Lib.hid (HX.out.trans (hbx.mono HX.out.size)); clear hbx))
      go_ret2
      exact keptR_eq e.out rfl (Rd.nil _ _) (Hb.out.trans (HX.out.mono Hb.out.size))
    | true =>
    have n2 := (inB_iff.1 n1)
    obtain ⟨q, rfl⟩ : ∃ q : Nat, part = q := ⟨part.toNat, by omega⟩
    have hq3 : q < s.parts.length := by omega
    cases hc : canB s (ofL s t) with
    | false =>
      have e := Lib.hid (show keptF s t q = ([], 9) by unfold keptF; rw [if_neg (by simp [He.out]), if_neg (by simp [n1]), if_neg (by simp [hc])])
      have n1 : outB 0 (s.parts.length - 1) [(q : Int)] = false := by rw [outB_one, n1]; rfl
      have hc' := Lib.hid hc
      clear hc
      go_wp2_with (first | (go_at_call 52; refine hq.out.mono ?_; rintro e wx ⟨p, bm, A, c, rfl, hE⟩; have c1 := (hE.bl.cell (cell_lt c1)).trans c1; have HE := Lib.hid hE; clear hE) | (go_at_call 44; refine (out1 _ _ _ _).mono ?_; rintro e wo ⟨rfl, hbx⟩; have HX := Lib.hid hbx; clear hbx) | (go_at_call 60; refine (pcan_any (HE.out.shop.below HX.out) (HE.out.ls.below HX.out) hg hf HX.out.size).mono ?_; rw [hc'.out]; rintro e wy ⟨rfl, hk, _⟩; have HK := Lib.hid hk; clear hk))
      go_ret2
      exact keptR_eq e.out rfl (Rd.nil _ _) (Hb.out.trans ((HE.out.after ((KeepM.of_below HX.out).trans HK.out)).mono Hb.out.size))
    | true =>
      have e := Lib.hid (show keptF s t q = (keptL s (ofL s t) q, 0) by unfold keptF; rw [if_neg (by simp [He.out]), if_neg (by simp [n1]), if_pos hc]; rfl)
      have n1 : outB 0 (s.parts.length - 1) [(q : Int)] = false := by rw [outB_one, n1]; rfl
      have hc' := Lib.hid hc
      clear hc
      go_upto_region 8 with (first | (go_at_call 52; refine hq.out.mono ?_; rintro e wx ⟨p, bm, A, c, rfl, hE⟩; have c0 := (hE.bl.cell (cell_lt c0)).trans c0; have c1 := (hE.bl.cell (cell_lt c1)).trans c1; have HE := Lib.hid hE; clear hE) | (go_at_call 44; refine (out1 _ _ _ _).mono ?_; rintro e wo ⟨rfl, hbx⟩; have c0 := (hbx.cell (cell_lt c0)).trans c0; have c1 := (hbx.cell (cell_lt c1)).trans c1; have HX := Lib.hid hbx; clear hbx) | (go_at_call 60; refine (pcan_any (HE.out.shop.below HX.out) (HE.out.ls.below HX.out) hg hf HX.out.size).mono ?_; rw [hc'.out]; rintro e wy ⟨rfl, hk, hm⟩; have c0 := hk.cell (HE.out.shop.map.below HX.out) c0; have c1 := hk.cell (HE.out.shop.map.below HX.out) c1; have HK := Lib.hid hk; have HM := Lib.hid hm; clear hk hm))
      have hbw : Below W.heap.size W wy := HE.out.after ((KeepM.of_below HX.out).trans HK.out)
      have hpp : Rd PartAt 4 B W (.slice Ap s.parts.length cp) s.parts := by
        obtain ⟨vh, vp, vo, hv, _, hp, _⟩ := hG.out.shop
        cases hv
        exact hp
      have hle := hG.out.le
      obtain ⟨ap, rfl, hapb, p0, p1, p2, p3⟩ := (hpp.below (hbw.mono hle)).part hq3
      have hok := hg.part hq3
      rw [List.getD_eq_getElem?_getD] at hok
      obtain ⟨pp, hpe⟩ : ∃ pp, pp = s.parts[q]?.getD default := ⟨_, rfl⟩
      rw [← hpe] at p0 p1 p2 p3 hok
      have hb1 := hok.batch
      have hb3 := hok.stock
      have hmk := make_ints s.hours.length (by omega)
      have hqi : (q : Int) < s.parts.length := by omega
      have hsz1 := hbw.size
      have hsz0 := Hz.out
      have hsw : w.heap.size < wy.heap.size := by omega
      have hpb2 : (ap.add (q * 4)).block < wy.heap.size := by rw [block_add]; omega
      obtain ⟨W5, hW5, r5, z5, b5⟩ := box_any wy (intsC s.hours.length fun _ => 0) 3
      have hI5 : IArr W5 wy.heap.size s.hours.length fun _ => 0 := r5
      have k0 := hI5.cell (i := 0) (by omega)
      have kf0 := hI5.frozen 0
      have c0 := (b5.cell (cell_lt c0)).trans c0
      have c1 := (b5.cell (cell_lt c1)).trans c1
      have p1 := (b5.cell (cell_lt p1)).trans p1
      have p3 := (b5.cell (cell_lt p3)).trans p3
      have Hpe := Lib.hid hpe
      have Hbw := Lib.hid hbw
      have HI5 := Lib.hid hI5
      have B5 := Lib.hid b5
      have Z5 := Lib.hid z5
      clear hpe hbw hI5 b5 z5 r5 hpp p0 p2 hsz0
      go_upto_region 9 with (fail)
      rw [← hW5]
      clear hW5 hmk
      go_upto_region 10 with (fail)
      obtain ⟨W6, hW6⟩ : ∃ W6, W6 = W5.setCell ⟨wy.heap.size, 0, none⟩ (.int .i64 pp.stock) := ⟨_, rfl⟩
      rw [← hW6]
      have hI6 : IArr W6 wy.heap.size s.hours.length (kF1 pp.stock pp.batch q []) := by
        rw [hW6]
        exact (HI5.out.set_ 0 pp.stock).congr fun d => by simp [kF1, cntAt]
      have hb6 : Below wy.heap.size wy W6 := by rw [hW6]; exact B5.out.setCell (p := ⟨wy.heap.size, 0, none⟩) (Nat.le_refl _) _
      have hz6 : W6.heap.size = wy.heap.size + 1 := by rw [hW6]; have := Z5.out; simpa [World.setCell] using this
      have c0 := (show W6.cell? ⟨w.heap.size, 0, none⟩ = W5.cell? ⟨w.heap.size, 0, none⟩ by rw [hW6, World.cell?_setCell_other _ _ _ _ (by first | (simp; done) | (simp; omega))]).trans c0
      have c1 := (show W6.cell? ⟨w.heap.size, 1, none⟩ = W5.cell? ⟨w.heap.size, 1, none⟩ by rw [hW6, World.cell?_setCell_other _ _ _ _ (by first | (simp; done) | (simp; omega))]).trans c1
      have p1 := (show W6.cell? ⟨(ap.add (q * 4)).block, (ap.add (q * 4)).off + 1, none⟩ = W5.cell? ⟨(ap.add (q * 4)).block, (ap.add (q * 4)).off + 1, none⟩ by rw [hW6, World.cell?_setCell_other _ _ _ _ (by first | (simp; done) | (simp; omega))]).trans p1
      have hs6 := (((HE.out.shop.below HX.out).keep HK.out HM.out).below hb6)
      have hl6 := ((HE.out.ls.below HX.out).keepM HK.out (HE.out.shop.map.below HX.out)).below (hb6.mono (Nat.le_trans HX.out.size HK.out.size))
      have hbm : bm < wy.heap.size := by obtain ⟨_, _, hh, _⟩ := HM.out; exact lt_of_block hh
      have hxy : wx.heap.size ≤ wy.heap.size := Nat.le_trans HX.out.size HK.out.size
      have hpl := Lib.hid (plan_any hs6 hl6 hg hf hc'.out (by omega))
      have hmem := fun y hy => casts_mem hg hf hc'.out (y := y) hy
      have hcl : (castsL s (ofL s t)).length ≤ 1350 := by rw [castsL_eq, castsC_len]; exact list_bd hg hf _
      have hke : keptL s (ofL s t) q = (List.range s.hours.length).map fun d => psum (kF2 pp.stock pp.batch q (castsL s (ofL s t)) (ofL s t)) d := by
        unfold keptL leftF
        refine List.map_congr_left fun d _ => ?_
        rw [psum_kF2 (fun x hx => (hmem x hx).1) (fun o ho => (hf.all o ho).due.1), List.getD_eq_getElem?_getD, ← Hpe.out]
        rfl
      rw [hke] at e
      have HI6 := Lib.hid hI6
      have Hb6 := Lib.hid hb6
      have Hz6 := Lib.hid hz6
      have Hl6 := Lib.hid hl6
      have Hmem := Lib.hid hmem
      have Hmap := Lib.hid hs6.map
      clear hW6 hI6 hb6 hz6 hs6 hl6 hmem hke p3 k0 kf0
      generalize castsL s (ofL s t) = cs at *
      go_wp2_with (go_at_call 61; refine hpl.out.mono ?_; rintro e wz ⟨A3, c3, rfl, hr3, hk3, hm3, hf3⟩; have c0 := hk3.cell Hmap.out c0; have c1 := hk3.cell Hmap.out c1; have p1 := hk3.cell Hmap.out p1; have HR3 := Lib.hid hr3; have HK3 := Lib.hid hk3; have HF3 := Lib.hid hf3; clear hr3 hk3 hm3 hf3)
      have hIz : IArr wz wy.heap.size s.hours.length (kF1 pp.stock pp.batch q []) := (HK3.out.block _ (by have := Hz6.out; omega) (by omega)).trans HI6.out
      have HIz := Lib.hid hIz
      have hgz : wy.heap.size < wz.heap.size := lt_of_block hIz
      clear hIz
      clear hpl n1
      have Ek := e
      clear e
      go_loopw [55] (fun i wr => ∃ k : Nat, k ≤ cs.length ∧ i = .int .i64 k ∧ IArr wr wy.heap.size s.hours.length (kF1 pp.stock pp.batch q (cs.take k)) ∧ KeepM wy.heap.size wz wr) (fun i _ => cs.length - (intOf i).toNat)
      case atStart => exact ⟨0, Nat.zero_le _, rfl, HIz.out, .refl _ _⟩
      case round =>
        obtain ⟨k, hk, rfl, hI, hkm⟩ := hrel
        have hszr := hkm.size
        have c0 := hkm.cellN c0 (by simp; omega)
        have c1 := hkm.cellN c1 (by simp; omega)
        have p1 := hkm.cellN p1 (by simp; omega)
        by_cases hlt : k < cs.length
        · have hrd := HR3.out.keepG hkm (Nat.le_refl _) (.inr (HF3.out.mono (by have := Hz6.out; omega)))
          obtain ⟨ad, rfl, _⟩ := hrd.cast hlt
          obtain ⟨x0, x1⟩ := cmpAt hrd hlt
          have htk : cs.take (k + 1) = cs.take k ++ [cs[k]?.getD default] := by rw [take_succ_getD hlt default, List.getD_eq_getElem?_getD]
          have hxm := Hmem.out (cs[k]?.getD default) (by rw [← List.getD_eq_getElem?_getD]; exact getD_mem hlt default)
          have hxl : (cs.take k).length ≤ 1350 := by rw [List.length_take]; omega
          have Htk := Lib.hid htk
          have HI := Lib.hid hI
          have HKM := Lib.hid hkm
          clear htk hrd hI hkm
          generalize cs[k]?.getD default = x at *
          obtain ⟨xi, xd⟩ := x
          simp only at x0 x1 hxm
          obtain ⟨d, rfl⟩ := Int.eq_ofNat_of_zero_le hxm.1
          have hd : d < s.hours.length := by omega
          obtain ⟨W8, hW8, r8, z8, d8⟩ := box_any wr #[.int .i64 xi, .int .i64 d] 55
          have e0 := cellOf r8 0 (v := .int .i64 xi) rfl
          have e1 := cellOf r8 1 (v := .int .i64 d) rfl
          have c0 := (d8.cell (cell_lt c0)).trans c0
          have c1 := (d8.cell (cell_lt c1)).trans c1
          have p1 := (d8.cell (cell_lt p1)).trans p1
          have HI8 := Lib.hid (HI.out.below d8)
          have HK8 := Lib.hid (HKM.out.trans (.of_below d8))
          have Z8 := Lib.hid z8
          clear r8 z8 d8
          go_upto_region 13 with (fail)
          rw [← hW8]
          clear hW8 x0 x1
          by_cases hx : xi = q
          · have hx2 : (xi == (q : Int)) = true := by simp [hx]
            have hb := kF1_bd (part := q) hb3 hb1 hxl d
            have kd := HI8.out.cell (i := d) hd
            have kfd := HI8.out.frozen d
            have Hx := Lib.hid hx
            clear hx
            go_upto_region 14 with (fail)
            refine region_quiet_tail (C := fun w' => ∃ n, w' = W8.drewN n) 13 (by kernel_rfl) (by kernel_rfl) ⟨1, rfl⟩ ?_
            simp only [List.take_succ_cons, List.take_zero, List.drop_succ_cons, List.drop_zero]
            repeat (first | go_big_quiet_step (fail) | quiet_step (fail))
            refine wpQuiet_nil ?_
            rintro _ ⟨n1, rfl⟩
            go_wp2
            go_roundw
            case rel =>
              refine ⟨k + 1, by omega, by go_num, ?_, (HK8.out.drewN n1).setAt _ _⟩
              rw [Htk.out]
              exact (IArr.set_ (w := W8.drewN n1) HI8.out d _).congr fun j => kF1_step _ _ _ _ _ Hx.out d rfl j
            case measure => simp [intOf]; omega
          · have hx2 : (xi == (q : Int)) = false := by simp [hx]
            have Hx := Lib.hid hx
            clear hx
            go_wp2
            go_roundw
            case rel =>
              refine ⟨k + 1, by omega, by go_num, ?_, HK8.out⟩
              rw [Htk.out]
              exact HI8.out.congr fun j => kF1_same _ _ _ _ _ Hx.out j
            case measure => simp [intOf]; omega
        · have hkn : k = cs.length := by omega
          subst hkn
          rw [List.take_of_length_le (Nat.le_refl _)] at hI
          have HI := Lib.hid hI
          have HKM := Lib.hid hkm
          clear hI hkm
          have hrl := (Hl6.out.keepM HK3.out Hmap.out).keepG HKM.out (by omega) (.inl hxy)
          have hlt9 : (ofL s t).length = t.length := ofL_len s t
          have hlm := Lib.hid (fun o ho => hf.all o ho)
          have HRL := Lib.hid hrl
          have hll : t.length ≤ 9 := by omega
          have hmany := Lib.hid hf.many
          clear hrl
          generalize ofL s t = l at *
          obtain ⟨wq, rfl⟩ : ∃ wq : World, wq = wr := ⟨_, rfl⟩
          go_wp2
          go_loopw [79] (fun i wr => ∃ k : Nat, k ≤ t.length ∧ i = .int .i64 k ∧ IArr wr wy.heap.size s.hours.length (kF2 pp.stock pp.batch q cs (l.take k)) ∧ KeepM wy.heap.size wq wr) (fun i _ => t.length - (intOf i).toNat)
          case atStart => exact ⟨0, Nat.zero_le _, rfl, HI.out.congr fun d => by simp [kF2, due0], .refl _ _⟩
          case round =>
            obtain ⟨k, hk, rfl, hI, hkm⟩ := hrel
            have hszr := hkm.size
            by_cases hlt : k < t.length
            · have hrd := HRL.out.keepG hkm (by omega) (.inl hxy)
              obtain ⟨ad, rfl, _, x0, x1, x2, x3⟩ := hrd.ord (i := k) (by omega)
              have htk : l.take (k + 1) = l.take k ++ [l[k]?.getD default] := by rw [take_succ_getD (by omega) default, List.getD_eq_getElem?_getD]
              have hxm := hlm.out (l[k]?.getD default) (by rw [← List.getD_eq_getElem?_getD]; exact getD_mem (by omega) default)
              have hxl : (l.take k).length ≤ 9 := by rw [List.length_take]; omega
              have hbd := fun d => kF2_bd (part := q) (l := l.take k) hb3 hb1 hcl hxl (fun o ho => hmany.out o (List.mem_of_mem_take ho)) d
              have Htk := Lib.hid htk
              have HI := Lib.hid hI
              have HKM2 := Lib.hid hkm
              clear htk hrd hI hkm
              generalize l[k]?.getD default = o at *
              obtain ⟨op, om, od, ow⟩ := o
              simp only at x0 x1 x2 x3
              have hdue := hxm.due
              have hmy := hxm.many
              simp only at hdue hmy
              obtain ⟨d, rfl⟩ := Int.eq_ofNat_of_zero_le hdue.1
              have hd : d < s.hours.length := by omega
              have hb := hbd d
              obtain ⟨W8, hW8, r8, z8, d8⟩ := box_any wr #[.int .i64 op, .int .i64 om, .int .i64 d, .int .i64 ow] 60
              have e0 := cellOf r8 0 (v := .int .i64 op) rfl
              have e1 := cellOf r8 1 (v := .int .i64 om) rfl
              have e2 := cellOf r8 2 (v := .int .i64 d) rfl
              have HI8 := Lib.hid (HI.out.below d8)
              have HK8 := Lib.hid (HKM2.out.trans (.of_below d8))
              clear r8 z8 d8 hbd hxm
              go_upto_region 19 with (fail)
              rw [← hW8]
              clear hW8 x0 x1 x2 x3
              by_cases hx : op = q
              · have hx2 : (op == (q : Int)) = true := by simp [hx]
                have kd := HI8.out.cell (i := d) hd
                have kfd := HI8.out.frozen d
                have Hx := Lib.hid hx
                clear hx
                go_upto_region 20 with (fail)
                refine region_quiet_tail (C := fun w' => ∃ n, w' = W8.drewN n) 9 (by kernel_rfl) (by kernel_rfl) ⟨1, rfl⟩ ?_
                simp only [List.take_succ_cons, List.take_zero, List.drop_succ_cons, List.drop_zero]
                repeat (first | go_big_quiet_step (fail) | quiet_step (fail))
                refine wpQuiet_nil ?_
                rintro _ ⟨n1, rfl⟩
                go_wp2
                go_roundw
                case rel =>
                  refine ⟨k + 1, by omega, by go_num, ?_, (HK8.out.drewN n1).setAt _ _⟩
                  rw [Htk.out]
                  exact (IArr.set_ (w := W8.drewN n1) HI8.out d _).congr fun j => kF2_step _ _ _ _ _ ⟨op, om, d, ow⟩ Hx.out d rfl j
                case measure => simp [intOf]; omega
              · have hx2 : (op == (q : Int)) = false := by simp [hx]
                have Hx := Lib.hid hx
                clear hx
                go_wp2
                go_roundw
                case rel =>
                  refine ⟨k + 1, by omega, by go_num, ?_, HK8.out⟩
                  rw [Htk.out]
                  exact HI8.out.congr fun j => kF2_same _ _ _ _ _ ⟨op, om, d, ow⟩ Hx.out j
                case measure => simp [intOf]; omega
            · have hkn : k = t.length := by omega
              subst hkn
              rw [List.take_of_length_le (by omega)] at hI
              have HI := Lib.hid hI
              have HKM2 := Lib.hid (HKM.out.trans hkm)
              have hbd := Lib.hid (fun d => kF2_bd (part := q) (l := l) hb3 hb1 hcl (by omega) (fun o ho => hmany.out o ho) d)
              clear hI hkm
              obtain ⟨wu, rfl⟩ : ∃ wu : World, wu = wr := ⟨_, rfl⟩
              generalize kF2 pp.stock pp.batch q cs l = F at *
              go_wp2
              go_loopw [100] (fun i wr => ∃ k : Nat, k ≤ s.hours.length - 1 ∧ i = .int .i64 k ∧ IArr wr wy.heap.size s.hours.length (kF3 F k) ∧ KeepM wy.heap.size wu wr) (fun i _ => s.hours.length - 1 - (intOf i).toNat)
              case atStart => exact ⟨0, Nat.zero_le _, rfl, by rw [kF3_zero]; exact HI.out, .refl _ _⟩
              case round =>
                obtain ⟨k, hk, rfl, hI, hkm⟩ := hrel
                by_cases hlt : k < s.hours.length - 1
                · have k0 := hI.cell (i := k) (by omega)
                  have k1 := hI.cell (i := k + 1) (by omega)
                  have kf1 := hI.frozen (k + 1)
                  have g0 := kF3_bd hbd.out k (d := k) (by omega)
                  have g1 := kF3_bd hbd.out k (d := k + 1) (by omega)
                  have HI2 := Lib.hid hI
                  have HKM3 := Lib.hid hkm
                  clear hI hkm
                  go_upto_region 25 with (fail)
                  refine region_quiet_tail (C := fun w' => ∃ n, w' = wr.drewN n) 11 (by kernel_rfl) (by kernel_rfl) ⟨1, rfl⟩ ?_
                  simp only [List.take_succ_cons, List.take_zero, List.drop_succ_cons, List.drop_zero]
                  repeat (first | go_big_quiet_step (fail) | quiet_step (fail))
                  refine wpQuiet_nil ?_
                  rintro _ ⟨n1, rfl⟩
                  go_wp2
                  go_roundw
                  case rel =>
                    refine ⟨k + 1, by omega, by go_num, ?_, (HKM3.out.drewN n1).setAt _ _⟩
                    exact (IArr.set_ (w := wr.drewN n1) HI2.out (k + 1) _).congr fun j => kF3_step _ _ _
                  case measure => simp [intOf]; omega
                · have hkn : k = s.hours.length - 1 := by omega
                  have HI2 := Lib.hid hI
                  have HKM3 := Lib.hid hkm
                  clear hI hkm
                  go_wp2
                  go_ret2
                  have hkk := HKM2.out.trans HKM3.out
                  have hI9 := (HI2.out.congr (G := kF3 F k) fun _ => rfl).rd (by omega)
                  have hfin : (List.range s.hours.length).map (kF3 F k) = (List.range s.hours.length).map fun d => psum F d := by
                    refine List.map_congr_left fun d hd => ?_
                    rw [List.mem_range] at hd
                    unfold kF3
                    rw [if_pos (by omega)]
                  rw [hfin] at hI9
                  have hlen : ((List.range s.hours.length).map fun d => psum F d).length = s.hours.length := by simp
                  refine keptR_eq Ek.out (A := some ⟨wy.heap.size, 0, none⟩) (c := s.hours.length) ?_ ?_ ?_
                  · rw [hlen]; rfl
                  · rw [hlen]; exact hI9.mono (lt_of_block HI2.out)
                  · have b1 := Hbw.out.trans (Hb6.out.mono hsz1)
                    have b2 := b1.trans (HK3.out.below b1.size HE.out.hm)
                    exact Hb.out.trans ((b2.trans (hkk.below b2.size hsz1)).mono Hb.out.size)
  · have hq := Lib.hid (enter_bad hG.out he)
    have e := Lib.hid (show keptF s t part = ([], takenErr s t) by unfold keptF; rw [if_pos he])
    have hne : (takenErr s t != 0) = true := by simpa using he
    clear he
    go_wp2_with (go_at_call 52; refine hq.out.mono ?_; rintro e wx ⟨rfl, hbx⟩)
    go_ret2
    exact keptR_eq e.out rfl (Rd.nil _ _) (Hb.out.trans (hbx.mono Hb.out.size))
end Go.Proofs.Ytkmaapkbonkjfaa
