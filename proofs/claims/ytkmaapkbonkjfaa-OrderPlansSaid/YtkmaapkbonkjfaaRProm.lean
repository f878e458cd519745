/- Walks of the layer order: Promise of the reference. -/
import Derived.Test.YtkmaapkbonkjfaaRPlans
import Derived.Test.YtkmaapkbonkjfaaLawP
set_option linter.unusedSimpArgs false
set_option linter.unusedVariables false
namespace Go.Proofs.Ytkmaapkbonkjfaa
open Go.RowKit

theorem promiseF_err {s : ShopR} {t : List Int} (part many : Int) (h : takenErr s t ≠ 0) : promiseF s t part many = (0, takenErr s t) := by unfold promiseF; rw [if_pos h]
theorem promiseF_part {s : ShopR} {t : List Int} {part : Int} (many : Int) (h : takenErr s t = 0) (hp : inB part 0 (s.parts.length - 1) = false) : promiseF s t part many = (0, 4) := by unfold promiseF; rw [if_neg (by simp [h]), if_pos hp]
theorem promiseF_many {s : ShopR} {t : List Int} {part many : Int} (h : takenErr s t = 0) (hp : inB part 0 (s.parts.length - 1) = true) (hm : inB many 1 50 = false) : promiseF s t part many = (0, 7) := by unfold promiseF; rw [if_neg (by simp [h]), if_neg (by simp [hp]), if_pos hm]

set_option maxRecDepth 100000 in
set_option maxHeartbeats 2000000 in
theorem rpromise_any {B : Nat} {w : World} {v vt : Value} {s : ShopR} {t : List Int} (h : Given B w v vt s t) (part many : Int) :
    Calls Try.prog 30 #[v, vt, .int .i64 part, .int .i64 many] w fun e w' => e = .returned (promiseFV s t part many) ∧ Below w.heap.size w w' := by
  obtain ⟨Ah, ch, Ap, cp, Ao, co, At_, ct, rfl, rfl⟩ := h.form
  obtain ⟨W, hW, c0, c1, c2, hz, hb, _⟩ := shop_box w (.slice Ah s.hours.length ch) (.slice Ap s.parts.length cp) (.slice Ao s.orders.length co)
  go_enter Try.func30, Try.ntmps30
  go_upto_region 1 with (fail)
  rw [← hW]
  have hG := Lib.hid (h.below hb)
  have Hb := Lib.hid hb
  clear hW hz hb h
  have hq := Lib.hid (rtaken_any hG.out)
  by_cases he : takenErr s t = 0
  · rw [he] at hq
    have He := Lib.hid he
    obtain ⟨_, hg0, hf0, _⟩ := fit_of he
    have hpl := hg0.plen
    have hhl := hg0.hlen
    have Hg := Lib.hid hg0
    have Hf := Lib.hid hf0
    clear he hg0 hf0
    cases hin : inB part 0 (s.parts.length - 1) with
    | false =>
      have e := Lib.hid (promiseFV_eq (promiseF_part many He.out hin))
      have Hi := Lib.hid hin
      clear hin
      go_wp2_with (first | (go_at_call 41; refine hq.out.mono ?_; rintro e wx ⟨rfl, hbx⟩; have c0 := (hbx.cell (cell_lt c0)).trans c0; have c1 := (hbx.cell (cell_lt c1)).trans c1; have c2 := (hbx.cell (cell_lt c2)).trans c2; have HX := Lib.hid hbx; clear hbx) | (go_at_call 50; refine (in_any _ _ _ _).mono ?_; rw [Hi.out]; rintro e wy ⟨rfl, h0⟩; have h0 := h0.symm; subst h0))
      go_ret2
      exact ⟨by rw [e.out]; rfl, Hb.out.trans (HX.out.mono Hb.out.size)⟩
    | true =>
      have Hi := Lib.hid hin
      cases hmn : inB many 1 50 with
      | false =>
        have e := Lib.hid (promiseFV_eq (promiseF_many He.out hin hmn))
        have Hm := Lib.hid hmn
        clear hin hmn
        go_wp2_with (first | (go_at_call 41; refine hq.out.mono ?_; rintro e wx ⟨rfl, hbx⟩; have c0 := (hbx.cell (cell_lt c0)).trans c0; have c1 := (hbx.cell (cell_lt c1)).trans c1; have c2 := (hbx.cell (cell_lt c2)).trans c2; have HX := Lib.hid hbx; clear hbx) | (go_at_call 50; first | ((with_reducible refine (in_any part 0 _ _).mono ?_); rw [Hi.out]; rintro e wy ⟨rfl, h0⟩; have h0 := h0.symm; subst h0) | ((with_reducible refine (in_any many 1 50 _).mono ?_); rw [Hm.out]; rintro e wy ⟨rfl, h0⟩; have h0 := h0.symm; subst h0)))
        go_ret2
        exact ⟨by rw [e.out]; rfl, Hb.out.trans (HX.out.mono Hb.out.size)⟩
      | true =>
        have Hm := Lib.hid hmn
        have Hfi := Lib.hid (fun k hk => fit_more (k := k) He.out hin hmn hk)
        clear hin hmn
        go_upto_region 9 with (first | (go_at_call 41; refine hq.out.mono ?_; rintro e wx ⟨rfl, hbx⟩; have c0 := (hbx.cell (cell_lt c0)).trans c0; have c1 := (hbx.cell (cell_lt c1)).trans c1; have c2 := (hbx.cell (cell_lt c2)).trans c2; have HX := Lib.hid hbx; have HGd := Lib.hid (hG.out.below hbx); clear hbx) | (go_at_call 50; first | ((with_reducible refine (in_any part 0 _ _).mono ?_); rw [Hi.out]; rintro e wy ⟨rfl, h0⟩; have h0 := h0.symm; subst h0) | ((with_reducible refine (in_any many 1 50 _).mono ?_); rw [Hm.out]; rintro e wy ⟨rfl, h0⟩; have h0 := h0.symm; subst h0)) | (go_at_call 55; refine (rof_at HGd.out He.out).mono ?_; rintro e w4 ⟨A, c, rfl, hr⟩; have HR := Lib.hid hr; have c0 := (hr.bel.cell (cell_lt c0)).trans c0; have c1 := (hr.bel.cell (cell_lt c1)).trans c1; have c2 := (hr.bel.cell (cell_lt c2)).trans c2; clear hr))
        have HG4 := Lib.hid (HGd.out.below HR.out.bel)
        have Hbw : Hid (Below w.heap.size w w4) := Lib.hid (Hb.out.trans ((HX.out.trans (HR.out.bel.mono HX.out.size)).mono Hb.out.size))
        have HRl := Lib.hid HR.out.rd
        have C0 := Lib.hid c0
        have C1 := Lib.hid c1
        have C2 := Lib.hid c2
        have hlen : (ofL s t).length = t.length := ofL_len s t
        have hl9 := Hf.out.len
        rw [← hlen] at HRl
        have Hlen := Lib.hid hlen
        clear HR c0 c1 c2 hlen
        have hnone : ∀ d, (∀ j, j < d → canB s (ofL s t ++ [⟨part, many, j, 0⟩]) = false) → d = s.hours.length → promiseFV s t part many = .tuple #[.int .i64 0, .int .i64 9] := fun d hno hd =>
          promiseFV_eq (promiseF_none He.out Hi.out Hm.out (by unfold promiseL; exact fst?_none fun j hj => hno j (by omega)))
        have hsome : ∀ d, (∀ j, j < d → canB s (ofL s t ++ [⟨part, many, j, 0⟩]) = false) → d < s.hours.length → canB s (ofL s t ++ [⟨part, many, d, 0⟩]) = true → promiseFV s t part many = .tuple #[.int .i64 d, .int .i64 0] := fun d hno hd hc =>
          promiseFV_eq (promiseF_some He.out Hi.out Hm.out (by unfold promiseL; exact fst?_some hd hc fun j hj => hno j hj))
        have Hnone := Lib.hid hnone
        have Hsome := Lib.hid hsome
        clear hnone hsome
        generalize ofL s t = l at *
        go_wp2
        go_loopw [12] (fun dv wr => ∃ d : Nat, d ≤ s.hours.length ∧ dv = .int .i64 d ∧ Hid (∀ j, j < d → canB s (l ++ [⟨part, many, j, 0⟩]) = false) ∧ Below w4.heap.size w4 wr) (fun dv _ => s.hours.length - (intOf dv).toNat)
        case atStart => exact ⟨0, Nat.zero_le _, rfl, Lib.hid (fun j hj => by omega), Below.refl _ _⟩
        case round =>
          obtain ⟨d, hd, rfl, Hno, hbr⟩ := hrel
          have Hbr := Lib.hid hbr
          have c0 := (hbr.cell (cell_lt C0.out)).trans C0.out
          have c1 := (hbr.cell (cell_lt C1.out)).trans C1.out
          have c2 := (hbr.cell (cell_lt C2.out)).trans C2.out
          have HG := Lib.hid (HG4.out.below hbr)
          have HL := Lib.hid ((HRl.out.below hbr).mono hbr.size)
          clear hbr
          by_cases hdl : d < s.hours.length
          · have Hmo : Hid (Calls Try.prog 67 #[.slice A t.length c, .agg #[.int .i64 part, .int .i64 many, .int .i64 d, .int .i64 0]] wr.drew fun e w' => ∃ A c, e = .returned (.slice A (l.length + 1) c) ∧ Own wr.drew.heap.size 60 w' (.slice A (l.length + 1) c) (l ++ [⟨part, many, d, 0⟩]) ∧ Below wr.drew.heap.size wr.drew w') := Lib.hid (by rw [← Hlen.out]; exact more_any (HL.out.below (Below.refl _ _).drew) (Nat.le_refl _) (by omega) ⟨part, many, d, 0⟩)
            have Hcn := Lib.hid (fun (w2 : World) (A : Option Addr) (c : Nat) (hb2 : Below wr.drew.heap.size wr.drew w2) (hr : Rd OrdAt 4 w2.heap.size w2 (.slice A (l.length + 1) c) (l ++ [⟨part, many, d, 0⟩])) =>
              can_any (w := w2) (((HG.out.shop.below ((Below.refl _ _).drew)).below (hb2.mono HG.out.le)).mono (Nat.le_trans HG.out.le hb2.size)) hr Hg.out (Hfi.out d hdl) (Nat.le_refl _))
            cases hcb : canB s (l ++ [⟨part, many, d, 0⟩]) with
            | true =>
              have e := Lib.hid (Hsome.out d Hno.out hdl hcb)
              rw [hcb] at Hcn
              clear hcb
              go_upto_region 12 with (fail)
              go_region_held3 (fun w' => w'.cell? ⟨w.heap.size, 0, none⟩ = some (.slice Ah s.hours.length ch) ∧ w'.cell? ⟨w.heap.size, 1, none⟩ = some (.slice Ap s.parts.length cp) ∧ w'.cell? ⟨w.heap.size, 2, none⟩ = some (.slice Ao s.orders.length co))
                (first | go_keep | exact ⟨c0, c1, c2⟩)
                ((first
                  | (go_at_call 67; refine Hmo.out.mono ?_; rintro e w5 ⟨A5, c5, rfl, hown, hb5⟩; have c0 := (hb5.cell (cell_lt (w := wr.drew) c0)).trans c0; have c1 := (hb5.cell (cell_lt (w := wr.drew) c1)).trans c1; have c2 := (hb5.cell (cell_lt (w := wr.drew) c2)).trans c2; have HR5 := Lib.hid hown.rd; have HB5 := Lib.hid hb5; clear hown hb5)
                  | (go_at_call 62; refine (Hcn.out _ _ _ HB5.out (by simpa using HR5.out)).mono ?_; rintro e w6 ⟨rfl, hb3⟩; have c0 := (hb3.cell (cell_lt c0)).trans c0; have c1 := (hb3.cell (cell_lt c1)).trans c1; have c2 := (hb3.cell (cell_lt c2)).trans c2; have HB6 := Lib.hid (HB5.out.trans (hb3.mono HB5.out.size)); clear hb3)))
              have hb6 : Below w4.heap.size w4 w6 := Hbr.out.trans (((Below.refl wr.heap.size wr).drew.trans HB6.out).mono Hbr.out.size)
              have Hb6 := Lib.hid hb6
              clear hb6
              simp only [Exit.inBlock, Exit.then]
              go_wp2
              go_ret2
              exact ⟨by rw [e.out]; rfl, Hbw.out.trans (Hb6.out.mono Hbw.out.size)⟩
            | false =>
              rw [hcb] at Hcn
              have Hn : Hid (∀ j, j < d + 1 → canB s (l ++ [⟨part, many, j, 0⟩]) = false) := Lib.hid fun j hj => by
                by_cases e : j < d
                · exact Hno.out j e
                · obtain rfl : j = d := by omega
                  exact hcb
              clear hcb
              go_upto_region 12 with (fail)
              go_region_held3 (fun w' => w'.cell? ⟨w.heap.size, 0, none⟩ = some (.slice Ah s.hours.length ch) ∧ w'.cell? ⟨w.heap.size, 1, none⟩ = some (.slice Ap s.parts.length cp) ∧ w'.cell? ⟨w.heap.size, 2, none⟩ = some (.slice Ao s.orders.length co))
                (first | go_keep | exact ⟨c0, c1, c2⟩)
                ((first
                  | (go_at_call 67; refine Hmo.out.mono ?_; rintro e w5 ⟨A5, c5, rfl, hown, hb5⟩; have c0 := (hb5.cell (cell_lt (w := wr.drew) c0)).trans c0; have c1 := (hb5.cell (cell_lt (w := wr.drew) c1)).trans c1; have c2 := (hb5.cell (cell_lt (w := wr.drew) c2)).trans c2; have HR5 := Lib.hid hown.rd; have HB5 := Lib.hid hb5; clear hown hb5)
                  | (go_at_call 62; refine (Hcn.out _ _ _ HB5.out (by simpa using HR5.out)).mono ?_; rintro e w6 ⟨rfl, hb3⟩; have c0 := (hb3.cell (cell_lt c0)).trans c0; have c1 := (hb3.cell (cell_lt c1)).trans c1; have c2 := (hb3.cell (cell_lt c2)).trans c2; have HB6 := Lib.hid (HB5.out.trans (hb3.mono HB5.out.size)); clear hb3)))
              have hb6 : Below w4.heap.size w4 w6 := Hbr.out.trans (((Below.refl wr.heap.size wr).drew.trans HB6.out).mono Hbr.out.size)
              have Hb6 := Lib.hid hb6
              clear hb6
              simp only [Exit.inBlock, Exit.then]
              go_wp2
              go_roundw
              case rel => exact ⟨d + 1, by omega, by go_num, Hn, Hb6.out⟩
              case measure => simp [intOf]; omega
          · have hde : d = s.hours.length := by omega
            have e := Lib.hid (Hnone.out d Hno.out hde)
            subst hde
            go_wp2
            go_ret2
            exact ⟨by rw [e.out]; rfl, Hbw.out.trans (Hbr.out.mono Hbw.out.size)⟩
  · have e := Lib.hid (promiseFV_eq (promiseF_err part many he))
    have hne : (takenErr s t != 0) = true := by simpa using he
    have heq : (takenErr s t == 0) = false := by simpa using he
    clear he
    go_wp2_with (go_at_call 41; refine hq.out.mono ?_; rintro e wx ⟨rfl, hbx⟩; have HX := Lib.hid hbx; clear hbx)
    go_ret2
    exact ⟨by rw [e.out]; rfl, Hb.out.trans (HX.out.mono Hb.out.size)⟩
end Go.Proofs.Ytkmaapkbonkjfaa
