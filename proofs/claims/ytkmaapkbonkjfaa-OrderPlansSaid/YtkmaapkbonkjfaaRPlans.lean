/- Walks of the layer order: Plan of the reference. -/
import Derived.Test.YtkmaapkbonkjfaaRMore
import Derived.Deep.RegionHeld3
set_option linter.unusedSimpArgs false
set_option linter.unusedVariables false
namespace Go.Proofs.Ytkmaapkbonkjfaa
open Go.RowKit

/-- what a slice of orders is good for in the worlds behind one -/
structure OfR (w0 : World) (A : Option Addr) (n c : Nat) (l : List OrdR) (w : World) : Prop where
  bel : Below w0.heap.size w0 w
  rd : Rd OrdAt 4 w.heap.size w (.slice A n c) l
theorem OfR.next {w0 w w' : World} {A : Option Addr} {n c : Nat} {l : List OrdR} (h : OfR w0 A n c l w) (hb : Below w.heap.size w w') : OfR w0 A n c l w' := ⟨h.bel.trans (hb.mono h.bel.size), (h.rd.below hb).mono hb.size⟩

theorem rof_at {B : Nat} {w : World} {v vt : Value} {s : ShopR} {t : List Int} (h : Given B w v vt s t) (he : takenErr s t = 0) : Calls Try.prog 55 #[v, vt] w fun e w' => ∃ A c, e = .returned (.slice A t.length c) ∧ OfR w A t.length c (ofL s t) w' :=
  (rof_any h he).mono fun e w' ⟨A, c, h1, h2, h3⟩ => ⟨A, c, h1, h3, h2⟩
theorem rcan_at {B : Nat} {w0 w : World} {v vt : Value} {s : ShopR} {t : List Int} (h : Given B w0 v vt s t) (he : takenErr s t = 0) {A : Option Addr} {n c : Nat} (ho : OfR w0 A n c (ofL s t) w) :
    Calls Try.prog 62 #[v, .slice A n c] w fun e w' => e = .returned (.bool (canB s (ofL s t))) ∧ Below w.heap.size w w' := by
  obtain ⟨_, hg, hf, _⟩ := fit_of he
  exact can_any ((h.shop.below (ho.bel.mono h.le)).mono (Nat.le_trans h.le ho.bel.size)) ho.rd hg hf (Nat.le_refl _)
theorem rcasts_at {B : Nat} {w0 w : World} {v vt : Value} {s : ShopR} {t : List Int} (h : Given B w0 v vt s t) (he : takenErr s t = 0) (hc : canB s (ofL s t) = true) {A : Option Addr} {n c : Nat} (ho : OfR w0 A n c (ofL s t) w) :
    Calls Try.prog 63 #[v, .slice A n c] w fun e w' => ∃ A c, e = .returned (.slice A (castsL s (ofL s t)).length c) ∧ Own w.heap.size 55 w' (.slice A (castsL s (ofL s t)).length c) (castsL s (ofL s t)) ∧ Below w.heap.size w w' := by
  obtain ⟨_, hg, hf, _⟩ := fit_of he
  exact rcasts_any ((h.shop.below (ho.bel.mono h.le)).mono (Nat.le_trans h.le ho.bel.size)) ho.rd hg hf hc h.nm (Nat.le_refl _)
theorem planF_bad {s : ShopR} {t : List Int} (h : takenErr s t ≠ 0) : planF s t = ([], takenErr s t) := by unfold planF; rw [if_pos h]
theorem planF_no {s : ShopR} {t : List Int} (h : takenErr s t = 0) (hc : canB s (ofL s t) = false) : planF s t = ([], 9) := by unfold planF; rw [if_neg (by simp [h]), hc]; rfl
theorem planF_ok {s : ShopR} {t : List Int} (h : takenErr s t = 0) (hc : canB s (ofL s t) = true) : planF s t = (castsL s (ofL s t), 0) := by unfold planF; rw [if_neg (by simp [h]), hc]; rfl

set_option maxRecDepth 100000 in
set_option maxHeartbeats 2000000 in
theorem rplan_any {B : Nat} {w : World} {v vt : Value} {s : ShopR} {t : List Int} (h : Given B w v vt s t) :
    Calls Try.prog 25 #[v, vt] w (PlanR w s t) := by
  obtain ⟨Ah, ch, Ap, cp, Ao, co, At_, ct, rfl, rfl⟩ := h.form
  obtain ⟨W, hW, c0, c1, c2, hz, hb, _⟩ := shop_box w (.slice Ah s.hours.length ch) (.slice Ap s.parts.length cp) (.slice Ao s.orders.length co)
  go_enter Try.func25, Try.ntmps25
  go_upto_region 1 with (fail)
  rw [← hW]
  have hG := Lib.hid (h.below hb)
  have Hb := Lib.hid hb
  clear hW hz hb h
  have hq := Lib.hid (rtaken_any hG.out)
  by_cases he : takenErr s t = 0
  · rw [he] at hq
    have He := Lib.hid he
    clear he
    go_upto_region 2 with (go_at_call 41; refine hq.out.mono ?_; rintro e wx ⟨rfl, hbx⟩; have c0 := (hbx.cell (cell_lt c0)).trans c0; have c1 := (hbx.cell (cell_lt c1)).trans c1; have c2 := (hbx.cell (cell_lt c2)).trans c2; have HX := Lib.hid hbx; clear hbx)
    have hGd : Given B wx.drew _ _ s t := (hG.out.below HX.out).below (Below.refl _ _).drew
    have HGd := Lib.hid hGd
    clear hGd
    cases hcb : canB s (ofL s t) with
    | false =>
      have e := Lib.hid (planF_no He.out hcb)
      have Hc := Lib.hid hcb
      clear hcb
      go_region_held3 (fun w' => w'.cell? ⟨w.heap.size, 0, none⟩ = some (.slice Ah s.hours.length ch) ∧ w'.cell? ⟨w.heap.size, 1, none⟩ = some (.slice Ap s.parts.length cp) ∧ w'.cell? ⟨w.heap.size, 2, none⟩ = some (.slice Ao s.orders.length co))
        (first | go_keep | exact ⟨c0, c1, c2⟩)
        ((first
          | (go_at_call 55; refine (rof_at HGd.out He.out).mono ?_; rintro e w2 ⟨A, c, rfl, hr⟩; have c0 := (hr.bel.cell (cell_lt (w := wx.drew) c0)).trans c0; have c1 := (hr.bel.cell (cell_lt (w := wx.drew) c1)).trans c1; have c2 := (hr.bel.cell (cell_lt (w := wx.drew) c2)).trans c2; have HR := Lib.hid hr; clear hr)
          | (go_at_call 62; refine (rcan_at HGd.out He.out HR.out).mono ?_; rw [Hc.out]; rintro e w3 ⟨rfl, hb3⟩; have c0 := (hb3.cell (cell_lt c0)).trans c0; have c1 := (hb3.cell (cell_lt c1)).trans c1; have c2 := (hb3.cell (cell_lt c2)).trans c2; have HR := Lib.hid (HR.out.next hb3); clear hb3)))
      have hbw : Below w.heap.size w w3 := Hb.out.trans ((HX.out.trans ((((Below.refl wx.heap.size wx).drew).trans HR.out.bel).mono HX.out.size)).mono Hb.out.size)
      have Hbw := Lib.hid hbw
      clear hbw
      try simp only [Exit.inBlock, Exit.then]
      go_wp2
      go_ret2
      exact planR_eq e.out rfl (Rd.nil _ _) Hbw.out
    | true =>
      have e := Lib.hid (planF_ok He.out hcb)
      have Hc := Lib.hid hcb
      clear hcb
      go_region_held3 (fun w' => w'.cell? ⟨w.heap.size, 0, none⟩ = some (.slice Ah s.hours.length ch) ∧ w'.cell? ⟨w.heap.size, 1, none⟩ = some (.slice Ap s.parts.length cp) ∧ w'.cell? ⟨w.heap.size, 2, none⟩ = some (.slice Ao s.orders.length co))
        (first | go_keep | exact ⟨c0, c1, c2⟩)
        ((first
          | (go_at_call 55; refine (rof_at HGd.out He.out).mono ?_; rintro e w2 ⟨A, c, rfl, hr⟩; have c0 := (hr.bel.cell (cell_lt (w := wx.drew) c0)).trans c0; have c1 := (hr.bel.cell (cell_lt (w := wx.drew) c1)).trans c1; have c2 := (hr.bel.cell (cell_lt (w := wx.drew) c2)).trans c2; have HR := Lib.hid hr; clear hr)
          | (go_at_call 62; refine (rcan_at HGd.out He.out HR.out).mono ?_; rw [Hc.out]; rintro e w3 ⟨rfl, hb3⟩; have c0 := (hb3.cell (cell_lt c0)).trans c0; have c1 := (hb3.cell (cell_lt c1)).trans c1; have c2 := (hb3.cell (cell_lt c2)).trans c2; have HR := Lib.hid (HR.out.next hb3); clear hb3)))
      have hbw : Below w.heap.size w w3 := Hb.out.trans ((HX.out.trans ((((Below.refl wx.heap.size wx).drew).trans HR.out.bel).mono HX.out.size)).mono Hb.out.size)
      have Hbw := Lib.hid hbw
      have hGd : Given B w3.drew _ _ s t := (HGd.out.below HR.out.bel).below (Below.refl _ _).drew
      have HGd := Lib.hid hGd
      clear hbw hGd HR
      try simp only [Exit.inBlock, Exit.then]
      go_upto_region 6 with (fail)
      go_region_held3 (fun w' => w'.cell? ⟨w.heap.size, 0, none⟩ = some (.slice Ah s.hours.length ch) ∧ w'.cell? ⟨w.heap.size, 1, none⟩ = some (.slice Ap s.parts.length cp) ∧ w'.cell? ⟨w.heap.size, 2, none⟩ = some (.slice Ao s.orders.length co))
        (first | go_keep | exact ⟨c0, c1, c2⟩)
        ((first
          | (go_at_call 55; refine (rof_at HGd.out He.out).mono ?_; rintro e w4 ⟨A, c, rfl, hr⟩; have c0 := (hr.bel.cell (cell_lt (w := w3.drew) c0)).trans c0; have c1 := (hr.bel.cell (cell_lt (w := w3.drew) c1)).trans c1; have c2 := (hr.bel.cell (cell_lt (w := w3.drew) c2)).trans c2; have HR := Lib.hid hr; clear hr)
          | (go_at_call 63; refine (rcasts_at HGd.out He.out Hc.out HR.out).mono ?_; rintro e w5 ⟨A5, c5, rfl, hown, hb3⟩; have c0 := (hb3.cell (cell_lt c0)).trans c0; have c1 := (hb3.cell (cell_lt c1)).trans c1; have c2 := (hb3.cell (cell_lt c2)).trans c2; have HR := Lib.hid (HR.out.next hb3); have HO := Lib.hid hown; clear hb3 hown)))
      have hbw : Below w.heap.size w w5 := Hbw.out.trans ((((Below.refl w3.heap.size w3).drew).trans HR.out.bel).mono Hbw.out.size)
      have Hbw := Lib.hid hbw
      clear hbw
      try simp only [Exit.inBlock, Exit.then]
      go_wp2
      go_ret2
      exact planR_eq e.out rfl HO.out.rd Hbw.out
  · have e := Lib.hid (planF_bad he)
    have hne : (takenErr s t != 0) = true := by simpa using he
    have heq : (takenErr s t == 0) = false := by simpa using he
    clear he
    go_upto_region 2 with (go_at_call 41; refine hq.out.mono ?_; rintro e wx ⟨rfl, hbx⟩; have HX := Lib.hid hbx; clear hbx)
    go_quiet (fail)
    go_wp2
    go_ret2
    exact planR_eq e.out rfl (Rd.nil _ _) (Hb.out.trans (below_drewN (HX.out.mono Hb.out.size) _))

theorem keptF_bad {s : ShopR} {t : List Int} (part : Int) (h : takenErr s t ≠ 0) : keptF s t part = ([], takenErr s t) := by unfold keptF; rw [if_pos h]
theorem keptF_out {s : ShopR} {t : List Int} {part : Int} (h : takenErr s t = 0) (hp : inB part 0 (s.parts.length - 1) = false) : keptF s t part = ([], 4) := by unfold keptF; rw [if_neg (by simp [h]), if_pos hp]
theorem keptF_no {s : ShopR} {t : List Int} {part : Int} (h : takenErr s t = 0) (hp : inB part 0 (s.parts.length - 1) = true) (hc : canB s (ofL s t) = false) : keptF s t part = ([], 9) := by unfold keptF; rw [if_neg (by simp [h]), if_neg (by simp [hp]), hc]; rfl
theorem keptF_ok {s : ShopR} {t : List Int} {part : Nat} (h : takenErr s t = 0) (hp : inB (part : Int) 0 (s.parts.length - 1) = true) (hc : canB s (ofL s t) = true) : keptF s t part = (keptL s (ofL s t) part, 0) := by unfold keptF; rw [if_neg (by simp [h]), if_neg (by simp [hp]), hc, Int.toNat_natCast]; rfl
theorem keptL_size (s : ShopR) (l : List OrdR) (i : Nat) : (keptL s l i).length = s.hours.length := by simp [keptL]
theorem keptL_take {s : ShopR} (l : List OrdR) (i : Nat) {d : Nat} (hd : d < s.hours.length) : (keptL s l i).take (d + 1) = (keptL s l i).take d ++ [leftF s l (castsL s l) i (d : Int)] := by
  rw [List.take_add_one]
  have : (keptL s l i)[d]? = some (leftF s l (castsL s l) i (d : Int)) := by unfold keptL; rw [List.getElem?_map, List.getElem?_range hd]; rfl
  rw [this]; rfl

set_option maxRecDepth 100000 in
set_option maxHeartbeats 2000000 in
theorem rkept_any {B : Nat} {w : World} {v vt : Value} {s : ShopR} {t : List Int} (h : Given B w v vt s t) (part : Int) :
    Calls Try.prog 28 #[v, vt, .int .i64 part] w (KeptR w s t part) := by
  obtain ⟨Ah, ch, Ap, cp, Ao, co, At_, ct, rfl, rfl⟩ := h.form
  obtain ⟨W, hW, c0, c1, c2, hz, hb, _⟩ := shop_box w (.slice Ah s.hours.length ch) (.slice Ap s.parts.length cp) (.slice Ao s.orders.length co)
  go_enter Try.func28, Try.ntmps28
  go_upto_region 1 with (fail)
  rw [← hW]
  have hG := Lib.hid (h.below hb)
  have Hb := Lib.hid hb
  clear hW hz hb h
  have hq := Lib.hid (rtaken_any hG.out)
  by_cases he : takenErr s t = 0
  · rw [he] at hq
    have He := Lib.hid he
    obtain ⟨_, hg0, _, _⟩ := fit_of he
    have hpl := hg0.plen
    have hhl := hg0.hlen
    clear he hg0
    cases hin : inB part 0 (s.parts.length - 1) with
    | false =>
      have e := Lib.hid (keptF_out He.out hin)
      have Hi := Lib.hid hin
      clear hin
      go_upto_region 4 with (first | (go_at_call 41; refine hq.out.mono ?_; rintro e wx ⟨rfl, hbx⟩; have c0 := (hbx.cell (cell_lt c0)).trans c0; have c1 := (hbx.cell (cell_lt c1)).trans c1; have c2 := (hbx.cell (cell_lt c2)).trans c2; have HX := Lib.hid hbx; clear hbx) | (go_at_call 50; refine (in_any _ _ _ _).mono ?_; rw [Hi.out]; rintro e wy ⟨rfl, h0⟩; have h0 := h0.symm; subst h0))
      go_quiet (fail)
      go_wp2
      go_ret2
      exact keptR_eq e.out rfl (Rd.nil _ _) (Hb.out.trans (below_drewN (HX.out.mono Hb.out.size) _))
    | true =>
      obtain ⟨i, rfl⟩ := Int.eq_ofNat_of_zero_le (inB_iff.1 hin).1
      have hil : i < s.parts.length := by have := (inB_iff.1 hin).2; omega
      have Hi := Lib.hid hin
      clear hin
      go_upto_region 4 with (first | (go_at_call 41; refine hq.out.mono ?_; rintro e wx ⟨rfl, hbx⟩; have c0 := (hbx.cell (cell_lt c0)).trans c0; have c1 := (hbx.cell (cell_lt c1)).trans c1; have c2 := (hbx.cell (cell_lt c2)).trans c2; have HX := Lib.hid hbx; clear hbx) | (go_at_call 50; refine (in_any _ _ _ _).mono ?_; rw [Hi.out]; rintro e wy ⟨rfl, h0⟩; have h0 := h0.symm; subst h0))
      have hGd : Given B wx.drew _ _ s t := (hG.out.below HX.out).below (Below.refl _ _).drew
      have HGd := Lib.hid hGd
      clear hGd
      cases hcb : canB s (ofL s t) with
      | false =>
        have e := Lib.hid (keptF_no He.out Hi.out hcb)
        have Hc := Lib.hid hcb
        clear hcb
        go_region_held3 (fun w' => w'.cell? ⟨w.heap.size, 0, none⟩ = some (.slice Ah s.hours.length ch) ∧ w'.cell? ⟨w.heap.size, 1, none⟩ = some (.slice Ap s.parts.length cp) ∧ w'.cell? ⟨w.heap.size, 2, none⟩ = some (.slice Ao s.orders.length co))
          (first | go_keep | exact ⟨c0, c1, c2⟩)
          ((first
            | (go_at_call 55; refine (rof_at HGd.out He.out).mono ?_; rintro e w2 ⟨A, c, rfl, hr⟩; have c0 := (hr.bel.cell (cell_lt (w := wx.drew) c0)).trans c0; have c1 := (hr.bel.cell (cell_lt (w := wx.drew) c1)).trans c1; have c2 := (hr.bel.cell (cell_lt (w := wx.drew) c2)).trans c2; have HR := Lib.hid hr; clear hr)
            | (go_at_call 62; refine (rcan_at HGd.out He.out HR.out).mono ?_; rw [Hc.out]; rintro e w3 ⟨rfl, hb3⟩; have c0 := (hb3.cell (cell_lt c0)).trans c0; have c1 := (hb3.cell (cell_lt c1)).trans c1; have c2 := (hb3.cell (cell_lt c2)).trans c2; have HR := Lib.hid (HR.out.next hb3); clear hb3)))
        have hbw : Below w.heap.size w w3 := Hb.out.trans ((HX.out.trans ((((Below.refl wx.heap.size wx).drew).trans HR.out.bel).mono HX.out.size)).mono Hb.out.size)
        have Hbw := Lib.hid hbw
        clear hbw
        try simp only [Exit.inBlock, Exit.then]
        go_wp2
        go_ret2
        exact keptR_eq e.out rfl (Rd.nil _ _) Hbw.out
      | true =>
        have e := Lib.hid (keptF_ok He.out Hi.out hcb)
        have Hc := Lib.hid hcb
        clear hcb
        go_region_held3 (fun w' => w'.cell? ⟨w.heap.size, 0, none⟩ = some (.slice Ah s.hours.length ch) ∧ w'.cell? ⟨w.heap.size, 1, none⟩ = some (.slice Ap s.parts.length cp) ∧ w'.cell? ⟨w.heap.size, 2, none⟩ = some (.slice Ao s.orders.length co))
          (first | go_keep | exact ⟨c0, c1, c2⟩)
          ((first
            | (go_at_call 55; refine (rof_at HGd.out He.out).mono ?_; rintro e w2 ⟨A, c, rfl, hr⟩; have c0 := (hr.bel.cell (cell_lt (w := wx.drew) c0)).trans c0; have c1 := (hr.bel.cell (cell_lt (w := wx.drew) c1)).trans c1; have c2 := (hr.bel.cell (cell_lt (w := wx.drew) c2)).trans c2; have HR := Lib.hid hr; clear hr)
            | (go_at_call 62; refine (rcan_at HGd.out He.out HR.out).mono ?_; rw [Hc.out]; rintro e w3 ⟨rfl, hb3⟩; have c0 := (hb3.cell (cell_lt c0)).trans c0; have c1 := (hb3.cell (cell_lt c1)).trans c1; have c2 := (hb3.cell (cell_lt c2)).trans c2; have HR := Lib.hid (HR.out.next hb3); clear hb3)))
        have hbw : Below w.heap.size w w3 := Hb.out.trans ((HX.out.trans ((((Below.refl wx.heap.size wx).drew).trans HR.out.bel).mono HX.out.size)).mono Hb.out.size)
        have Hbw := Lib.hid hbw
        have hGd : Given B w3 _ _ s t := (HGd.out.below HR.out.bel)
        have HGd := Lib.hid hGd
        clear hbw hGd HR
        try simp only [Exit.inBlock, Exit.then]
        go_upto_region 9 with (go_at_call 55; refine (rof_at HGd.out He.out).mono ?_; rintro e w4 ⟨A, c, rfl, hr⟩; have HR := Lib.hid hr; have c0 := (hr.bel.cell (cell_lt c0)).trans c0; have c1 := (hr.bel.cell (cell_lt c1)).trans c1; have c2 := (hr.bel.cell (cell_lt c2)).trans c2; clear hr)
        go_upto_region 10 with (go_at_call 63; refine (rcasts_at HGd.out He.out Hc.out HR.out).mono ?_; rintro e w5 ⟨A5, c5, rfl, hown, hb3⟩; have c0 := (hb3.cell (cell_lt c0)).trans c0; have c1 := (hb3.cell (cell_lt c1)).trans c1; have c2 := (hb3.cell (cell_lt c2)).trans c2; have HR := Lib.hid (HR.out.next hb3); have HO := Lib.hid hown; clear hb3 hown)
        have hGd : Given B w5 _ _ s t := (HGd.out.below HR.out.bel)
        have HGd := Lib.hid hGd
        have Hbw : Hid (Below w.heap.size w w5) := Lib.hid (Hbw.out.trans (HR.out.bel.mono Hbw.out.size))
        have HRl := Lib.hid HR.out.rd
        have HCr := Lib.hid HO.out.rd
        have C0 := Lib.hid c0
        have C1 := Lib.hid c1
        have C2 := Lib.hid c2
        obtain ⟨_, hg0, hf0, _⟩ := fit_of He.out
        have Hg := Lib.hid hg0
        have Hf := Lib.hid hf0
        have hcl := casts_len hg0 hf0
        have Hkt := Lib.hid (fun d hd => keptL_take (s := s) (ofL s t) i (d := d) hd)
        have hkl := keptL_size s (ofL s t) i
        clear hGd HR HO c0 c1 c2 hg0 hf0
        go_wp2
        go_loopw [11, 12] (fun ov dv wr => ∃ (d : Nat) (A : Option Addr) (c : Nat), d ≤ s.hours.length ∧ dv = .int .i64 d ∧ ov = .slice A ((keptL s (ofL s t) i).take d).length c ∧ Own w5.heap.size 3 wr (.slice A ((keptL s (ofL s t) i).take d).length c) ((keptL s (ofL s t) i).take d) ∧ Below w5.heap.size w5 wr) (fun _ dv _ => s.hours.length - (intOf dv).toNat)
        case atStart => exact ⟨0, none, 0, Nat.zero_le _, rfl, rfl, Own.nil _ _ _, Below.refl _ _⟩
        case round =>
          obtain ⟨d, A6, c6, hd, rfl, rfl, hown, hbr⟩ := hrel
          have Hown := Lib.hid hown
          have Hbr := Lib.hid hbr
          have c0 := (hbr.cell (cell_lt C0.out)).trans C0.out
          have c1 := (hbr.cell (cell_lt C1.out)).trans C1.out
          have c2 := (hbr.cell (cell_lt C2.out)).trans C2.out
          have HG := Lib.hid (HGd.out.below hbr)
          have HL := Lib.hid ((HRl.out.below hbr).mono hbr.size)
          have HC := Lib.hid ((HCr.out.below hbr).mono hbr.size)
          clear hown hbr
          by_cases hdl : d < s.hours.length
          · have hk := Hkt.out d hdl
            have hl2 : ((keptL s (ofL s t) i).take d).length ≤ 100 := by rw [List.length_take, hkl]; omega
            have Hk := Lib.hid hk
            clear hk
            have Hlf := Lib.hid (left_any (HG.out.shop.mono HG.out.le) HL.out HC.out Hg.out Hf.out (by omega) (Nat.le_refl _) i hil (d : Int))
            generalize leftF s (ofL s t) (castsL s (ofL s t)) i (d : Int) = x at *
            generalize (keptL s (ofL s t) i).take d = kd at *
            go_wp2_with (first | (go_at_call 64; refine Hlf.out.mono ?_; rintro e wz ⟨rfl, hb⟩; obtain ⟨A7, c7, w7, hrun, hown7, hb7, _⟩ := append_int (Hown.out.below (hb.mono (Nat.le_refl _))) x (by omega) (Nat.le_trans Hbr.out.size hb.size); have Hown7 := Lib.hid hown7; have Hb7 := Lib.hid ((Hbr.out.trans (hb.mono Hbr.out.size)).trans hb7); clear hb hown7 hb7 c0 c1 c2) | (at_builtin; refine wpList_append_run rfl _ _ _ rfl rfl rfl hrun ?_))
            go_roundw
            case rel =>
              refine ⟨d + 1, A7, c7, by omega, by go_num, ?_, ?_, Hb7.out⟩
              · rw [Hk.out, List.length_append, List.length_singleton]
              · rw [Hk.out, List.length_append, List.length_singleton]; exact Hown7.out
            case measure => simp [intOf]; omega
          · have hde : d = s.hours.length := by omega
            subst hde
            rw [List.take_of_length_le (by omega)] at Hown ⊢
            go_wp2
            go_ret2
            exact keptR_eq e.out rfl Hown.out.rd (Hbw.out.trans (Hbr.out.mono Hbw.out.size))
  · have e := Lib.hid (keptF_bad part he)
    have hne : (takenErr s t != 0) = true := by simpa using he
    have heq : (takenErr s t == 0) = false := by simpa using he
    clear he
    go_upto_region 4 with (go_at_call 41; refine hq.out.mono ?_; rintro e wx ⟨rfl, hbx⟩; have HX := Lib.hid hbx; clear hbx)
    go_quiet (fail)
    go_wp2
    go_ret2
    exact keptR_eq e.out rfl (Rd.nil _ _) (Hb.out.trans (below_drewN (HX.out.mono Hb.out.size) _))
end Go.Proofs.Ytkmaapkbonkjfaa
