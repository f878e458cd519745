/- The law SheetWrong: its walk. -/
import Derived.Test.YtajdgdelhlfniaaGreatDoorPrfL
import Derived.WalkKit
import Derived.Deep.Quiet
set_option linter.unusedSimpArgs false
set_option linter.unusedVariables false
namespace Go.Proofs.YtajdgdelhlfniaaGreatDoor
open Go.RowKit

theorem wrong_at {B : Nat} {w : World} {v : Value} {s : ShR} {l : List Int} {er : Int} (hl : wrongF s = l) (he : errOf s = er) (hs : RdSh B w v s) (hn : Named s) (hB : B ≤ w.heap.size) :
    Calls Tryz.prog 33 #[v] w fun e w' => ∃ A c, e = .returned (.tuple #[.slice A l.length c, .int .i64 er]) ∧ Rd IntAt 1 w'.heap.size w' (.slice A l.length c) l ∧ Below w.heap.size w w' := by
  subst hl he
  refine (wrong_any hs hn hB).mono ?_
  rintro e w' ⟨A, c, rfl, ho, hb⟩
  exact ⟨A, c, rfl, ho.rd, hb⟩

set_option maxRecDepth 100000 in
set_option maxHeartbeats 4000000 in
theorem lwrong_any {B : Nat} {w : World} {v : Value} {s : ShR} (u : Int) (hs : RdSh B w v s) (hn : Named s) (hB : B ≤ w.heap.size) (hu0 : 0 ≤ u) (hu1 : u ≤ 65535) (hgl : Glob w) :
    Calls Tryz.prog 12 #[v, .int .u16 u] w fun e w' => e = .returned (.bool true) ∧ Below w.heap.size w w' := by
  have HSR := Lib.hid (fun (X : World) (hb : Below w.heap.size w X) => hs.below (hb.mono hB))
  have HA := Lib.hid (fun (X : World) (hb : Below w.heap.size w X) => awake_any (w := X) (hgl.below hb))
  have HN := Lib.hid hn
  obtain ⟨vp, vn, rfl, hpp, hnn⟩ := hs
  obtain ⟨Ap, cp, rfl, _⟩ := id hpp
  obtain ⟨An, cn, rfl, _⟩ := id hnn
  obtain ⟨W1, hW1, r1, z1, b1⟩ := box_any w #[.int .i64 s.iv, .slice Ap s.pts.length cp, .slice An s.notes.length cn] 25
  have HBY := Lib.hid b1
  have HC : Hid (∀ Z : World, Below W1.heap.size W1 Z → Z.cell? ⟨w.heap.size, 0, none⟩ = some (.int .i64 s.iv) ∧ Z.cell? ⟨w.heap.size, 1, none⟩ = some (.slice Ap s.pts.length cp) ∧ Z.cell? ⟨w.heap.size, 2, none⟩ = some (.slice An s.notes.length cn) ∧ Below w.heap.size w Z) :=
    Lib.hid fun Z h => by
      have j1 := (h.block _ (lt_of_block r1)).trans r1
      exact ⟨cellOf j1 0 rfl, cellOf j1 1 rfl, cellOf j1 2 rfl, HBY.out.trans (h.mono HBY.out.size)⟩
  clear r1 z1 b1 hn hgl hpp hnn
  go_enter Tryz.func12, Tryz.ntmps12
  go_upto_region 1 with (fail)
  rw [← hW1]
  clear hW1
  have hbx : Below W1.heap.size W1 W1 := Below.refl _ _
  obtain ⟨C0, C1, C2, hb⟩ := HC.out _ hbx
  have HV := Lib.hid (fun (Z : World) (h : Below w.heap.size w Z) => valid_any (HSR.out Z h) HN.out (Nat.le_trans hB h.size))
  by_cases hv : errOf s = 0
  · have hd : decide (errOf s = 0) = true := decide_eq_true hv
    rw [hd] at HV
    clear hd
    have hg := good_of_valid hv
    obtain ⟨hwf, hP⟩ := wrong_law hg
    have hnl := hg.nlen
    have HHit := Lib.hid hP.hit
    have HNone := Lib.hid hP.none_
    generalize searchF s true = l at *
    have HWr := Lib.hid (fun (Z : World) (h : Below w.heap.size w Z) => wrong_at hwf hv (HSR.out Z h) HN.out (Nat.le_trans hB h.size))
    have HBt := Lib.hid (bits_at u hu0 hu1 s.notes.length (by omega))
    have hinr := bitsL_inR u s.notes.length
    have hfl := bitsL_le u s.notes.length
    generalize bitsL u s.notes.length = few at *
    have HSo := Lib.hid (fun (m : List Int) (hm : m.length ≤ 1000) (Z : World) (h : Below w.heap.size w Z) (vl : Value) (hl : Rd IntAt 1 Z.heap.size Z vl m) => some_any false (HSR.out Z h) hl (Nat.le_trans hB h.size) (Nat.le_refl _) (by omega) hm)
    have HFi := Lib.hid (fun (m : List Int) (f : Bool) (hf : fitsB (someS s m false) = f) (Z : World) (v : Value) (hr : RdSh Z.heap.size Z v (someS s m false)) => fits_at hf (errOf_good (good_some hg m false)) hr (show Named (someS s m false) from HN.out) (Nat.le_refl _))
    have hll : l.length ≤ 1000 := Nat.le_trans hP.few (by omega)
    have HSo1 := Lib.hid (HSo.out l hll)
    have HSo2 := Lib.hid (HSo.out few (by omega))
    have HFi1 := Lib.hid (HFi.out l true hP.good)
    have HAsc := Lib.hid (fun (Z : World) (vl : Value) (hl : Rd IntAt 1 Z.heap.size Z vl l) => asc_at hP.asc hl)
    obtain ⟨so, hso⟩ : ∃ so, fitsB (someS s few false) = so := ⟨_, rfl⟩
    have HFi2 := Lib.hid (HFi.out few so hso)
    have HLt := Lib.hid (show so = true → ¬ few.length < l.length from fun h => by have := hP.least few hinr (hso.trans h); omega)
    have HLL := Lib.hid hll
    have HGd := Lib.hid hg
    have HVl := Lib.hid hv
    have HNl := Lib.hid hnl
    clear hwf hg hv hP hnl hinr hfl hso HSo hll
    go_upto_region 2 with (go_at_call 33; (with_reducible refine Calls.mono (HWr.out _ hb) ?_); rintro e X ⟨A1, c1, rfl, hr1, h4⟩; have HRl := Lib.hid (fun (Z : World) (h : Below X.heap.size X Z) => hr1.below h); clear hr1; replace hbx := hbx.trans (h4.mono hbx.size); clear C0 C1 C2 hb h4; obtain ⟨C0, C1, C2, hb⟩ := HC.out _ hbx; have hb1 : Below X.heap.size X X := Below.refl _ _)
    go_upto_region 4 with (go_at_call 44; (with_reducible refine Calls.mono (HV.out _ hb) ?_); rintro e X ⟨rfl, h4⟩; replace hbx := hbx.trans (h4.mono hbx.size); replace hb1 := hb1.trans (h4.mono hb1.size); clear C0 C1 C2 hb h4; obtain ⟨C0, C1, C2, hb⟩ := HC.out _ hbx)
    go_upto_region 5 with (go_at_call 51; (with_reducible refine Calls.mono (HBt.out X) ?_); rintro e X ⟨A2, c2, rfl, hr2, h4⟩; have HR2 := Lib.hid (fun (Z : World) (h : Below X.heap.size X Z) => hr2.below h); clear hr2; replace hbx := hbx.trans (h4.mono hbx.size); replace hb1 := hb1.trans (h4.mono hb1.size); clear C0 C1 C2 hb h4; obtain ⟨C0, C1, C2, hb⟩ := HC.out _ hbx; have hb2 : Below X.heap.size X X := Below.refl _ _)
    go_upto_region 6 with (first | (go_at_call 52; (with_reducible refine Calls.mono (HSo1.out _ hb _ ((HRl.out _ hb1).mono hb1.size)) ?_); rintro e X ⟨v1, rfl, hs1, h4⟩; have Hs1 := Lib.hid hs1; clear hs1; replace hbx := hbx.trans (h4.mono hbx.size); replace hb1 := hb1.trans (h4.mono hb1.size); replace hb2 := hb2.trans (h4.mono hb2.size); clear C0 C1 C2 hb h4; obtain ⟨C0, C1, C2, hb⟩ := HC.out _ hbx) | (go_at_call 21; (with_reducible refine Calls.mono (HFi1.out _ _ Hs1.out) ?_); rintro e X ⟨rfl, h4⟩; replace hbx := hbx.trans (h4.mono hbx.size); replace hb1 := hb1.trans (h4.mono hb1.size); replace hb2 := hb2.trans (h4.mono hb2.size); clear C0 C1 C2 hb h4; obtain ⟨C0, C1, C2, hb⟩ := HC.out _ hbx))
    go_upto_region 7 with (first | (go_at_call 52; (with_reducible refine Calls.mono (HSo2.out _ hb _ ((HR2.out _ hb2).mono hb2.size)) ?_); rintro e X ⟨v2, rfl, hs2, h4⟩; have Hs2 := Lib.hid hs2; clear hs2; replace hbx := hbx.trans (h4.mono hbx.size); replace hb1 := hb1.trans (h4.mono hb1.size); replace hb2 := hb2.trans (h4.mono hb2.size); clear C0 C1 C2 hb h4; obtain ⟨C0, C1, C2, hb⟩ := HC.out _ hbx) | (go_at_call 21; (with_reducible refine Calls.mono (HFi2.out _ _ Hs2.out) ?_); rintro e X ⟨rfl, h4⟩; replace hbx := hbx.trans (h4.mono hbx.size); replace hb1 := hb1.trans (h4.mono hb1.size); replace hb2 := hb2.trans (h4.mono hb2.size); clear C0 C1 C2 hb h4; obtain ⟨C0, C1, C2, hb⟩ := HC.out _ hbx))
    cases so with
    | true =>
      have hlt2 := HLt.out rfl
      have hlt := decide_eq_false (by have := hlt2; omega : ¬ (few.length : Int) < (l.length : Int))
      have hlt3 := decide_eq_false hlt2
      clear hb2
      go_upto_region 9 with (go_at_call 53; (with_reducible refine Calls.mono (HAsc.out _ _ ((HRl.out _ hb1).mono hb1.size)) ?_); rintro e X ⟨rfl, h4⟩; replace hbx := hbx.trans (h4.mono hbx.size); replace hb1 := hb1.trans (h4.mono hb1.size); clear C0 C1 C2 hb h4; obtain ⟨C0, C1, C2, hb⟩ := HC.out _ hbx)
      try clear hlt hlt2 hlt3
      clear HLt
      cases hfit : fitsB s with
      | true =>
        obtain ⟨hpe, hpf⟩ := proof_ok HGd.out hfit
        have HPr := Lib.hid (fun (Z : World) (h : Below w.heap.size w Z) => proof_at hpf hpe (HSR.out Z h) HN.out (Nat.le_trans hB h.size))
        rw [List.length_nil] at HPr
        have hl0 : l = [] := HNone.out hfit
        have e0 : ((l.length : Int) == 0) = true := by rw [hl0]; rfl
        clear hpe hpf hfit hl0
        go_wp2_with (first | (go_at_call 31; (with_reducible refine Calls.mono (HPr.out _ hb) ?_); rintro e X ⟨A3, c3, rfl, hr3, h4⟩; replace hbx := hbx.trans (h4.mono hbx.size); replace hb1 := hb1.trans (h4.mono hb1.size); clear C0 C1 C2 hb h4; obtain ⟨C0, C1, C2, hb⟩ := HC.out _ hbx) | (go_at_call 20; (with_reducible refine Calls.mono (HA.out _ hb) ?_); rintro e X ⟨rfl, h4⟩; replace hbx := hbx.trans (h4.mono hbx.size); clear C0 C1 C2 hb h4; obtain ⟨C0, C1, C2, hb⟩ := HC.out _ hbx))
        go_ret
        exact ⟨rfl, hb⟩
      | false =>
        obtain ⟨hpe, hpf⟩ := proof_bad HGd.out hfit
        have hPl := (proof_law HGd.out hfit).few
        have HH := Lib.hid (HHit.out hfit)
        generalize searchF s false = pf at *
        have HPr := Lib.hid (fun (Z : World) (h : Below w.heap.size w Z) => proof_at hpf hpe (HSR.out Z h) HN.out (Nat.le_trans hB h.size))
        have hpl : pf.length ≤ 1000 := Nat.le_trans hPl (by have := HNl.out; omega)
        clear hpe hpf hfit hPl
        go_upto_region 10 with (go_at_call 31; (with_reducible refine Calls.mono (HPr.out _ hb) ?_); rintro e X ⟨A3, c3, rfl, hr3, h4⟩; have HR3 := Lib.hid (fun (Z : World) (h : Below X.heap.size X Z) => hr3.below h); clear hr3; replace hbx := hbx.trans (h4.mono hbx.size); replace hb1 := hb1.trans (h4.mono hb1.size); clear C0 C1 C2 hb h4; obtain ⟨C0, C1, C2, hb⟩ := HC.out _ hbx; have hb3 : Below X.heap.size X X := Below.refl _ _)
        go_wp2
        go_loopw [14] (fun i wr => ∃ k : Nat, k ≤ pf.length ∧ i = .int .i64 k ∧ Qt X wr ∧ ∀ j, j < k → pf[j]?.getD 0 ∉ l) (fun i _ => pf.length - (intOf i).toNat)
        case atStart => exact ⟨0, Nat.zero_le _, rfl, Qt.refl _, fun j h => by omega⟩
        case round =>
          obtain ⟨k, hk, rfl, hq, hno⟩ := hrel
          have HQ := Lib.hid hq
          have HNo := Lib.hid hno
          replace hbx := hbx.trans (hq.below _)
          replace hb1 := hb1.trans (hq.below _)
          replace hb3 := hb3.trans (hq.below _)
          clear C0 C1 C2 hb hq hno
          obtain ⟨C0, C1, C2, hb⟩ := HC.out _ hbx
          by_cases hlt : k < pf.length
          · obtain ⟨ad1, had, _, p0⟩ := (HR3.out wr hb3).int (i := k) hlt
            subst had
            have HHas := Lib.hid (has_any (HRl.out wr hb1) (Nat.le_trans HLL.out (by omega)) (pf[k]?.getD 0))
            by_cases hm : pf[k]?.getD 0 ∈ l
            · rw [show decide (pf[k]?.getD 0 ∈ l) = true from decide_eq_true hm] at HHas
              clear hm
              generalize pf[k]?.getD 0 = z at *
              go_wp2_with (first | (go_at_call 48; refine HHas.out.mono ?_; rintro e wx ⟨rfl, hwx⟩; subst wx) | (go_at_call 20; (with_reducible refine Calls.mono (HA.out _ hb) ?_); rintro e X ⟨rfl, h4⟩; replace hbx := hbx.trans (h4.mono hbx.size); clear C0 C1 C2 hb h4; obtain ⟨C0, C1, C2, hb⟩ := HC.out _ hbx))
              go_ret
              exact ⟨rfl, hb⟩
            · rw [show decide (pf[k]?.getD 0 ∈ l) = false from decide_eq_false hm] at HHas
              have HM := Lib.hid hm
              clear hm
              generalize hz : pf[k]?.getD 0 = z at *
              have Hz := Lib.hid hz
              clear hz
              go_wp2_with (go_at_call 48; refine HHas.out.mono ?_; rintro e wx ⟨rfl, hwx⟩; subst wx)
              go_roundw
              case rel => exact ⟨k + 1, by omega, by go_num, HQ.out, fun j hj => by
                by_cases e : j = k
                · rw [e, Hz.out]; exact HM.out
                · exact HNo.out j (by omega)⟩
              case measure => simp [intOf]; omega
          · exfalso
            obtain ⟨j, hj, hjm⟩ := HH.out
            exact HNo.out j (by omega) hjm
    | false =>
      clear hb2
      go_upto_region 9 with (go_at_call 53; (with_reducible refine Calls.mono (HAsc.out _ _ ((HRl.out _ hb1).mono hb1.size)) ?_); rintro e X ⟨rfl, h4⟩; replace hbx := hbx.trans (h4.mono hbx.size); replace hb1 := hb1.trans (h4.mono hb1.size); clear C0 C1 C2 hb h4; obtain ⟨C0, C1, C2, hb⟩ := HC.out _ hbx)
      try clear hlt hlt2 hlt3
      clear HLt
      cases hfit : fitsB s with
      | true =>
        obtain ⟨hpe, hpf⟩ := proof_ok HGd.out hfit
        have HPr := Lib.hid (fun (Z : World) (h : Below w.heap.size w Z) => proof_at hpf hpe (HSR.out Z h) HN.out (Nat.le_trans hB h.size))
        rw [List.length_nil] at HPr
        have hl0 : l = [] := HNone.out hfit
        have e0 : ((l.length : Int) == 0) = true := by rw [hl0]; rfl
        clear hpe hpf hfit hl0
        go_wp2_with (first | (go_at_call 31; (with_reducible refine Calls.mono (HPr.out _ hb) ?_); rintro e X ⟨A3, c3, rfl, hr3, h4⟩; replace hbx := hbx.trans (h4.mono hbx.size); replace hb1 := hb1.trans (h4.mono hb1.size); clear C0 C1 C2 hb h4; obtain ⟨C0, C1, C2, hb⟩ := HC.out _ hbx) | (go_at_call 20; (with_reducible refine Calls.mono (HA.out _ hb) ?_); rintro e X ⟨rfl, h4⟩; replace hbx := hbx.trans (h4.mono hbx.size); clear C0 C1 C2 hb h4; obtain ⟨C0, C1, C2, hb⟩ := HC.out _ hbx))
        go_ret
        exact ⟨rfl, hb⟩
      | false =>
        obtain ⟨hpe, hpf⟩ := proof_bad HGd.out hfit
        have hPl := (proof_law HGd.out hfit).few
        have HH := Lib.hid (HHit.out hfit)
        generalize searchF s false = pf at *
        have HPr := Lib.hid (fun (Z : World) (h : Below w.heap.size w Z) => proof_at hpf hpe (HSR.out Z h) HN.out (Nat.le_trans hB h.size))
        have hpl : pf.length ≤ 1000 := Nat.le_trans hPl (by have := HNl.out; omega)
        clear hpe hpf hfit hPl
        go_upto_region 10 with (go_at_call 31; (with_reducible refine Calls.mono (HPr.out _ hb) ?_); rintro e X ⟨A3, c3, rfl, hr3, h4⟩; have HR3 := Lib.hid (fun (Z : World) (h : Below X.heap.size X Z) => hr3.below h); clear hr3; replace hbx := hbx.trans (h4.mono hbx.size); replace hb1 := hb1.trans (h4.mono hb1.size); clear C0 C1 C2 hb h4; obtain ⟨C0, C1, C2, hb⟩ := HC.out _ hbx; have hb3 : Below X.heap.size X X := Below.refl _ _)
        go_wp2
        go_loopw [14] (fun i wr => ∃ k : Nat, k ≤ pf.length ∧ i = .int .i64 k ∧ Qt X wr ∧ ∀ j, j < k → pf[j]?.getD 0 ∉ l) (fun i _ => pf.length - (intOf i).toNat)
        case atStart => exact ⟨0, Nat.zero_le _, rfl, Qt.refl _, fun j h => by omega⟩
        case round =>
          obtain ⟨k, hk, rfl, hq, hno⟩ := hrel
          have HQ := Lib.hid hq
          have HNo := Lib.hid hno
          replace hbx := hbx.trans (hq.below _)
          replace hb1 := hb1.trans (hq.below _)
          replace hb3 := hb3.trans (hq.below _)
          clear C0 C1 C2 hb hq hno
          obtain ⟨C0, C1, C2, hb⟩ := HC.out _ hbx
          by_cases hlt : k < pf.length
          · obtain ⟨ad1, had, _, p0⟩ := (HR3.out wr hb3).int (i := k) hlt
            subst had
            have HHas := Lib.hid (has_any (HRl.out wr hb1) (Nat.le_trans HLL.out (by omega)) (pf[k]?.getD 0))
            by_cases hm : pf[k]?.getD 0 ∈ l
            · rw [show decide (pf[k]?.getD 0 ∈ l) = true from decide_eq_true hm] at HHas
              clear hm
              generalize pf[k]?.getD 0 = z at *
              go_wp2_with (first | (go_at_call 48; refine HHas.out.mono ?_; rintro e wx ⟨rfl, hwx⟩; subst wx) | (go_at_call 20; (with_reducible refine Calls.mono (HA.out _ hb) ?_); rintro e X ⟨rfl, h4⟩; replace hbx := hbx.trans (h4.mono hbx.size); clear C0 C1 C2 hb h4; obtain ⟨C0, C1, C2, hb⟩ := HC.out _ hbx))
              go_ret
              exact ⟨rfl, hb⟩
            · rw [show decide (pf[k]?.getD 0 ∈ l) = false from decide_eq_false hm] at HHas
              have HM := Lib.hid hm
              clear hm
              generalize hz : pf[k]?.getD 0 = z at *
              have Hz := Lib.hid hz
              clear hz
              go_wp2_with (go_at_call 48; refine HHas.out.mono ?_; rintro e wx ⟨rfl, hwx⟩; subst wx)
              go_roundw
              case rel => exact ⟨k + 1, by omega, by go_num, HQ.out, fun j hj => by
                by_cases e : j = k
                · rw [e, Hz.out]; exact HM.out
                · exact HNo.out j (by omega)⟩
              case measure => simp [intOf]; omega
          · exfalso
            obtain ⟨j, hj, hjm⟩ := HH.out
            exact HNo.out j (by omega) hjm
  · have hd : decide (errOf s = 0) = false := decide_eq_false hv
    obtain ⟨_, _, hwf⟩ := proof_err hv
    obtain ⟨er, her⟩ : ∃ er, errOf s = er := ⟨_, rfl⟩
    have hne : (er != 0) = true := by rw [← her]; simpa using hv
    have HWr := Lib.hid (fun (Z : World) (h : Below w.heap.size w Z) => wrong_at hwf her (HSR.out Z h) HN.out (Nat.le_trans hB h.size))
    rw [List.length_nil] at HWr
    rw [hd] at HV
    clear hd hv hwf her
    go_upto_region 2 with (go_at_call 33; (with_reducible refine Calls.mono (HWr.out _ hb) ?_); rintro e X ⟨A1, c1, rfl, hr1, h4⟩; replace hbx := hbx.trans (h4.mono hbx.size); clear C0 C1 C2 hb h4; obtain ⟨C0, C1, C2, hb⟩ := HC.out _ hbx)
    go_wp2_with (first | (go_at_call 44; (with_reducible refine Calls.mono (HV.out _ hb) ?_); rintro e X ⟨rfl, h4⟩; replace hbx := hbx.trans (h4.mono hbx.size); clear C0 C1 C2 hb h4; obtain ⟨C0, C1, C2, hb⟩ := HC.out _ hbx) | (go_at_call 20; (with_reducible refine Calls.mono (HA.out _ hb) ?_); rintro e X ⟨rfl, h4⟩; replace hbx := hbx.trans (h4.mono hbx.size); clear C0 C1 C2 hb h4; obtain ⟨C0, C1, C2, hb⟩ := HC.out _ hbx))
    go_ret
    exact ⟨rfl, hb⟩
end Go.Proofs.YtajdgdelhlfniaaGreatDoor
