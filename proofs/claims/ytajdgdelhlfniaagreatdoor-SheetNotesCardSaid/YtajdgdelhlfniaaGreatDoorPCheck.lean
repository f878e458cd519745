/- Walks of the layer sheet: first at notes; Check of the program. -/
import Derived.Test.YtajdgdelhlfniaaGreatDoorPCk
import Derived.WalkKit
import Derived.Deep.Quiet
set_option linter.unusedSimpArgs false
set_option linter.unusedVariables false
namespace Go.Proofs.YtajdgdelhlfniaaGreatDoor
open Go.RowKit

theorem check2_any {w : World} {a : Addr} {iv : Int} {A : Option Addr} {n c : Nat} {vn : Value} (i : Int) (x : NoteR) (h0 : w.cell? a = some (.int .i64 iv)) (h1 : w.cell? ⟨a.block, a.off + 1, none⟩ = some (.slice A n c)) (h2 : w.cell? ⟨a.block, a.off + 2, none⟩ = some vn) (hiv : 1 ≤ iv) (hn : n ≤ 1000) :
    Calls Tryz.prog 60 #[.int .i64 i, noteV x, .pointer (some a)] w fun e w' => e = .returned (.int .i64 (noteErr n iv x)) ∧ Below w.heap.size w w' := by
  obtain ⟨W2, hW2, r2, z2, b2⟩ := box_any w #[.int .i64 x.kind, .int .i64 x.a, .int .i64 x.b, .int .i64 x.lo, .int .i64 x.hi] 69
  have c0 := cellOf r2 0 rfl
  have c1 := cellOf r2 1 rfl
  have c2 := cellOf r2 2 rfl
  have c3 := cellOf r2 3 rfl
  have c4 := cellOf r2 4 rfl
  have h0 := (b2.cell (cell_lt h0)).trans h0
  have h1 := (b2.cell (cell_lt h1)).trans h1
  have h2 := (b2.cell (cell_lt h2)).trans h2
  have HF := Lib.hid (pnote_any iv A n c vn x W2 hiv hn)
  have Hb := Lib.hid b2
  clear b2 r2 z2
  obtain ⟨kind, xa, b, lo, hi⟩ := x
  unfold noteV at *
  simp only at *
  go_enter Tryz.func60, Tryz.ntmps60
  go_upto_region 1 with (fail)
  rw [← hW2]
  clear hW2
  go_wp2_with (go_at_call 61; refine HF.out.mono ?_; rintro e w3 ⟨rfl, hb3⟩)
  go_ret
  exact ⟨rfl, Hb.out.trans (hb3.mono Hb.out.size)⟩

def ntErr (s : ShR) (i : Nat) : Int := noteErr s.pts.length s.iv (s.notes.getD i default)
set_option maxRecDepth 100000 in
set_option maxHeartbeats 1000000 in
theorem first2_any {B : Nat} {w : World} {v : Value} {a : Addr} {A : Option Addr} {c : Nat} {vn : Value} {s : ShR} (hp : Rd NoteAt 5 B w v s.notes)
    (h0 : w.cell? a = some (.int .i64 s.iv)) (h1 : w.cell? ⟨a.block, a.off + 1, none⟩ = some (.slice A s.pts.length c)) (h2 : w.cell? ⟨a.block, a.off + 2, none⟩ = some vn) (hiv : 1 ≤ s.iv) (hn : s.pts.length ≤ 1000) (hB : B ≤ w.heap.size) (hl : s.notes.length ≤ 12) :
    Calls Tryz.prog 59 #[v, .func (.func 60) #[] #[.pointer (some a)]] w fun e w' => e = .returned (firstV s.notes.length (ntErr s)) ∧ Below w.heap.size w w' := by
  obtain ⟨Ap, cp, rfl, h3, h4, _⟩ := id hp
  have Hp := Lib.hid hp
  have H0 := Lib.hid h0
  have H1 := Lib.hid h1
  have H2 := Lib.hid h2
  clear hp h0 h1 h2 h3 h4
  go_enter Tryz.func59, Tryz.ntmps59
  go_wp2
  go_loopw [11] (fun i wr => ∃ k : Nat, k ≤ s.notes.length ∧ i = .int .i64 k ∧ (∀ j, j < k → ntErr s j = 0) ∧ Below w.heap.size w wr) (fun i _ => s.notes.length - (intOf i).toNat)
  case atStart => exact ⟨0, Nat.zero_le _, rfl, fun _ h => by omega, Below.refl _ _⟩
  case round =>
    obtain ⟨k, hk, rfl, hno, hbr⟩ := hrel
    have Hno := Lib.hid hno
    have HB := Lib.hid hbr
    clear hno
    by_cases hlt : k < s.notes.length
    · obtain ⟨ad, rfl, _, n0, n1, n2, n3, n4⟩ := (Hp.out.below (hbr.mono hB)).note hlt
      have hx : ntErr s k = noteErr s.pts.length s.iv (s.notes[k]?.getD default) := by unfold ntErr; rw [List.getD_eq_getElem?_getD]
      generalize s.notes[k]?.getD default = x at *
      obtain ⟨W2, hW2, r2, z2, b2⟩ := box_any wr #[.int .i64 x.kind, .int .i64 x.a, .int .i64 x.b, .int .i64 x.lo, .int .i64 x.hi] 69
      have c0 := cellOf r2 0 rfl
      have c1 := cellOf r2 1 rfl
      have c2 := cellOf r2 2 rfl
      have c3 := cellOf r2 3 rfl
      have c4 := cellOf r2 4 rfl
      have hb2 := hbr.trans (b2.mono hbr.size)
      have HF := Lib.hid (check2_any (w := W2) (k : Int) x ((hb2.cell (cell_lt H0.out)).trans H0.out) ((hb2.cell (cell_lt H1.out)).trans H1.out) ((hb2.cell (cell_lt H2.out)).trans H2.out) hiv hn)
      have HB2 := Lib.hid hb2
      have HX := Lib.hid hx
      clear hb2 b2 r2 z2 hbr hx
      unfold noteV at HF
      by_cases h0 : ntErr s k = 0
      · have hb0 : (noteErr s.pts.length s.iv x != 0) = false := by rw [← HX.out]; simp [h0]
        have HZ := Lib.hid h0
        clear h0
        go_upto_region 4 with (fail)
        rw [← hW2]
        clear hW2
        go_wp2_with (go_at_call 60; refine HF.out.mono ?_; rintro e w2 ⟨rfl, hb3⟩)
        go_roundw
        case rel => exact ⟨k + 1, by omega, by go_num, fun j hj => by
          by_cases h : j < k
          · exact Hno.out j h
          · obtain rfl : j = k := by omega
            exact HZ.out, HB2.out.trans (hb3.mono HB2.out.size)⟩
        case measure => simp [intOf]; omega
      · have hb0 : (noteErr s.pts.length s.iv x != 0) = true := by rw [← HX.out]; simp [h0]
        have e := Lib.hid (firstV_some hlt h0 Hno.out)
        rw [HX.out] at e
        clear h0
        go_upto_region 4 with (fail)
        rw [← hW2]
        clear hW2
        go_wp2_with (go_at_call 60; refine HF.out.mono ?_; rintro e w2 ⟨rfl, hb3⟩)
        go_ret2
        exact ⟨by rw [e.out]; rfl, HB2.out.trans (hb3.mono HB2.out.size)⟩
    · have hk2 := Lib.hid (show k = s.notes.length by omega)
      have e := Lib.hid (firstV_none (n := s.notes.length) (fun j hj => Hno.out j (by rw [hk2.out]; exact hj)))
      go_wp2
      go_ret2
      exact ⟨by rw [e.out]; rfl, HB.out⟩

theorem first1_at {B : Nat} {w : World} {v : Value} {s : ShR} (hp : Rd StrAt 1 B w v s.pts) (hn : ∀ p ∈ s.pts, p.size ≤ 9223372036854775807) (hl : s.pts.length ≤ 8) (hB : B ≤ w.heap.size) :
    Calls Tryz.prog 57 #[v, .func (.func 58) #[] #[.pointer (some ⟨w.heap.size + 1, 0, none⟩)]] ((w.alloc (.map #[] 0)).alloc (.cells #[.map (some w.heap.size)] 81)) fun e w' => e = .returned (firstV s.pts.length (ptErr s)) ∧ Below w.heap.size w w' := by
  have h1 : ((w.alloc (.map #[] 0)).alloc (.cells #[.map (some w.heap.size)] 81)).cell? ⟨w.heap.size + 1, 0, none⟩ = some (.map (some w.heap.size)) := by
    have := heap_alloc_new (w.alloc (.map #[] 0)) (.cells #[.map (some w.heap.size)] 81)
    rw [World.size_alloc] at this
    exact (cell_of_row _ _ 0 _ _ _ this).trans rfl
  have hb : Below w.heap.size w ((w.alloc (.map #[] 0)).alloc (.cells #[.map (some w.heap.size)] 81)) := ((Below.refl _ _).alloc (Nat.le_refl _) _).alloc (by simp) _
  have hc : CntAt ((w.alloc (.map #[] 0)).alloc (.cells #[.map (some w.heap.size)] 81)) w.heap.size [] := (CntAt.made w).grown (World.grownBy_alloc _ _ none) (by simp)
  refine (first1_any (hp.below (hb.mono hB)) hn hl h1 (by simp) hc hB).mono ?_
  rintro e w' ⟨rfl, hg⟩
  exact ⟨rfl, hb.trans (grown_below hg (Nat.le_refl _) (by simp; omega))⟩
theorem outB_one (lo hi n : Int) : outB lo hi [n] = !inB n lo hi := by
  simp only [outB, inB, List.any_cons, List.any_nil, Bool.or_false, Bool.not_and]
  congr 1
  · rw [Bool.eq_iff_iff]; simp
  · rw [Bool.eq_iff_iff]; simp
theorem firstV_pt {s : ShR} (h : inB s.iv 1 1000 = true) (h2 : inB s.pts.length 1 8 = true) : (∃ k : Nat, k < s.pts.length ∧ firstV s.pts.length (ptErr s) = .tuple #[.int .i64 k, .int .i64 (ptErr s k)] ∧ ptErr s k ≠ 0 ∧ check s = (2, (k : Int), ptErr s k)) ∨
    (firstV s.pts.length (ptErr s) = .tuple #[.int .i64 0, .int .i64 0] ∧ ∀ j, j < s.pts.length → ptErr s j = 0) := by
  cases h3 : fst? s.pts.length fun i => ptErr s i != 0 with
  | some i =>
    obtain ⟨a, b, c⟩ := fst?_spec h3
    have b : ptErr s i ≠ 0 := by simpa using b
    have c : ∀ j, j < i → ptErr s j = 0 := fun j hj => by simpa using c j hj
    exact .inl ⟨i, a, firstV_some a b c, b, check_pt h h2 a b c⟩
  | none =>
    have c : ∀ j, j < s.pts.length → ptErr s j = 0 := fun j hj => by simpa using fst?_none_spec h3 j hj
    exact .inr ⟨firstV_none c, c⟩
theorem firstV_nt {s : ShR} (h : inB s.iv 1 1000 = true) (h2 : inB s.pts.length 1 8 = true) (hp : ∀ j, j < s.pts.length → ptErr s j = 0) (hm : ¬ 12 < s.notes.length) :
    (∃ k : Nat, k < s.notes.length ∧ firstV s.notes.length (ntErr s) = .tuple #[.int .i64 k, .int .i64 (ntErr s k)] ∧ ntErr s k ≠ 0 ∧ check s = (3, (k : Int), ntErr s k)) ∨
    (firstV s.notes.length (ntErr s) = .tuple #[.int .i64 0, .int .i64 0] ∧ check s = (0, 0, 0)) := by
  cases h3 : fst? s.notes.length fun i => ntErr s i != 0 with
  | some i =>
    obtain ⟨a, b, c⟩ := fst?_spec h3
    have b : ntErr s i ≠ 0 := by simpa using b
    have c : ∀ j, j < i → ntErr s j = 0 := fun j hj => by simpa using c j hj
    exact .inl ⟨i, a, firstV_some a b c, b, check_note h h2 hp hm a b c⟩
  | none =>
    have c : ∀ j, j < s.notes.length → ntErr s j = 0 := fun j hj => by simpa using fst?_none_spec h3 j hj
    exact .inr ⟨firstV_none c, check_none h h2 hp hm c⟩

set_option maxRecDepth 100000 in
set_option maxHeartbeats 4000000 in
theorem pcheck_any {B : Nat} {w : World} {v : Value} {s : ShR} (hs : RdSh B w v s) (hn : Named s) (hB : B ≤ w.heap.size) :
    Calls Tryz.prog 16 #[v] w fun e w' => e = .returned (checkV s) ∧ Below w.heap.size w w' := by
  obtain ⟨vp, vn, rfl, hp, ho⟩ := id hs
  obtain ⟨W, hW, c0, c1, c2, hz, hb, _⟩ := sheet_box w s.iv vp vn
  obtain ⟨Ap, cp, rfl, h3, h4, _⟩ := id hp
  obtain ⟨An, cn, rfl, h5, h6, _⟩ := id ho
  have Hp := Lib.hid (hp.below (hb.mono hB))
  have Ho := Lib.hid (ho.below (hb.mono hB))
  have Hb := Lib.hid hb
  have Hz := Lib.hid hz
  have HN := Lib.hid hn
  have HW : Hid (B ≤ W.heap.size) := Lib.hid (by omega)
  have HC : Hid (∀ X : World, Below W.heap.size W X → X.cell? ⟨w.heap.size, 0, none⟩ = some (.int .i64 s.iv) ∧ X.cell? ⟨w.heap.size, 1, none⟩ = some (.slice Ap s.pts.length cp) ∧ X.cell? ⟨w.heap.size, 2, none⟩ = some (.slice An s.notes.length cn) ∧ w.heap.size < X.heap.size) :=
    Lib.hid fun X h => ⟨(h.cell (cell_lt c0)).trans c0, (h.cell (cell_lt c1)).trans c1, (h.cell (cell_lt c2)).trans c2, by have := h.size; omega⟩
  clear hn hp ho hb hz h3 h4 h5 h6 hs
  have hmm := @run_makeMap Tryz.prog
  have hbx : Below W.heap.size W W := Below.refl _ _
  cases o1 : inB s.iv 1 1000 with
  | false =>
    have e := Lib.hid (checkV_eq (check_iv o1))
    have o1 : outB 1 1000 [s.iv] = true := by rw [outB_one, o1]; rfl
    go_enter Tryz.func16, Tryz.ntmps16
    go_upto_region 1 with (fail)
    rw [← hW]
    clear hW
    go_wp2_with (go_at_call 56; refine (out1n_any _ _ _ _).mono ?_; rintro e w4 ⟨rfl, hb4⟩; have hbx := hbx.trans (hb4.mono hbx.size); obtain ⟨c0, c1, c2, hzz⟩ := HC.out _ hbx)
    go_ret3
    exact ⟨by rw [e.out]; rfl, Hb.out.trans (hbx.mono Hb.out.size)⟩
  | true =>
  cases o2 : inB s.pts.length 1 8 with
  | false =>
    have e := Lib.hid (checkV_eq (check_len o1 o2))
    have o1 : outB 1 1000 [s.iv] = false := by rw [outB_one, o1]; rfl
    have o2 : outB 1 8 [(s.pts.length : Int)] = true := by rw [outB_one, o2]; rfl
    go_enter Tryz.func16, Tryz.ntmps16
    go_upto_region 1 with (fail)
    rw [← hW]
    clear hW
    go_wp2_with (go_at_call 56; refine (out1n_any _ _ _ _).mono ?_; rintro e w4 ⟨rfl, hb4⟩; have hbx := hbx.trans (hb4.mono hbx.size); obtain ⟨c0, c1, c2, hzz⟩ := HC.out _ hbx)
    go_ret3
    exact ⟨by rw [e.out]; rfl, Hb.out.trans (hbx.mono Hb.out.size)⟩
  | true =>
  have hiv := Lib.hid (inB_iff.1 o1).1
  have hlen := Lib.hid (show s.pts.length ≤ 8 by have := inB_iff.1 o2; omega)
  have hpt := Lib.hid (firstV_pt o1 o2)
  have hnt := Lib.hid (fun hp hm => firstV_nt o1 o2 hp hm)
  have hmany := Lib.hid (fun hp hm => check_many o1 o2 hp hm)
  have o1 : outB 1 1000 [s.iv] = false := by rw [outB_one, o1]; rfl
  have o2 : outB 1 8 [(s.pts.length : Int)] = false := by rw [outB_one, o2]; rfl
  go_enter Tryz.func16, Tryz.ntmps16
  go_upto_region 1 with (fail)
  rw [← hW]
  clear hW
  rcases hpt.out with ⟨k, hk, hv, hne, hc⟩ | ⟨hv, hall⟩
  · have hb0 : (ptErr s k != 0) = true := by simp [hne]
    have e := Lib.hid (checkV_eq hc)
    have HV := Lib.hid hv
    clear hv hc hne
    go_wp2_with (first | (go_at_call 56; refine (out1n_any _ _ _ _).mono ?_; rintro e w4 ⟨rfl, hb4⟩; have hbx := hbx.trans (hb4.mono hbx.size); obtain ⟨c0, c1, c2, hzz⟩ := HC.out _ hbx) | (go_at_call 57; refine (first1_at (Hp.out.below (hbx.mono HW.out)) HN.out hlen.out (Nat.le_trans HW.out hbx.size)).mono ?_; rw [HV.out]; rintro e w4 ⟨rfl, hb4⟩; have hbx := hbx.trans (hb4.mono hbx.size); obtain ⟨c0, c1, c2, hzz⟩ := HC.out _ hbx))
    go_ret3
    exact ⟨by rw [e.out]; rfl, Hb.out.trans (hbx.mono Hb.out.size)⟩
  · have HV := Lib.hid hv
    have HA := Lib.hid hall
    clear hv hall
    by_cases hm : 12 < s.notes.length
    · have e := Lib.hid (checkV_eq (hmany.out HA.out hm))
      go_wp2_with (first | (go_at_call 56; refine (out1n_any _ _ _ _).mono ?_; rintro e w4 ⟨rfl, hb4⟩; have hbx := hbx.trans (hb4.mono hbx.size); obtain ⟨c0, c1, c2, hzz⟩ := HC.out _ hbx) | (go_at_call 57; refine (first1_at (Hp.out.below (hbx.mono HW.out)) HN.out hlen.out (Nat.le_trans HW.out hbx.size)).mono ?_; rw [HV.out]; rintro e w4 ⟨rfl, hb4⟩; have hbx := hbx.trans (hb4.mono hbx.size); obtain ⟨c0, c1, c2, hzz⟩ := HC.out _ hbx))
      go_ret3
      exact ⟨by rw [e.out]; rfl, Hb.out.trans (hbx.mono Hb.out.size)⟩
    · rcases hnt.out HA.out hm with ⟨k, hk, hv, hne, hc⟩ | ⟨hv, hc⟩
      · have hb0 : (ntErr s k != 0) = true := by simp [hne]
        have e := Lib.hid (checkV_eq hc)
        have HV2 := Lib.hid hv
        clear hv hc hne
        go_wp2_with (first | (go_at_call 56; refine (out1n_any _ _ _ _).mono ?_; rintro e w4 ⟨rfl, hb4⟩; have hbx := hbx.trans (hb4.mono hbx.size); obtain ⟨c0, c1, c2, hzz⟩ := HC.out _ hbx) | (go_at_call 57; refine (first1_at (Hp.out.below (hbx.mono HW.out)) HN.out hlen.out (Nat.le_trans HW.out hbx.size)).mono ?_; rw [HV.out]; rintro e w4 ⟨rfl, hb4⟩; have hbx := hbx.trans (hb4.mono hbx.size); obtain ⟨c0, c1, c2, hzz⟩ := HC.out _ hbx) | (go_at_call 59; refine (first2_any (Ho.out.below (hbx.mono HW.out)) c0 c1 c2 hiv.out (Nat.le_trans hlen.out (by omega)) (Nat.le_trans HW.out hbx.size) (Nat.le_of_not_lt hm)).mono ?_; rw [HV2.out]; rintro e w4 ⟨rfl, hb4⟩; have hbx := hbx.trans (hb4.mono hbx.size)))
        go_ret3
        exact ⟨by rw [e.out]; rfl, Hb.out.trans (hbx.mono Hb.out.size)⟩
      · have e := Lib.hid (checkV_eq hc)
        have HV2 := Lib.hid hv
        clear hv hc
        go_wp2_with (first | (go_at_call 56; refine (out1n_any _ _ _ _).mono ?_; rintro e w4 ⟨rfl, hb4⟩; have hbx := hbx.trans (hb4.mono hbx.size); obtain ⟨c0, c1, c2, hzz⟩ := HC.out _ hbx) | (go_at_call 57; refine (first1_at (Hp.out.below (hbx.mono HW.out)) HN.out hlen.out (Nat.le_trans HW.out hbx.size)).mono ?_; rw [HV.out]; rintro e w4 ⟨rfl, hb4⟩; have hbx := hbx.trans (hb4.mono hbx.size); obtain ⟨c0, c1, c2, hzz⟩ := HC.out _ hbx) | (go_at_call 59; refine (first2_any (Ho.out.below (hbx.mono HW.out)) c0 c1 c2 hiv.out (Nat.le_trans hlen.out (by omega)) (Nat.le_trans HW.out hbx.size) (Nat.le_of_not_lt hm)).mono ?_; rw [HV2.out]; rintro e w4 ⟨rfl, hb4⟩; have hbx := hbx.trans (hb4.mono hbx.size)))
        go_ret3
        exact ⟨by rw [e.out]; rfl, Hb.out.trans (hbx.mono Hb.out.size)⟩
end Go.Proofs.YtajdgdelhlfniaaGreatDoor
