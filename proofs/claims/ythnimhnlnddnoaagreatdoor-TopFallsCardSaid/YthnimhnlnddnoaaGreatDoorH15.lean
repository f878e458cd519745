/- Parts of the proof of TpP: PCheck, All, Opn. -/
import Derived.Test.YthnimhnlnddnoaaGreatDoorH13
import Derived.WalkKit
import Derived.Deep.Quiet
import Derived.Test.YthnimhnlnddnoaaGreatDoorH14
set_option linter.unusedSimpArgs false
set_option linter.unusedVariables false
set_option maxRecDepth 100000
set_option maxHeartbeats 8000000
namespace Go.Proofs.YthnimhnlnddnoaaGreatDoor
open Go.RowKit
theorem check2_any {w : World} {a : Addr} {iv : Int} {A : Option Addr} {n c : Nat} {vn : Value} (i : Int) (x : NoteR) (h0 : w.cell? a = some (.int .i64 iv)) (h1 : w.cell? ⟨a.block, a.off + 1, none⟩ = some (.slice A n c)) (h2 : w.cell? ⟨a.block, a.off + 2, none⟩ = some vn) (hiv : 1 ≤ iv) (hn : n ≤ 1000) :
  Calls Tryz.prog 94 #[.int .i64 i, noteV x, .pointer (some a)] w fun e w' => e = .returned (.int .i64 (noteErr n iv x)) ∧ Below w.heap.size w w' := by
 obtain ⟨W2, hW2, r2, z2, b2⟩ := box_any w #[.int .i64 x.kind, .int .i64 x.a, .int .i64 x.b, .int .i64 x.lo, .int .i64 x.hi] 86
 have c0 := cellOf r2 0 rfl
 have c1 := cellOf r2 1 rfl
 have c2 := cellOf r2 2 rfl
 have c3 := cellOf r2 3 rfl
 have c4 := cellOf r2 4 rfl
 have h0 := (b2.cell (cell_lt h0)).trans h0
 have h1 := (b2.cell (cell_lt h1)).trans h1
 have h2 := (b2.cell (cell_lt h2)).trans h2
 have HF := Lib.hid (pnote_any iv A n c vn x W2 hiv hn)
 have Hb := Lib.hid b2
 clear b2 r2 z2
 obtain ⟨kind, xa, b, lo, hi⟩ := x
 unfold noteV at *
 simp only at *
 go_enter Tryz.func94, Tryz.ntmps94
 go_upto_region 1 with (fail)
 rw [← hW2]
 clear hW2
 go_wp2_with (go_at_call 95; refine HF.out.mono ?_; rintro e w3 ⟨rfl, hb3⟩)
 go_ret
 exact ⟨rfl, Hb.out.trans (hb3.mono Hb.out.size)⟩
def ntErr (s : ShR) (i : Nat) : Int := noteErr s.pts.length s.iv (s.notes.getD i default)
theorem first2_any {B : Nat} {w : World} {v : Value} {a : Addr} {A : Option Addr} {c : Nat} {vn : Value} {s : ShR} (hp : Rd NoteAt 5 B w v s.notes)
  (h0 : w.cell? a = some (.int .i64 s.iv)) (h1 : w.cell? ⟨a.block, a.off + 1, none⟩ = some (.slice A s.pts.length c)) (h2 : w.cell? ⟨a.block, a.off + 2, none⟩ = some vn) (hiv : 1 ≤ s.iv) (hn : s.pts.length ≤ 1000) (hB : B ≤ w.heap.size) (hl : s.notes.length ≤ 12) :
  Calls Tryz.prog 93 #[v, .func (.func 94) #[] #[.pointer (some a)]] w fun e w' => e = .returned (firstV s.notes.length (ntErr s)) ∧ Below w.heap.size w w' := by
 obtain ⟨Ap, cp, rfl, h3, h4, _⟩ := id hp
 have Hp := Lib.hid hp
 have H0 := Lib.hid h0
 have H1 := Lib.hid h1
 have H2 := Lib.hid h2
 clear hp h0 h1 h2 h3 h4
 go_enter Tryz.func93, Tryz.ntmps93
 go_wp2
 go_loopw [11] (fun i wr => ∃ k : Nat, k ≤ s.notes.length ∧ i = .int .i64 k ∧ (∀ j, j < k → ntErr s j = 0) ∧ Below w.heap.size w wr) (fun i _ => s.notes.length - (intOf i).toNat)
 case atStart => exact ⟨0, Nat.zero_le _, rfl, fun _ h => by omega, Below.refl _ _⟩
 case round =>
  obtain ⟨k, hk, rfl, hno, hbr⟩ := hrel
  have Hno := Lib.hid hno
  have HB := Lib.hid hbr
  clear hno
  by_cases hlt : k < s.notes.length
  ·obtain ⟨ad, rfl, _, n0, n1, n2, n3, n4⟩ := (Hp.out.below (hbr.mono hB)).note hlt
   have hx : ntErr s k = noteErr s.pts.length s.iv (s.notes[k]?.getD default) := by unfold ntErr; rw [List.getD_eq_getElem?_getD]
   generalize s.notes[k]?.getD default = x at *
   obtain ⟨W2, hW2, r2, z2, b2⟩ := box_any wr #[.int .i64 x.kind, .int .i64 x.a, .int .i64 x.b, .int .i64 x.lo, .int .i64 x.hi] 86
   have c0 := cellOf r2 0 rfl
   have c1 := cellOf r2 1 rfl
   have c2 := cellOf r2 2 rfl
   have c3 := cellOf r2 3 rfl
   have c4 := cellOf r2 4 rfl
   have hb2 := hbr.trans (b2.mono hbr.size)
   have HF := Lib.hid (check2_any (w := W2) (k : Int) x ((hb2.cell (cell_lt H0.out)).trans H0.out) ((hb2.cell (cell_lt H1.out)).trans H1.out) ((hb2.cell (cell_lt H2.out)).trans H2.out) hiv hn)
   have HB2 := Lib.hid hb2
   have HX := Lib.hid hx
   clear hb2 b2 r2 z2 hbr hx
   unfold noteV at HF
   by_cases h0 : ntErr s k = 0
   ·have hb0 : (noteErr s.pts.length s.iv x != 0) = false := by rw [← HX.out]; simp [h0]
    have HZ := Lib.hid h0
    clear h0
    go_upto_region 4 with (fail)
    rw [← hW2]
    clear hW2
    go_wp2_with (go_at_call 94; refine HF.out.mono ?_; rintro e w2 ⟨rfl, hb3⟩)
    go_roundw
    case rel => exact ⟨k + 1, by omega, by go_num, fun j hj => by
     by_cases h : j < k
     ·exact Hno.out j h
     ·obtain rfl : j = k := by omega
      exact HZ.out, HB2.out.trans (hb3.mono HB2.out.size)⟩
    case measure => simp [intOf]; omega
   ·have hb0 : (noteErr s.pts.length s.iv x != 0) = true := by rw [← HX.out]; simp [h0]
    have e := Lib.hid (firstV_some hlt h0 Hno.out)
    rw [HX.out] at e
    clear h0
    go_upto_region 4 with (fail)
    rw [← hW2]
    clear hW2
    go_wp2_with (go_at_call 94; refine HF.out.mono ?_; rintro e w2 ⟨rfl, hb3⟩)
    go_ret2
    exact ⟨by rw [e.out]; rfl, HB2.out.trans (hb3.mono HB2.out.size)⟩
  ·have hk2 := Lib.hid (show k = s.notes.length by omega)
   have e := Lib.hid (firstV_none (n := s.notes.length) (fun j hj => Hno.out j (by rw [hk2.out]; exact hj)))
   go_wp2
   go_ret2
   exact ⟨by rw [e.out]; rfl, HB.out⟩
theorem first1_at {B : Nat} {w : World} {v : Value} {s : ShR} (hp : Rd StrAt 1 B w v s.pts) (hn : ∀ p ∈ s.pts, p.size ≤ 9223372036854775807) (hl : s.pts.length ≤ 8) (hB : B ≤ w.heap.size) :
  Calls Tryz.prog 91 #[v, .func (.func 92) #[] #[.pointer (some ⟨w.heap.size + 1, 0, none⟩)]] ((w.alloc (.map #[] 0)).alloc (.cells #[.map (some w.heap.size)] 139)) fun e w' => e = .returned (firstV s.pts.length (ptErr s)) ∧ Below w.heap.size w w' := by
 have h1 : ((w.alloc (.map #[] 0)).alloc (.cells #[.map (some w.heap.size)] 139)).cell? ⟨w.heap.size + 1, 0, none⟩ = some (.map (some w.heap.size)) := by
  have := heap_alloc_new (w.alloc (.map #[] 0)) (.cells #[.map (some w.heap.size)] 139)
  rw [World.size_alloc] at this
  exact (cell_of_row _ _ 0 _ _ _ this).trans rfl
 have hb : Below w.heap.size w ((w.alloc (.map #[] 0)).alloc (.cells #[.map (some w.heap.size)] 139)) := ((Below.refl _ _).alloc (Nat.le_refl _) _).alloc (by simp) _
 have hc : CntAt ((w.alloc (.map #[] 0)).alloc (.cells #[.map (some w.heap.size)] 139)) w.heap.size [] := (CntAt.made w).grown (World.grownBy_alloc _ _ none) (by simp)
 refine (first1_any (hp.below (hb.mono hB)) hn hl h1 (by simp) hc hB).mono ?_
 rintro e w' ⟨rfl, hg⟩
 exact ⟨rfl, hb.trans (grown_below hg (Nat.le_refl _) (by simp; omega))⟩
theorem outB_one (lo hi n : Int) : outB lo hi [n] = !inB n lo hi := by
 simp only [outB, inB, List.any_cons, List.any_nil, Bool.or_false, Bool.not_and]
 congr 1
 ·rw [Bool.eq_iff_iff]; simp
 ·rw [Bool.eq_iff_iff]; simp
theorem firstV_pt {s : ShR} (h : inB s.iv 1 1000 = true) (h2 : inB s.pts.length 1 8 = true) : (∃ k : Nat, k < s.pts.length ∧ firstV s.pts.length (ptErr s) = .tuple #[.int .i64 k, .int .i64 (ptErr s k)] ∧ ptErr s k ≠ 0 ∧ check s = (2, (k : Int), ptErr s k)) ∨
  (firstV s.pts.length (ptErr s) = .tuple #[.int .i64 0, .int .i64 0] ∧ ∀ j, j < s.pts.length → ptErr s j = 0) := by
 cases h3 : fst? s.pts.length fun i => ptErr s i != 0 with
 | some i =>
  obtain ⟨a, b, c⟩ := fst?_spec h3
  have b : ptErr s i ≠ 0 := by simpa using b
  have c : ∀ j, j < i → ptErr s j = 0 := fun j hj => by simpa using c j hj
  exact .inl ⟨i, a, firstV_some a b c, b, check_pt h h2 a b c⟩
 | none =>
  have c : ∀ j, j < s.pts.length → ptErr s j = 0 := fun j hj => by simpa using fst?_none_spec h3 j hj
  exact .inr ⟨firstV_none c, c⟩
theorem firstV_nt {s : ShR} (h : inB s.iv 1 1000 = true) (h2 : inB s.pts.length 1 8 = true) (hp : ∀ j, j < s.pts.length → ptErr s j = 0) (hm : ¬ 12 < s.notes.length) :
  (∃ k : Nat, k < s.notes.length ∧ firstV s.notes.length (ntErr s) = .tuple #[.int .i64 k, .int .i64 (ntErr s k)] ∧ ntErr s k ≠ 0 ∧ check s = (3, (k : Int), ntErr s k)) ∨
  (firstV s.notes.length (ntErr s) = .tuple #[.int .i64 0, .int .i64 0] ∧ check s = (0, 0, 0)) := by
 cases h3 : fst? s.notes.length fun i => ntErr s i != 0 with
 | some i =>
  obtain ⟨a, b, c⟩ := fst?_spec h3
  have b : ntErr s i ≠ 0 := by simpa using b
  have c : ∀ j, j < i → ntErr s j = 0 := fun j hj => by simpa using c j hj
  exact .inl ⟨i, a, firstV_some a b c, b, check_note h h2 hp hm a b c⟩
 | none =>
  have c : ∀ j, j < s.notes.length → ntErr s j = 0 := fun j hj => by simpa using fst?_none_spec h3 j hj
  exact .inr ⟨firstV_none c, check_none h h2 hp hm c⟩
theorem pcheck_any {B : Nat} {w : World} {v : Value} {s : ShR} (hs : RdSh B w v s) (hn : Named s) (hB : B ≤ w.heap.size) :
  Calls Tryz.prog 58 #[v] w fun e w' => e = .returned (checkV s) ∧ Below w.heap.size w w' := by
 obtain ⟨vp, vn, rfl, hp, ho⟩ := id hs
 obtain ⟨W, hW, c0, c1, c2, hz, hb, _⟩ := sheet_box w s.iv vp vn
 obtain ⟨Ap, cp, rfl, h3, h4, _⟩ := id hp
 obtain ⟨An, cn, rfl, h5, h6, _⟩ := id ho
 have Hp := Lib.hid (hp.below (hb.mono hB))
 have Ho := Lib.hid (ho.below (hb.mono hB))
 have Hb := Lib.hid hb
 have Hz := Lib.hid hz
 have HN := Lib.hid hn
 have HW : Hid (B ≤ W.heap.size) := Lib.hid (by omega)
 have HC : Hid (∀ X : World, Below W.heap.size W X → X.cell? ⟨w.heap.size, 0, none⟩ = some (.int .i64 s.iv) ∧ X.cell? ⟨w.heap.size, 1, none⟩ = some (.slice Ap s.pts.length cp) ∧ X.cell? ⟨w.heap.size, 2, none⟩ = some (.slice An s.notes.length cn) ∧ w.heap.size < X.heap.size) :=
  Lib.hid fun X h => ⟨(h.cell (cell_lt c0)).trans c0, (h.cell (cell_lt c1)).trans c1, (h.cell (cell_lt c2)).trans c2, by have := h.size; omega⟩
 clear hn hp ho hb hz h3 h4 h5 h6 hs
 have hmm := @run_makeMap Tryz.prog
 have hbx : Below W.heap.size W W := Below.refl _ _
 cases o1 : inB s.iv 1 1000 with
 | false =>
  have e := Lib.hid (checkV_eq (check_iv o1))
  have o1 : outB 1 1000 [s.iv] = true := by rw [outB_one, o1]; rfl
  go_enter Tryz.func58, Tryz.ntmps58
  go_upto_region 1 with (fail)
  rw [← hW]
  clear hW
  go_wp2_with (go_at_call 59; refine (out1n_any _ _ _ _).mono ?_; rintro e w4 ⟨rfl, hb4⟩; have hbx := hbx.trans (hb4.mono hbx.size); obtain ⟨c0, c1, c2, hzz⟩ := HC.out _ hbx)
  go_ret3
  exact ⟨by rw [e.out]; rfl, Hb.out.trans (hbx.mono Hb.out.size)⟩
 | true =>
 cases o2 : inB s.pts.length 1 8 with
 | false =>
  have e := Lib.hid (checkV_eq (check_len o1 o2))
  have o1 : outB 1 1000 [s.iv] = false := by rw [outB_one, o1]; rfl
  have o2 : outB 1 8 [(s.pts.length : Int)] = true := by rw [outB_one, o2]; rfl
  go_enter Tryz.func58, Tryz.ntmps58
  go_upto_region 1 with (fail)
  rw [← hW]
  clear hW
  go_wp2_with (go_at_call 59; refine (out1n_any _ _ _ _).mono ?_; rintro e w4 ⟨rfl, hb4⟩; have hbx := hbx.trans (hb4.mono hbx.size); obtain ⟨c0, c1, c2, hzz⟩ := HC.out _ hbx)
  go_ret3
  exact ⟨by rw [e.out]; rfl, Hb.out.trans (hbx.mono Hb.out.size)⟩
 | true =>
 have hiv := Lib.hid (inB_iff.1 o1).1
 have hlen := Lib.hid (show s.pts.length ≤ 8 by have := inB_iff.1 o2; omega)
 have hpt := Lib.hid (firstV_pt o1 o2)
 have hnt := Lib.hid (fun hp hm => firstV_nt o1 o2 hp hm)
 have hmany := Lib.hid (fun hp hm => check_many o1 o2 hp hm)
 have o1 : outB 1 1000 [s.iv] = false := by rw [outB_one, o1]; rfl
 have o2 : outB 1 8 [(s.pts.length : Int)] = false := by rw [outB_one, o2]; rfl
 go_enter Tryz.func58, Tryz.ntmps58
 go_upto_region 1 with (fail)
 rw [← hW]
 clear hW
 rcases hpt.out with ⟨k, hk, hv, hne, hc⟩ | ⟨hv, hall⟩
 ·have hb0 : (ptErr s k != 0) = true := by simp [hne]
  have e := Lib.hid (checkV_eq hc)
  have HV := Lib.hid hv
  clear hv hc hne
  go_wp2_with (first | (go_at_call 59; refine (out1n_any _ _ _ _).mono ?_; rintro e w4 ⟨rfl, hb4⟩; have hbx := hbx.trans (hb4.mono hbx.size); obtain ⟨c0, c1, c2, hzz⟩ := HC.out _ hbx) | (go_at_call 91; refine (first1_at (Hp.out.below (hbx.mono HW.out)) HN.out hlen.out (Nat.le_trans HW.out hbx.size)).mono ?_; rw [HV.out]; rintro e w4 ⟨rfl, hb4⟩; have hbx := hbx.trans (hb4.mono hbx.size); obtain ⟨c0, c1, c2, hzz⟩ := HC.out _ hbx))
  go_ret3
  exact ⟨by rw [e.out]; rfl, Hb.out.trans (hbx.mono Hb.out.size)⟩
 ·have HV := Lib.hid hv
  have HA := Lib.hid hall
  clear hv hall
  by_cases hm : 12 < s.notes.length
  ·have e := Lib.hid (checkV_eq (hmany.out HA.out hm))
   go_wp2_with (first | (go_at_call 59; refine (out1n_any _ _ _ _).mono ?_; rintro e w4 ⟨rfl, hb4⟩; have hbx := hbx.trans (hb4.mono hbx.size); obtain ⟨c0, c1, c2, hzz⟩ := HC.out _ hbx) | (go_at_call 91; refine (first1_at (Hp.out.below (hbx.mono HW.out)) HN.out hlen.out (Nat.le_trans HW.out hbx.size)).mono ?_; rw [HV.out]; rintro e w4 ⟨rfl, hb4⟩; have hbx := hbx.trans (hb4.mono hbx.size); obtain ⟨c0, c1, c2, hzz⟩ := HC.out _ hbx))
   go_ret3
   exact ⟨by rw [e.out]; rfl, Hb.out.trans (hbx.mono Hb.out.size)⟩
  ·rcases hnt.out HA.out hm with ⟨k, hk, hv, hne, hc⟩ | ⟨hv, hc⟩
   ·have hb0 : (ntErr s k != 0) = true := by simp [hne]
    have e := Lib.hid (checkV_eq hc)
    have HV2 := Lib.hid hv
    clear hv hc hne
    go_wp2_with (first | (go_at_call 59; refine (out1n_any _ _ _ _).mono ?_; rintro e w4 ⟨rfl, hb4⟩; have hbx := hbx.trans (hb4.mono hbx.size); obtain ⟨c0, c1, c2, hzz⟩ := HC.out _ hbx) | (go_at_call 91; refine (first1_at (Hp.out.below (hbx.mono HW.out)) HN.out hlen.out (Nat.le_trans HW.out hbx.size)).mono ?_; rw [HV.out]; rintro e w4 ⟨rfl, hb4⟩; have hbx := hbx.trans (hb4.mono hbx.size); obtain ⟨c0, c1, c2, hzz⟩ := HC.out _ hbx) | (go_at_call 93; refine (first2_any (Ho.out.below (hbx.mono HW.out)) c0 c1 c2 hiv.out (Nat.le_trans hlen.out (by omega)) (Nat.le_trans HW.out hbx.size) (Nat.le_of_not_lt hm)).mono ?_; rw [HV2.out]; rintro e w4 ⟨rfl, hb4⟩; have hbx := hbx.trans (hb4.mono hbx.size)))
    go_ret3
    exact ⟨by rw [e.out]; rfl, Hb.out.trans (hbx.mono Hb.out.size)⟩
   ·have e := Lib.hid (checkV_eq hc)
    have HV2 := Lib.hid hv
    clear hv hc
    go_wp2_with (first | (go_at_call 59; refine (out1n_any _ _ _ _).mono ?_; rintro e w4 ⟨rfl, hb4⟩; have hbx := hbx.trans (hb4.mono hbx.size); obtain ⟨c0, c1, c2, hzz⟩ := HC.out _ hbx) | (go_at_call 91; refine (first1_at (Hp.out.below (hbx.mono HW.out)) HN.out hlen.out (Nat.le_trans HW.out hbx.size)).mono ?_; rw [HV.out]; rintro e w4 ⟨rfl, hb4⟩; have hbx := hbx.trans (hb4.mono hbx.size); obtain ⟨c0, c1, c2, hzz⟩ := HC.out _ hbx) | (go_at_call 93; refine (first2_any (Ho.out.below (hbx.mono HW.out)) c0 c1 c2 hiv.out (Nat.le_trans hlen.out (by omega)) (Nat.le_trans HW.out hbx.size) (Nat.le_of_not_lt hm)).mono ?_; rw [HV2.out]; rintro e w4 ⟨rfl, hb4⟩; have hbx := hbx.trans (hb4.mono hbx.size)))
    go_ret3
    exact ⟨by rw [e.out]; rfl, Hb.out.trans (hbx.mono Hb.out.size)⟩
end Go.Proofs.YthnimhnlnddnoaaGreatDoor
namespace Go.Proofs.YthnimhnlnddnoaaGreatDoor
open Go.RowKit
theorem results95 {w : World} {g : Nat} {m : Mat} {r : Bool} {tmps : Array Value} (h1 : MatAt w g 82 m) (t1 : tmps[4]?.getD undef = .pointer (some ⟨g, 0, none⟩)) (t2 : tmps[5]?.getD undef = .bool r) :
  (results Tryz.f85 tmps).run Tryz.prog w = .ok (.tuple #[.agg (matC m), .bool r]) w := by
 have hl := load_mat h1
 clear h1
 generalize matC m = cs at *
 simp [results, Tryz.results85, t1, t2, asAddr, hl]
def boundsF (s : ShR) (wd : Int) : Mat × Bool := allM s.iv wd s.notes freeM
theorem allM_take {iv wd : Int} {l : List NoteR} {b : Mat} {k : Nat} (hk : k < l.length) (h : (allM iv wd (l.take k) b).2 = true) : allM iv wd (l.take (k + 1)) b = withM iv wd (allM iv wd (l.take k) b).1 (l.getD k default) := by
 rw [take_succ_getD hk default, allM_snoc _ _ _ _ _ h]
theorem allM_take_no {iv wd : Int} {l : List NoteR} {b : Mat} {k : Nat} (h : (allM iv wd (l.take k) b).2 = false) : allM iv wd l b = allM iv wd (l.take k) b := by
 conv => lhs; rw [← List.take_append_drop k l]
 exact allM_stop _ _ _ _ _ h
theorem all_any {B : Nat} {w : World} {v : Value} {s : ShR} {wd : Int} (hs : RdSh B w v s) (hg : Good s) (hwd : 0 ≤ wd ∧ wd ≤ 9000) (hB : B ≤ w.heap.size) :
  Calls Tryz.prog 85 #[v, .int .i64 wd] w fun e w' => e = .returned (.tuple #[.agg (matC (boundsF s wd).1), .bool (boundsF s wd).2]) ∧ Below w.heap.size w w' := by
 obtain ⟨vp, vn, rfl, hp, ho⟩ := id hs
 obtain ⟨An, cn, rfl, h5, h6, _⟩ := id ho
 obtain ⟨W1, hW1, r1, z1, d1⟩ := box_any w #[.int .i64 s.iv, vp, .slice An s.notes.length cn] 108
 obtain ⟨W2, hW2, r2, z2, d2⟩ := box_any W1 (matC zeroM) 82
 have c0 : W2.heap[w.heap.size]? = some (.cells #[.int .i64 s.iv, vp, .slice An s.notes.length cn] 108) := (d2.block _ (by omega)).trans r1
 have m2 : MatAt W2 (w.heap.size + 1) 82 zeroM := by have := r2; rwa [z1] at this
 have hb2 : Below w.heap.size w W2 := d1.trans (d2.mono (by omega))
 have hz2 : W2.heap.size = w.heap.size + 2 := by omega
 have C0 := Lib.hid c0
 have M2 := Lib.hid m2
 have HB2 := Lib.hid hb2
 have HZ := Lib.hid hz2
 have HS := Lib.hid hs
 clear c0 m2 hb2 hz2 r1 r2 z1 z2 d1 d2 hs hp ho h5 h6
 go_enter Tryz.func85, Tryz.ntmps85
 go_upto_region 1 with (refine wpList_alloc_mat rfl rfl ?_; intro W3 hW3 hm3 hb3 hz3)
 clear hW3 hm3 hb3 hz3
 rw [← hW1, ← hW2]
 clear hW1 hW2
 go_upto_region 2 with (first | (go_at_call 62; refine (free_any _).mono ?_; rintro e w3 ⟨rfl, hb3⟩) | (refine wpList_store_mat rfl _ _ rfl rfl rfl (M2.out.below hb3) ?_; intro w4 hm4 hg4))
 have hm4 : MatAt w4 (w.heap.size + 1) 82 freeM := hm4
 have hg4' : w3.grownBy w4 (some (w.heap.size + 1)) := hg4
 have hb4 : Below w.heap.size w w4 := HB2.out.trans ((hb3.mono HB2.out.size).trans (grown_below hg4' (by omega) (by have := HB2.out.size; have := hb3.size; omega)))
 have k4 : w4.heap[w.heap.size]? = some (.cells #[.int .i64 s.iv, vp, .slice An s.notes.length cn] 108) := by
  have h1 := (hb3.block _ (lt_of_block C0.out)).trans C0.out
  exact (hg4'.block _ (lt_of_block h1) (by simp)).trans h1
 have HM4 := Lib.hid hm4
 have HB4 := Lib.hid hb4
 have HK4 := Lib.hid k4
 clear hm4 hg4 hg4' hb4 hb3 C0 M2 HB2 k4
 have q2 := cellOf HK4.out 2 rfl
 go_wp2
 clear q2
 go_loopw [12] (fun i wr => ∃ k : Nat, k ≤ s.notes.length ∧ i = .int .i64 k ∧ (allM s.iv wd (s.notes.take k) freeM).2 = true ∧ MatAt wr (w.heap.size + 1) 82 (allM s.iv wd (s.notes.take k) freeM).1 ∧ Below w.heap.size w wr ∧
  wr.heap[w.heap.size]? = some (.cells #[.int .i64 s.iv, vp, .slice An s.notes.length cn] 108)) (fun i _ => s.notes.length - (intOf i).toNat)
 case atStart => exact ⟨0, Nat.zero_le _, rfl, rfl, HM4.out, HB4.out, HK4.out⟩
 case round =>
  obtain ⟨k, hk, rfl, hok, hm, hbr, hkr⟩ := hrel
  have HOK := Lib.hid hok
  have HM := Lib.hid hm
  have HBR := Lib.hid hbr
  have HKR := Lib.hid hkr
  have hnl := hg.nlen
  by_cases hlt : k < s.notes.length
  ·have q0 := cellOf hkr 0 rfl
   have q1 := cellOf hkr 1 rfl
   have q2 := cellOf hkr 2 rfl
   have hfine := allM_fine (iv := s.iv) (wd := wd) hg.plen.2 (l := s.notes.take k) (fun x hx => hg.notes x (List.mem_of_mem_take hx)) free_fine
   have hcall := with_any (w := wr) (b := (allM s.iv wd (s.notes.take k) freeM).1) (i := k) (HS.out.below (hbr.mono hB)) hg hlt hfine hwd (by have := hbr.size; omega)
   rw [← allM_take hlt hok] at hcall
   have HC := Lib.hid hcall
   clear hfine hcall hok hbr hkr
   generalize hcur : (allM s.iv wd (s.notes.take k) freeM).1 = cur at *
   clear hcur
   cases hnx : (allM s.iv wd (s.notes.take (k + 1)) freeM).2 with
   | true =>
    have HNX := Lib.hid hnx
    rw [hnx] at HC
    clear hnx
    go_wp2_with (first | (refine wpList_load_mat rfl _ rfl rfl hm ?_) | (go_at_call 63; refine HC.out.mono ?_; rintro e w5 ⟨rfl, hb5⟩) | (refine wpList_store_mat rfl _ _ rfl rfl rfl (HM.out.below hb5) ?_; intro w6 hm6 hg6))
    have hm6 : MatAt w6 (w.heap.size + 1) 82 (allM s.iv wd (s.notes.take (k + 1)) freeM).1 := hm6
    have hg6 : w5.grownBy w6 (some (w.heap.size + 1)) := hg6
    have hs5 := HBR.out.size
    have hs6 := hb5.size
    refine ⟨⟨k + 1, by omega, by go_num, HNX.out, hm6, ?_, ?_⟩, by simp [intOf]; omega⟩
    ·exact HBR.out.trans ((hb5.mono HBR.out.size).trans (grown_below hg6 (by omega) (by omega)))
    ·have h1 := (hb5.block _ (lt_of_block HKR.out)).trans HKR.out
     exact (hg6.block _ (lt_of_block h1) (by simp)).trans h1
   | false =>
    have hend := Lib.hid (show boundsF s wd = allM s.iv wd (s.notes.take (k + 1)) freeM from allM_take_no hnx)
    rw [hnx] at HC
    have HNX := Lib.hid hnx
    clear hnx
    go_upto_region 7 with (first | (refine wpList_load_mat rfl _ rfl rfl hm ?_) | (go_at_call 63; refine HC.out.mono ?_; rintro e w5 ⟨rfl, hb5⟩) | (refine wpList_store_mat rfl _ _ rfl rfl rfl (HM.out.below hb5) ?_; intro w6 hm6 hg6))
    have hm6 : MatAt w6 (w.heap.size + 1) 82 (allM s.iv wd (s.notes.take (k + 1)) freeM).1 := hm6
    go_wp2_with (first | (refine wpList_load_mat rfl _ rfl rfl hm6 ?_) | (refine wpList_store_mat rfl _ _ rfl rfl rfl hm6 ?_; intro w7 hm7 hg7))
    have hg6 : w5.grownBy w6 (some (w.heap.size + 1)) := hg6
    have hg7 : w6.grownBy w7 (some (w.heap.size + 1)) := hg7
    have hs5 := HBR.out.size
    have hs6 := hb5.size
    have hs7 := hg6.size
    refine bodyPost_ret (results95 hm7 rfl rfl) rfl ⟨?_, ?_⟩
    ·rw [hend.out, HNX.out]
    ·exact HBR.out.trans ((hb5.mono HBR.out.size).trans ((grown_below hg6 (by omega) (by omega)).trans (grown_below hg7 (by omega) (by omega))))
  ·have hk2 : k = s.notes.length := by omega
   have hend : boundsF s wd = allM s.iv wd (s.notes.take k) freeM := by unfold boundsF; rw [hk2, List.take_length]
   have HE := Lib.hid hend
   clear hend hk2 hok
   go_wp2_with (first | (refine wpList_load_mat rfl _ rfl rfl hm ?_) | (refine wpList_store_mat rfl _ _ rfl rfl rfl hm ?_; intro w7 hm7 hg7))
   have hg7 : wr.grownBy w7 (some (w.heap.size + 1)) := hg7
   have hs5 := HBR.out.size
   refine bodyPost_ret (results95 hm7 rfl rfl) rfl ⟨?_, ?_⟩
   ·rw [HE.out, HOK.out]
   ·exact HBR.out.trans (grown_below hg7 (by omega) (by omega))
end Go.Proofs.YthnimhnlnddnoaaGreatDoor
namespace Go.Proofs.YthnimhnlnddnoaaGreatDoor
open Go.RowKit
theorem rangeErr_range (lo hi low high : Int) : 0 ≤ rangeErr lo hi low high ∧ rangeErr lo hi low high ≤ 7 := by
 unfold rangeErr
 split
 ·omega
 ·split <;> omega
theorem noteErr_range (np : Nat) (iv : Int) (x : NoteR) : 0 ≤ noteErr np iv x ∧ noteErr np iv x ≤ 7 := by
 have h1 := rangeErr_range x.lo x.hi 0 9000
 have h2 := rangeErr_range x.lo x.hi (-9000) 9000
 have h3 := rangeErr_range x.lo x.hi 0 0
 have h4 := rangeErr_range x.lo x.hi 0 (9000 / iv)
 unfold noteErr
 split
 ·omega
 ·split
  ·omega
  ·split
   ·omega
   ·split
    ·exact h1
    ·split
     ·exact h2
     ·split
      ·exact h3
      ·split
       ·exact h4
       ·split <;> omega
theorem ptErr_range (s : ShR) (i : Nat) : 0 ≤ ptErr s i ∧ ptErr s i ≤ 7 := by
 unfold ptErr freshErr
 split
 ·omega
 ·split <;> omega
theorem errOf_range (s : ShR) : 0 ≤ errOf s ∧ errOf s ≤ 7 := by
 unfold errOf
 rcases check_cases s with ⟨_, e⟩ | ⟨_, _, e⟩ | ⟨_, _, i, _, h3, _, e⟩ | ⟨_, _, _, _, e⟩ | ⟨_, _, _, _, i, _, h3, _, e⟩ | ⟨h1, h2, h3, h4, h5, e⟩
 all_goals rw [e]
 ·exact ⟨by show (0 : Int) ≤ 7; omega, by show (7 : Int) ≤ 7; omega⟩
 ·exact ⟨by show (0 : Int) ≤ 3; omega, by show (3 : Int) ≤ 7; omega⟩
 ·exact ptErr_range s i
 ·exact ⟨by show (0 : Int) ≤ 3; omega, by show (3 : Int) ≤ 7; omega⟩
 ·exact noteErr_range _ _ _
 ·exact ⟨by show (0 : Int) ≤ 0; omega, by show (0 : Int) ≤ 7; omega⟩
def openM (s : ShR) : Mat := if errOf s ≠ 0 then zeroM else (boundsF s 0).1
def openE (s : ShR) : Int := if errOf s ≠ 0 then errOf s else if (boundsF s 0).2 = false then 9 else 0
theorem results68 {w : World} {g : Nat} {m : Mat} {r : Int} {tmps : Array Value} (h1 : MatAt w g 82 m) (t1 : tmps[2]?.getD undef = .pointer (some ⟨g, 0, none⟩)) (t2 : tmps[3]?.getD undef = .int .i64 r) :
  (results Tryz.f44 tmps).run Tryz.prog w = .ok (.tuple #[.agg (matC m), .int .i64 r]) w := by
 have hl := load_mat h1
 clear h1
 generalize matC m = cs at *
 simp [results, Tryz.results44, t1, t2, asAddr, hl]
theorem open_any {B : Nat} {w : World} {v : Value} {s : ShR} (hs : RdSh B w v s) (hn : Named s) (hB : B ≤ w.heap.size) :
  Calls Tryz.prog 44 #[v] w fun e w' => e = .returned (.tuple #[.agg (matC (openM s)), .int .i64 (openE s)]) ∧ Below w.heap.size w w' := by
 obtain ⟨vp, vn, rfl, hp, ho⟩ := id hs
 obtain ⟨An, cn, rfl, h5, h6, _⟩ := id ho
 obtain ⟨W1, hW1, r1, z1, d1⟩ := box_any w #[.int .i64 s.iv, vp, .slice An s.notes.length cn] 38
 obtain ⟨W2, hW2, r2, z2, d2⟩ := box_any W1 (matC zeroM) 82
 have c0 : W2.heap[w.heap.size]? = some (.cells #[.int .i64 s.iv, vp, .slice An s.notes.length cn] 38) := (d2.block _ (by omega)).trans r1
 have m2 : MatAt W2 (w.heap.size + 1) 82 zeroM := by have := r2; rwa [z1] at this
 have hb2 : Below w.heap.size w W2 := d1.trans (d2.mono (by omega))
 have C0 := Lib.hid c0
 have M2 := Lib.hid m2
 have HB2 := Lib.hid hb2
 have HZ := Lib.hid (show W2.heap.size = w.heap.size + 2 by omega)
 have HC := Lib.hid (pcheck_any (hs.below (hb2.mono hB)) hn (Nat.le_trans hB hb2.size))
 have HS := Lib.hid hs
 clear c0 m2 hb2 r1 r2 z1 z2 d1 d2 hs hp ho h5 h6
 unfold checkV at HC
 have heo : errOf s = (check s).2.2 := rfl
 rw [← heo] at HC
 generalize (check s).1 = e1 at *
 generalize (check s).2.1 = e2 at *
 clear heo
 have q0 := cellOf C0.out 0 rfl
 have q1 := cellOf C0.out 1 rfl
 have q2 := cellOf C0.out 2 rfl
 by_cases he : errOf s = 0
 ·have hv : Valid s := he
  have hg := good_of_valid hv
  have hne : (errOf s != 0) = false := by simp [he]
  have HE := Lib.hid he
  clear he
  cases hbd : (boundsF s 0).2 with
  | true =>
   have HA := Lib.hid (fun (W : World) (hb : Below W2.heap.size W2 W) => all_any (w := W) (wd := 0) (HS.out.below ((HB2.out.trans (hb.mono HB2.out.size)).mono hB)) hg ⟨by omega, by omega⟩ (Nat.le_trans hB (Nat.le_trans HB2.out.size hb.size)))
   rw [hbd] at HA
   have HR := Lib.hid (show openM s = (boundsF s 0).1 ∧ openE s = 0 from ⟨by unfold openM; rw [if_neg (by simp [HE.out])], by unfold openE; rw [if_neg (by simp [HE.out]), if_neg (by simp [hbd])]⟩)
   clear hbd hv
   go_enter Tryz.func44, Tryz.ntmps44
   go_upto_region 1 with (refine wpList_alloc_mat rfl rfl ?_; intro W3 hW3 hm3 hb3 hz3)
   clear hW3 hm3 hb3 hz3
   rw [← hW1, ← hW2]
   clear hW1 hW2
   go_upto_region 4 with (go_at_call 58; refine HC.out.mono ?_; rintro e w3 ⟨rfl, hb3⟩)
   have k3 := (hb3.block _ (lt_of_block C0.out)).trans C0.out
   have q0 := cellOf k3 0 rfl
   have q1 := cellOf k3 1 rfl
   have q2 := cellOf k3 2 rfl
   clear k3
   go_wp2_with (first | (go_at_call 85; refine (HA.out _ hb3).mono ?_; rintro e w4 ⟨rfl, hb4⟩; have hm4 := (M2.out.below hb3).below hb4) | (refine wpList_load_mat rfl _ rfl rfl hm5 ?_) | (refine wpList_store_mat rfl _ _ rfl rfl rfl hm4 ?_; intro w5 hm5 hg5) | (refine wpList_store_mat rfl _ _ rfl rfl rfl hm5 ?_; intro w6 hm6 hg6))
   have hg5 : w4.grownBy w5 (some (w.heap.size + 1)) := hg5
   have hg6 : w5.grownBy w6 (some (w.heap.size + 1)) := hg6
   have z2 := HB2.out.size
   have z3 := hb3.size
   have z4 := hb4.size
   have z5 := hg5.size
   refine bodyPost_ret (results68 hm6 rfl rfl) rfl ⟨?_, ?_⟩
   ·rw [HR.out.1, HR.out.2]
   ·exact HB2.out.trans ((hb3.mono z2).trans ((hb4.mono (by omega)).trans ((grown_below hg5 (by omega) (by omega)).trans (grown_below hg6 (by omega) (by omega)))))
  | false =>
   have HA := Lib.hid (fun (W : World) (hb : Below W2.heap.size W2 W) => all_any (w := W) (wd := 0) (HS.out.below ((HB2.out.trans (hb.mono HB2.out.size)).mono hB)) hg ⟨by omega, by omega⟩ (Nat.le_trans hB (Nat.le_trans HB2.out.size hb.size)))
   rw [hbd] at HA
   have HR := Lib.hid (show openM s = (boundsF s 0).1 ∧ openE s = 9 from ⟨by unfold openM; rw [if_neg (by simp [HE.out])], by unfold openE; rw [if_neg (by simp [HE.out]), if_pos hbd]⟩)
   clear hbd hv
   go_enter Tryz.func44, Tryz.ntmps44
   go_upto_region 1 with (refine wpList_alloc_mat rfl rfl ?_; intro W3 hW3 hm3 hb3 hz3)
   clear hW3 hm3 hb3 hz3
   rw [← hW1, ← hW2]
   clear hW1 hW2
   go_upto_region 4 with (go_at_call 58; refine HC.out.mono ?_; rintro e w3 ⟨rfl, hb3⟩)
   have k3 := (hb3.block _ (lt_of_block C0.out)).trans C0.out
   have q0 := cellOf k3 0 rfl
   have q1 := cellOf k3 1 rfl
   have q2 := cellOf k3 2 rfl
   clear k3
   go_wp2_with (first | (go_at_call 85; refine (HA.out _ hb3).mono ?_; rintro e w4 ⟨rfl, hb4⟩; have hm4 := (M2.out.below hb3).below hb4) | (refine wpList_load_mat rfl _ rfl rfl hm5 ?_) | (refine wpList_store_mat rfl _ _ rfl rfl rfl hm4 ?_; intro w5 hm5 hg5) | (refine wpList_store_mat rfl _ _ rfl rfl rfl hm5 ?_; intro w6 hm6 hg6))
   have hg5 : w4.grownBy w5 (some (w.heap.size + 1)) := hg5
   have hg6 : w5.grownBy w6 (some (w.heap.size + 1)) := hg6
   have z2 := HB2.out.size
   have z3 := hb3.size
   have z4 := hb4.size
   have z5 := hg5.size
   refine bodyPost_ret (results68 hm6 rfl rfl) rfl ⟨?_, ?_⟩
   ·rw [HR.out.1, HR.out.2]
   ·exact HB2.out.trans ((hb3.mono z2).trans ((hb4.mono (by omega)).trans ((grown_below hg5 (by omega) (by omega)).trans (grown_below hg6 (by omega) (by omega)))))
 ·have hne : (errOf s != 0) = true := by simp [he]
  have HR := Lib.hid (show openM s = zeroM ∧ openE s = errOf s from ⟨by unfold openM; rw [if_pos he], by unfold openE; rw [if_pos he]⟩)
  clear he
  go_enter Tryz.func44, Tryz.ntmps44
  go_upto_region 1 with (refine wpList_alloc_mat rfl rfl ?_; intro W3 hW3 hm3 hb3 hz3)
  clear hW3 hm3 hb3 hz3
  rw [← hW1, ← hW2]
  clear hW1 hW2
  go_wp2_with (first | (go_at_call 58; refine HC.out.mono ?_; rintro e w3 ⟨rfl, hb3⟩; have hm4 := M2.out.below hb3) | (refine wpList_load_mat rfl _ rfl rfl hm4 ?_) | (refine wpList_store_mat rfl _ _ rfl rfl rfl hm4 ?_; intro w5 hm5 hg5))
  have hg5 : w3.grownBy w5 (some (w.heap.size + 1)) := hg5
  have z2 := HB2.out.size
  have z3 := hb3.size
  refine bodyPost_ret (results68 hm5 rfl rfl) rfl ⟨?_, ?_⟩
  ·rw [HR.out.1, HR.out.2]
  ·exact HB2.out.trans ((hb3.mono z2).trans (grown_below hg5 (by omega) (by omega)))
def fitsB (s : ShR) : Bool := decide (openE s = 0)
theorem openE_err {s : ShR} (h : errOf s ≠ 0) : openE s = errOf s := by unfold openE; rw [if_pos h]
theorem openE_ok {s : ShR} (h : errOf s = 0) : openE s = if (boundsF s 0).2 = false then 9 else 0 := by unfold openE; rw [if_neg (by simp [h])]
theorem fits_any {B : Nat} {w : World} {v : Value} {s : ShR} (hs : RdSh B w v s) (hn : Named s) (hB : B ≤ w.heap.size) :
  Calls Tryz.prog 23 #[v] w fun e w' => e = .returned (.tuple #[.bool (fitsB s), .int .i64 (errOf s)]) ∧ Below w.heap.size w w' := by
 obtain ⟨vp, vn, rfl, hp, ho⟩ := id hs
 obtain ⟨W1, hW1, r1, z1, d1⟩ := box_any w #[.int .i64 s.iv, vp, vn] 38
 have HO := Lib.hid (open_any (hs.below (d1.mono hB)) hn (Nat.le_trans hB d1.size))
 have HB1 := Lib.hid d1
 have HR1 := Lib.hid r1
 have HC := Lib.hid (fun (W : World) (hb : Below W1.heap.size W1 W) => pcheck_any (w := W) (hs.below ((d1.trans (hb.mono d1.size)).mono hB)) hn (Nat.le_trans hB (Nat.le_trans d1.size hb.size)))
 have q0 := cellOf r1 0 rfl
 have q1 := cellOf r1 1 rfl
 have q2 := cellOf r1 2 rfl
 have hrange := errOf_range s
 unfold checkV at HC
 have heo : errOf s = (check s).2.2 := rfl
 rw [← heo] at HC
 generalize (check s).1 = e1 at *
 generalize (check s).2.1 = e2 at *
 clear heo hp ho hs r1 z1 d1
 have hfb : fitsB s = decide (openE s = 0) := rfl
 by_cases he : errOf s = 0
 ·have hoe := openE_ok he
  have HE := Lib.hid he
  have hz : (errOf s == 0) = true := by simp [he]
  clear he
  by_cases hb : (boundsF s 0).2 = false
  ·rw [if_pos hb] at hoe
   have HF := Lib.hid (show fitsB s = false by rw [hfb, hoe]; rfl)
   rw [hoe] at HO
   clear hoe hfb hb
   go_enter Tryz.func23, Tryz.ntmps23
   go_upto_region 1 with (fail)
   rw [← hW1]
   clear hW1
   go_upto_region 2 with (first | (go_at_call 44; refine HO.out.mono ?_; rintro e w3 ⟨rfl, hb3⟩) | (refine wpList_alloc_mat rfl rfl ?_; intro w4 hw4 hm4 hb4 hz4) | (refine wpList_store_mat rfl _ _ rfl rfl rfl hm4 ?_; intro w5 hm5 hg5))
   have hg5 : w4.grownBy w5 (some w3.heap.size) := hg5
   have z1 := HB1.out.size
   have z3 := hb3.size
   have hlt := lt_of_block HR1.out
   have hb5 : Below W1.heap.size W1 w5 := hb3.trans ((hb4.mono (by omega)).trans (grown_below hg5 (by omega) (by omega)))
   have k5 := (hb5.block _ hlt).trans HR1.out
   have q0 := cellOf k5 0 rfl
   have q1 := cellOf k5 1 rfl
   have q2 := cellOf k5 2 rfl
   have HB5 := Lib.hid hb5
   have Z1 := Lib.hid z1
   clear k5 hlt hb5 z1 z3 hg5 hm5 hb4 hm4 hw4 hz4 hb3
   go_wp2_with (go_at_call 58; refine (HC.out _ HB5.out).mono ?_; rintro e w6 ⟨rfl, hb6⟩)
   go_ret2
   exact ⟨by rw [HF.out, HE.out]; rfl, HB1.out.trans ((HB5.out.trans (hb6.mono HB5.out.size)).mono Z1.out)⟩
  ·rw [if_neg hb] at hoe
   have HF := Lib.hid (show fitsB s = true by rw [hfb, hoe]; rfl)
   rw [hoe] at HO
   clear hoe hfb hb
   go_enter Tryz.func23, Tryz.ntmps23
   go_upto_region 1 with (fail)
   rw [← hW1]
   clear hW1
   go_upto_region 2 with (first | (go_at_call 44; refine HO.out.mono ?_; rintro e w3 ⟨rfl, hb3⟩) | (refine wpList_alloc_mat rfl rfl ?_; intro w4 hw4 hm4 hb4 hz4) | (refine wpList_store_mat rfl _ _ rfl rfl rfl hm4 ?_; intro w5 hm5 hg5))
   have hg5 : w4.grownBy w5 (some w3.heap.size) := hg5
   have z1 := HB1.out.size
   have z3 := hb3.size
   have hlt := lt_of_block HR1.out
   have hb5 : Below W1.heap.size W1 w5 := hb3.trans ((hb4.mono (by omega)).trans (grown_below hg5 (by omega) (by omega)))
   have k5 := (hb5.block _ hlt).trans HR1.out
   have q0 := cellOf k5 0 rfl
   have q1 := cellOf k5 1 rfl
   have q2 := cellOf k5 2 rfl
   have HB5 := Lib.hid hb5
   have Z1 := Lib.hid z1
   clear k5 hlt hb5 z1 z3 hg5 hm5 hb4 hm4 hw4 hz4 hb3
   go_wp2
   go_ret2
   exact ⟨by rw [HF.out, HE.out]; rfl, HB1.out.trans (HB5.out.mono Z1.out)⟩
 ·have hoe := openE_err he
  rw [hoe] at HO
  have HF := Lib.hid (show fitsB s = false by rw [hfb, hoe]; simp [he])
  have h9 : (errOf s == 9) = false := by simp; omega
  have h0 : (errOf s == 0) = false := by simp [he]
  clear hoe hfb he hrange
  go_enter Tryz.func23, Tryz.ntmps23
  go_upto_region 1 with (fail)
  rw [← hW1]
  clear hW1
  go_upto_region 2 with (first | (go_at_call 44; refine HO.out.mono ?_; rintro e w3 ⟨rfl, hb3⟩) | (refine wpList_alloc_mat rfl rfl ?_; intro w4 hw4 hm4 hb4 hz4) | (refine wpList_store_mat rfl _ _ rfl rfl rfl hm4 ?_; intro w5 hm5 hg5))
  have hg5 : w4.grownBy w5 (some w3.heap.size) := hg5
  have z1 := HB1.out.size
  have z3 := hb3.size
  have hlt := lt_of_block HR1.out
  have hb5 : Below W1.heap.size W1 w5 := hb3.trans ((hb4.mono (by omega)).trans (grown_below hg5 (by omega) (by omega)))
  have k5 := (hb5.block _ hlt).trans HR1.out
  have q0 := cellOf k5 0 rfl
  have q1 := cellOf k5 1 rfl
  have q2 := cellOf k5 2 rfl
  have HB5 := Lib.hid hb5
  have Z1 := Lib.hid z1
  clear k5 hlt hb5 z1 z3 hg5 hm5 hb4 hm4 hw4 hz4 hb3
  go_wp2
  go_ret2
  exact ⟨by rw [HF.out]; rfl, HB1.out.trans (HB5.out.mono Z1.out)⟩
end Go.Proofs.YthnimhnlnddnoaaGreatDoor
