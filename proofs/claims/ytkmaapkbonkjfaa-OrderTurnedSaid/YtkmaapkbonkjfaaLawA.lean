/- Walks of the layer order: words for the laws; OrderLates. -/
import Derived.Test.YtkmaapkbonkjfaaGRef
import Derived.Test.YtkmaapkbonkjfaaGAwake
set_option linter.unusedSimpArgs false
set_option linter.unusedVariables false
namespace Go.Proofs.Ytkmaapkbonkjfaa
open Go.RowKit

/-- a law's shop, in a block of its own -/
structure LwS (w0 : World) (B tb : Nat) (vh vp vo vt : Value) (s : ShopR) (t : List Int) (W : World) : Prop where
  given : Given B W (.agg #[vh, vp, vo]) vt s t
  box : W.heap[tb]? = some (.cells #[vh, vp, vo] 26)
  below : Below w0.heap.size w0 W
theorem LwS.next {w0 : World} {B tb : Nat} {vh vp vo vt : Value} {s : ShopR} {t : List Int} {W W' : World} (h : LwS w0 B tb vh vp vo vt s t W) (hb : Below W.heap.size W W') : LwS w0 B tb vh vp vo vt s t W' :=
  ⟨h.given.below hb, (hb.block _ (lt_of_block h.box)).trans h.box, h.below.trans (hb.mono h.below.size)⟩
theorem LwS.cells {w0 : World} {B tb : Nat} {vh vp vo vt : Value} {s : ShopR} {t : List Int} {W : World} (h : LwS w0 B tb vh vp vo vt s t W) : W.cell? ⟨tb, 0, none⟩ = some vh ∧ W.cell? ⟨tb, 1, none⟩ = some vp ∧ W.cell? ⟨tb, 2, none⟩ = some vo :=
  ⟨cellOf h.box 0 rfl, cellOf h.box 1 rfl, cellOf h.box 2 rfl⟩
theorem LwS.start {B : Nat} {w : World} {vh vp vo vt : Value} {s : ShopR} {t : List Int} (h : Given B w (.agg #[vh, vp, vo]) vt s t) : LwS w B w.heap.size vh vp vo vt s t (w.alloc (.cells #[vh, vp, vo] 26)) := by
  have hb : Below w.heap.size w (w.alloc (.cells #[vh, vp, vo] 26)) := (Below.refl _ _).alloc (Nat.le_refl _) _
  exact ⟨h.below hb, heap_alloc_new w _, hb⟩

def NeededR (w : World) (s : ShopR) (t : List Int) (e : Ending) (w' : World) : Prop :=
  ∃ A c, e = .returned (.tuple #[.slice A (neededF s t).1.length c, .int .i64 (neededF s t).2]) ∧ Rd IntAt 1 w'.heap.size w' (.slice A (neededF s t).1.length c) (neededF s t).1 ∧ Below w.heap.size w w'
theorem neededR_ok {w w' : World} {s : ShopR} {t : List Int} (he : takenErr s t = 0) {A : Option Addr} {c : Nat} (hr : Rd IntAt 1 w'.heap.size w' (.slice A s.parts.length c) (neededL s (ofL s t))) (hb : Below w.heap.size w w') : NeededR w s t (.returned (.tuple #[.slice A s.parts.length c, .int .i64 0])) w' := by
  unfold NeededR
  rw [show neededF s t = (neededL s (ofL s t), 0) by unfold neededF; rw [if_neg (by simp [he])]]
  refine ⟨A, c, by rw [neededL_len], by rw [neededL_len]; exact hr, hb⟩
theorem neededR_bad {w w' : World} {s : ShopR} {t : List Int} (he : takenErr s t ≠ 0) (hb : Below w.heap.size w w') : NeededR w s t (.returned (.tuple #[.slice none 0 0, .int .i64 (takenErr s t)])) w' := by
  unfold NeededR
  rw [show neededF s t = ([], takenErr s t) by unfold neededF; rw [if_pos he]]
  exact ⟨none, 0, rfl, Rd.nil _ _, hb⟩
theorem pneeded_any {B : Nat} {w : World} {v vt : Value} {s : ShopR} {t : List Int} (h : Given B w v vt s t) : Calls Try.prog 20 #[v, vt] w (NeededR w s t) := by
  by_cases he : takenErr s t = 0
  · refine (pneeded_ok h he).mono ?_
    rintro e w' ⟨A, c, rfl, hr, hb⟩
    exact neededR_ok he hr hb
  · refine (pneeded_bad h he).mono ?_
    rintro e w' ⟨rfl, hb⟩
    exact neededR_bad he hb
theorem rneeded_any {B : Nat} {w : World} {v vt : Value} {s : ShopR} {t : List Int} (h : Given B w v vt s t) : Calls Try.prog 21 #[v, vt] w (NeededR w s t) := by
  by_cases he : takenErr s t = 0
  · refine (rneeded_ok h he).mono ?_
    rintro e w' ⟨A, c, rfl, hr, hb⟩
    exact neededR_ok he hr hb
  · refine (rneeded_bad h he).mono ?_
    rintro e w' ⟨rfl, hb⟩
    exact neededR_bad he hb
theorem neededF_len {s : ShopR} (t : List Int) : (neededF s t).1.length ≤ 1000000 := by
  unfold neededF
  split
  · simp
  · rename_i h
    have := (fit_of (show takenErr s t = 0 by simpa using h)).2.1.plen
    rw [neededL_len]
    omega

set_option maxRecDepth 100000 in
set_option maxHeartbeats 2000000 in
theorem lates_any {B : Nat} {w : World} {v vt : Value} {s : ShopR} {t : List Int} (h : Given B w v vt s t) :
    Calls Try.prog 3 #[v, vt] w fun e w' => e = .returned (.bool true) ∧ Below w.heap.size w w' := by
  obtain ⟨Ah, ch, Ap, cp, Ao, co, At_, ct, rfl, rfl⟩ := h.form
  obtain ⟨W, hW⟩ : ∃ W, W = w.alloc (.cells #[.slice Ah s.hours.length ch, .slice Ap s.parts.length cp, .slice Ao s.orders.length co] 26) := ⟨_, rfl⟩
  have HL := Lib.hid (LwS.start h)
  rw [← hW] at HL
  have hnl := neededF_len (s := s) t
  clear h
  go_enter Try.func3, Try.ntmps3
  go_upto_region 1 with (fail)
  rw [← hW]
  clear hW
  obtain ⟨c0, c1, c2⟩ := HL.out.cells
  go_upto_region 2 with (go_at_call 16; refine (pcheck_any HL.out.given.shop HL.out.given.nm HL.out.given.le).mono ?_; unfold checkV; rintro e w1 ⟨rfl, hb⟩; have HL := Lib.hid (HL.out.next hb); obtain ⟨c0, c1, c2⟩ := HL.out.cells; clear hb)
  go_upto_region 3 with (go_at_call 17; refine (rcheck_any HL.out.given.shop HL.out.given.nm HL.out.given.le).mono ?_; unfold checkV; rintro e w2 ⟨rfl, hb⟩; have HL := Lib.hid (HL.out.next hb); obtain ⟨c0, c1, c2⟩ := HL.out.cells; clear hb)
  generalize check s = ck at *
  go_upto_region 6 with (go_at_call 18; refine (plate_any HL.out.given).mono ?_; unfold lateFV; rintro e w3 ⟨rfl, hb⟩; have HL := Lib.hid (HL.out.next hb); obtain ⟨c0, c1, c2⟩ := HL.out.cells; clear hb)
  go_upto_region 7 with (go_at_call 19; refine (rlate_any HL.out.given).mono ?_; unfold lateFV; rintro e w4 ⟨rfl, hb⟩; have HL := Lib.hid (HL.out.next hb); obtain ⟨c0, c1, c2⟩ := HL.out.cells; clear hb)
  generalize lateF s t = lf at *
  have HpN := Lib.hid (fun (W : World) (h : Given B W (.agg #[.slice Ah s.hours.length ch, .slice Ap s.parts.length cp, .slice Ao s.orders.length co]) (.slice At_ t.length ct) s t) => pneeded_any h)
  have HrN := Lib.hid (fun (W : World) (h : Given B W (.agg #[.slice Ah s.hours.length ch, .slice Ap s.parts.length cp, .slice Ao s.orders.length co]) (.slice At_ t.length ct) s t) => rneeded_any h)
  unfold NeededR at HpN HrN
  generalize neededF s t = nf at *
  obtain ⟨nl, ne⟩ := nf
  simp only at HpN HrN hnl
  go_upto_region 10 with (go_at_call 20; refine (HpN.out _ HL.out.given).mono ?_; rintro e w5 ⟨A1, c1', rfl, hr, hb⟩; have HL := Lib.hid (HL.out.next hb); obtain ⟨c0, c1, c2⟩ := HL.out.cells; have HN := Lib.hid hr; clear hb hr)
  go_upto_region 11 with (go_at_call 21; refine (HrN.out _ HL.out.given).mono ?_; rintro e w6 ⟨A2, c2', rfl, hr, hb⟩; have HL := Lib.hid (HL.out.next hb); obtain ⟨c0, c1, c2⟩ := HL.out.cells; have HN := Lib.hid (HN.out.next hb); have HM := Lib.hid hr; clear hb hr)
  go_wp2_with (first | (go_at_call 22; refine (ints_any HN.out HM.out hnl).mono ?_; rw [beq_self_eq_true]; rintro e w7 ⟨rfl, hq⟩; have HL := Lib.hid (HL.out.next (hq.below _)); clear hq) | (go_at_call 23; refine (awake_any _).mono ?_; rintro e w8 ⟨rfl, hb⟩; have HL := Lib.hid (HL.out.next hb); clear hb))
  go_ret
  exact ⟨rfl, HL.out.below⟩
end Go.Proofs.Ytkmaapkbonkjfaa
