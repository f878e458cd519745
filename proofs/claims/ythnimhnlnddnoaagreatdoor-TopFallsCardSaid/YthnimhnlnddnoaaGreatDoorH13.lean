/- Parts of the proof of TpP: PCk. -/
import Derived.Test.YthnimhnlnddnoaaGreatDoorH4
import Derived.WalkKit
import Derived.Deep.Quiet
set_option linter.unusedSimpArgs false
set_option linter.unusedVariables false
set_option maxRecDepth 100000
set_option maxHeartbeats 8000000
namespace Go.Proofs.YthnimhnlnddnoaaGreatDoor
open Go.RowKit
theorem method131 (k a b lo hi : Int) (w : World) : (method 356 171 (.agg #[.int .i64 k, .int .i64 a, .int .i64 b, .int .i64 lo, .int .i64 hi]) "hachure/sheet.about").run Tryz.prog w = .ok (197, .agg #[.int .i64 k, .int .i64 a, .int .i64 b, .int .i64 lo, .int .i64 hi]) w := by kernel_rfl
theorem method132 (k a b lo hi : Int) (w : World) : (method 356 172 (.agg #[.int .i64 k, .int .i64 a, .int .i64 b, .int .i64 lo, .int .i64 hi]) "hachure/sheet.about").run Tryz.prog w = .ok (198, .agg #[.int .i64 k, .int .i64 a, .int .i64 b, .int .i64 lo, .int .i64 hi]) w := by kernel_rfl
theorem method159 (k a b lo hi : Int) (w : World) : (method 356 173 (.agg #[.int .i64 k, .int .i64 a, .int .i64 b, .int .i64 lo, .int .i64 hi]) "hachure/sheet.about").run Tryz.prog w = .ok (199, .agg #[.int .i64 k, .int .i64 a, .int .i64 b, .int .i64 lo, .int .i64 hi]) w := by kernel_rfl
theorem method133 (k a b lo hi : Int) (w : World) : (method 356 174 (.agg #[.int .i64 k, .int .i64 a, .int .i64 b, .int .i64 lo, .int .i64 hi]) "hachure/sheet.about").run Tryz.prog w = .ok (200, .agg #[.int .i64 k, .int .i64 a, .int .i64 b, .int .i64 lo, .int .i64 hi]) w := by kernel_rfl
theorem ta131_131 (k a b lo hi : Int) (w : World) : (Instr.typeAssert (.iface 171 (.agg #[.int .i64 k, .int .i64 a, .int .i64 b, .int .i64 lo, .int .i64 hi])) 168 171 true).run Tryz.prog w = .ok (.tuple #[.agg #[.int .i64 k, .int .i64 a, .int .i64 b, .int .i64 lo, .int .i64 hi], .bool true]) w := by kernel_rfl
theorem ta132_131 (k a b lo hi : Int) (w : World) : (Instr.typeAssert (.iface 172 (.agg #[.int .i64 k, .int .i64 a, .int .i64 b, .int .i64 lo, .int .i64 hi])) 168 171 true).run Tryz.prog w = .ok (.tuple #[.agg #[.int .i64 0, .int .i64 0, .int .i64 0, .int .i64 0, .int .i64 0], .bool false]) w := by kernel_rfl
theorem ta132_132 (k a b lo hi : Int) (w : World) : (Instr.typeAssert (.iface 172 (.agg #[.int .i64 k, .int .i64 a, .int .i64 b, .int .i64 lo, .int .i64 hi])) 168 172 true).run Tryz.prog w = .ok (.tuple #[.agg #[.int .i64 k, .int .i64 a, .int .i64 b, .int .i64 lo, .int .i64 hi], .bool true]) w := by kernel_rfl
theorem ta159_131 (k a b lo hi : Int) (w : World) : (Instr.typeAssert (.iface 173 (.agg #[.int .i64 k, .int .i64 a, .int .i64 b, .int .i64 lo, .int .i64 hi])) 168 171 true).run Tryz.prog w = .ok (.tuple #[.agg #[.int .i64 0, .int .i64 0, .int .i64 0, .int .i64 0, .int .i64 0], .bool false]) w := by kernel_rfl
theorem ta159_132 (k a b lo hi : Int) (w : World) : (Instr.typeAssert (.iface 173 (.agg #[.int .i64 k, .int .i64 a, .int .i64 b, .int .i64 lo, .int .i64 hi])) 168 172 true).run Tryz.prog w = .ok (.tuple #[.agg #[.int .i64 0, .int .i64 0, .int .i64 0, .int .i64 0, .int .i64 0], .bool false]) w := by kernel_rfl
theorem ta159_159 (k a b lo hi : Int) (w : World) : (Instr.typeAssert (.iface 173 (.agg #[.int .i64 k, .int .i64 a, .int .i64 b, .int .i64 lo, .int .i64 hi])) 168 173 true).run Tryz.prog w = .ok (.tuple #[.agg #[.int .i64 k, .int .i64 a, .int .i64 b, .int .i64 lo, .int .i64 hi], .bool true]) w := by kernel_rfl
theorem ta159_133 (k a b lo hi : Int) (w : World) : (Instr.typeAssert (.iface 173 (.agg #[.int .i64 k, .int .i64 a, .int .i64 b, .int .i64 lo, .int .i64 hi])) 168 174 true).run Tryz.prog w = .ok (.tuple #[.agg #[.int .i64 0, .int .i64 0, .int .i64 0, .int .i64 0, .int .i64 0], .bool false]) w := by kernel_rfl
theorem ta133_131 (k a b lo hi : Int) (w : World) : (Instr.typeAssert (.iface 174 (.agg #[.int .i64 k, .int .i64 a, .int .i64 b, .int .i64 lo, .int .i64 hi])) 168 171 true).run Tryz.prog w = .ok (.tuple #[.agg #[.int .i64 0, .int .i64 0, .int .i64 0, .int .i64 0, .int .i64 0], .bool false]) w := by kernel_rfl
theorem ta133_132 (k a b lo hi : Int) (w : World) : (Instr.typeAssert (.iface 174 (.agg #[.int .i64 k, .int .i64 a, .int .i64 b, .int .i64 lo, .int .i64 hi])) 168 172 true).run Tryz.prog w = .ok (.tuple #[.agg #[.int .i64 0, .int .i64 0, .int .i64 0, .int .i64 0, .int .i64 0], .bool false]) w := by kernel_rfl
theorem ta133_159 (k a b lo hi : Int) (w : World) : (Instr.typeAssert (.iface 174 (.agg #[.int .i64 k, .int .i64 a, .int .i64 b, .int .i64 lo, .int .i64 hi])) 168 173 true).run Tryz.prog w = .ok (.tuple #[.agg #[.int .i64 0, .int .i64 0, .int .i64 0, .int .i64 0, .int .i64 0], .bool false]) w := by kernel_rfl
theorem ta133_133 (k a b lo hi : Int) (w : World) : (Instr.typeAssert (.iface 174 (.agg #[.int .i64 k, .int .i64 a, .int .i64 b, .int .i64 lo, .int .i64 hi])) 168 174 true).run Tryz.prog w = .ok (.tuple #[.agg #[.int .i64 k, .int .i64 a, .int .i64 b, .int .i64 lo, .int .i64 hi], .bool true]) w := by kernel_rfl
theorem pnote_no (iv : Int) (A : Option Addr) (n c : Nat) (vn : Value) (x : NoteR) (w : World) (hk : inB x.kind 1 4 = false) :
  Calls Tryz.prog 95 #[.agg #[.int .i64 iv, .slice A n c, vn], noteV x] w fun e w' => e = .returned (.int .i64 (noteErr n iv x)) ∧ Below w.heap.size w w' := by
 obtain ⟨W1, hW1, r1, z1, b1⟩ := box_any w #[.int .i64 iv, .slice A n c, vn] 38
 obtain ⟨W2, hW2, r2, z2, b2⟩ := box_any W1 #[.int .i64 x.kind, .int .i64 x.a, .int .i64 x.b, .int .i64 x.lo, .int .i64 x.hi] 86
 have hbb := b1.trans (b2.mono (by omega : w.heap.size ≤ W1.heap.size))
 have r1 := (b2.block _ (by omega)).trans r1
 rw [z1] at r2
 have s0 := cellOf r1 0 rfl
 have s1 := cellOf r1 1 rfl
 have c0 := cellOf r2 0 rfl
 have c1 := cellOf r2 1 rfl
 have c2 := cellOf r2 2 rfl
 have c3 := cellOf r2 3 rfl
 have c4 := cellOf r2 4 rfl
 have Hbb := Lib.hid hbb
 clear hbb b1 b2 r1 r2 z2
 have HC : Hid (∀ W : World, Below W2.heap.size W2 W → W.cell? ⟨w.heap.size, 0, none⟩ = some (.int .i64 iv) ∧ W.cell? ⟨w.heap.size, 1, none⟩ = some (.slice A n c) ∧ W.cell? ⟨w.heap.size + 1, 1, none⟩ = some (.int .i64 x.a) ∧
   W.cell? ⟨w.heap.size + 1, 2, none⟩ = some (.int .i64 x.b) ∧ W.cell? ⟨w.heap.size + 1, 3, none⟩ = some (.int .i64 x.lo) ∧ W.cell? ⟨w.heap.size + 1, 4, none⟩ = some (.int .i64 x.hi)) :=
  Lib.hid fun W hb => ⟨(hb.cell (cell_lt s0)).trans s0, (hb.cell (cell_lt s1)).trans s1, (hb.cell (cell_lt c1)).trans c1, (hb.cell (cell_lt c2)).trans c2, (hb.cell (cell_lt c3)).trans c3, (hb.cell (cell_lt c4)).trans c4⟩
 clear s0 s1
 have HR := Lib.hid (show noteErr n iv x = 6 by unfold noteErr; rw [if_pos hk])
 have HN := Lib.hid (read_no x W2 hk)
 clear hk
 obtain ⟨kind, a, b, lo, hi⟩ := x
 unfold noteV at *
 simp only at *
 go_enter Tryz.func95, Tryz.ntmps95
 go_upto_region 1 with (fail)
 rw [← hW1, ← hW2]
 clear hW1 hW2
 go_wp2_with (go_at_call 103; refine HN.out.mono ?_; rintro e w3 ⟨rfl, hb3⟩)
 go_ret
 exact ⟨ret_int HR.out.symm, Hbb.out.trans (hb3.mono Hbb.out.size)⟩
theorem pnote_1 (iv : Int) (A : Option Addr) (n c : Nat) (vn : Value) (x : NoteR) (w : World) (hiv : 1 ≤ iv) (hn : n ≤ 1000) (h : x.kind = 1) :
  Calls Tryz.prog 95 #[.agg #[.int .i64 iv, .slice A n c, vn], noteV x] w fun e w' => e = .returned (.int .i64 (noteErr n iv x)) ∧ Below w.heap.size w w' := by
 obtain ⟨W1, hW1, r1, z1, b1⟩ := box_any w #[.int .i64 iv, .slice A n c, vn] 38
 obtain ⟨W2, hW2, r2, z2, b2⟩ := box_any W1 #[.int .i64 x.kind, .int .i64 x.a, .int .i64 x.b, .int .i64 x.lo, .int .i64 x.hi] 86
 have hbb := b1.trans (b2.mono (by omega : w.heap.size ≤ W1.heap.size))
 have r1 := (b2.block _ (by omega)).trans r1
 rw [z1] at r2
 have s0 := cellOf r1 0 rfl
 have s1 := cellOf r1 1 rfl
 have c0 := cellOf r2 0 rfl
 have c1 := cellOf r2 1 rfl
 have c2 := cellOf r2 2 rfl
 have c3 := cellOf r2 3 rfl
 have c4 := cellOf r2 4 rfl
 have Hbb := Lib.hid hbb
 clear hbb b1 b2 r1 r2 z2
 have HC : Hid (∀ W : World, Below W2.heap.size W2 W → W.cell? ⟨w.heap.size, 0, none⟩ = some (.int .i64 iv) ∧ W.cell? ⟨w.heap.size, 1, none⟩ = some (.slice A n c) ∧ W.cell? ⟨w.heap.size + 1, 1, none⟩ = some (.int .i64 x.a) ∧
   W.cell? ⟨w.heap.size + 1, 2, none⟩ = some (.int .i64 x.b) ∧ W.cell? ⟨w.heap.size + 1, 3, none⟩ = some (.int .i64 x.lo) ∧ W.cell? ⟨w.heap.size + 1, 4, none⟩ = some (.int .i64 x.hi)) :=
  Lib.hid fun W hb => ⟨(hb.cell (cell_lt s0)).trans s0, (hb.cell (cell_lt s1)).trans s1, (hb.cell (cell_lt c1)).trans c1, (hb.cell (cell_lt c2)).trans c2, (hb.cell (cell_lt c3)).trans c3, (hb.cell (cell_lt c4)).trans c4⟩
 clear s0 s1
 have HN := Lib.hid (read_is x W2 1 171 h (.inl ⟨rfl, rfl⟩))
 have HA := Lib.hid (fun w => about180 x w)
 have hcase : (outB 0 ((n : Int) - 1) [x.a, x.b] = true ∧ noteErr n iv x = 4) ∨ (outB 0 ((n : Int) - 1) [x.a, x.b] = false ∧ x.b ≠ 0 ∧ noteErr n iv x = 2) ∨
   (outB 0 ((n : Int) - 1) [x.a, x.b] = false ∧ x.b = 0 ∧ outB 0 (9000) [x.lo, x.hi] = true ∧ noteErr n iv x = 7) ∨
   (outB 0 ((n : Int) - 1) [x.a, x.b] = false ∧ x.b = 0 ∧ outB 0 (9000) [x.lo, x.hi] = false ∧ x.hi < x.lo + 0 ∧ noteErr n iv x = 2) ∨
   (outB 0 ((n : Int) - 1) [x.a, x.b] = false ∧ x.b = 0 ∧ outB 0 (9000) [x.lo, x.hi] = false ∧ ¬ x.hi < x.lo + 0 ∧ noteErr n iv x = 0) := by
  have hk : inB x.kind 1 4 = true := inB_iff.2 (by omega)
  cases ho : outB 0 ((n : Int) - 1) [x.a, x.b] with
  | true =>
   refine .inl ⟨rfl, ?_⟩
   unfold noteErr
   rw [if_neg (by simp [hk]), if_pos ((outB_two _ _ _ _).1 ho)]
  | false =>
   refine .inr ?_
   by_cases hb : x.b ≠ 0
   ·refine .inl ⟨rfl, hb, ?_⟩
    obtain ⟨ha, hb2⟩ := outB_two_no.1 ho
    unfold noteErr
    rw [if_neg (by simp [hk]), if_neg (by simp [ha, hb2]), if_pos (by rw [h]; simp [hb])]
   ·refine .inr ?_
    have hg : x.b = 0 := by simpa using hb
    have he := noteErr_p (iv := iv) (l := 0) (h := 9000) (m := 0) hk ho (by rw [h]; simp [hg]) (.inl ⟨h, rfl, rfl, rfl⟩)
    cases h2 : outB 0 (9000) [x.lo, x.hi] with
    | true => exact .inl ⟨rfl, hg, rfl, by rw [he, h2]; rfl⟩
    | false =>
     refine .inr ?_
     rw [h2, if_neg (by simp)] at he
     by_cases h3 : x.hi < x.lo + 0
     ·exact .inl ⟨rfl, hg, rfl, h3, by rw [he, if_pos h3]⟩
     ·exact .inr ⟨rfl, hg, rfl, h3, by rw [he, if_neg h3]⟩
 have hbd : outB 0 (9000) [x.lo, x.hi] = false → -9000 ≤ x.lo ∧ x.lo ≤ 9000 := fun h2 => by
  have := inB_iff.1 (outB_two_no.1 h2).1
  omega
 obtain ⟨kind, a, b, lo, hi⟩ := x
 unfold noteV at *
 simp only at *
 rcases hcase with ⟨ho, hr⟩ | ⟨ho, hg, hr⟩ | ⟨ho, hg, h2, hr⟩ | ⟨ho, hg, h2, h3, hr⟩ | ⟨ho, hg, h2, h3, hr⟩
 ·have HR := Lib.hid hr
  clear hr hbd
  have hm := fun w : World => method131 1 a b lo hi w
  have ht0 := fun w : World => ta131_131 1 a b lo hi w
  subst h
  go_enter Tryz.func95, Tryz.ntmps95
  go_upto_region 1 with (fail)
  rw [← hW1, ← hW2]
  clear hW1 hW2
  go_wp2_with (first | (go_at_call 103; refine HN.out.mono ?_; rintro e w3 ⟨rfl, hbx⟩; obtain ⟨s0, s1, c1, c2, c3, c4⟩ := HC.out _ hbx) | (go_at_call 59; refine (out2_any _ _ _ _ _).mono ?_; rintro e w4 ⟨rfl, hb4⟩; have hbx := hbx.trans (hb4.mono hbx.size); obtain ⟨s0, s1, c1, c2, c3, c4⟩ := HC.out _ hbx) | (go_at_call 197; refine (HA.out _).mono ?_; rintro e w5 ⟨rfl, hb5⟩; have hbx := hbx.trans (hb5.mono hbx.size); obtain ⟨s0, s1, c1, c2, c3, c4⟩ := HC.out _ hbx))
  go_ret
  exact ⟨ret_int HR.out.symm, Hbb.out.trans (hbx.mono Hbb.out.size)⟩
 ·have HR := Lib.hid hr
  clear hr hbd
  have hg : (b != 0) = true := by simpa using hg
  have hm := fun w : World => method131 1 a b lo hi w
  have ht0 := fun w : World => ta131_131 1 a b lo hi w
  subst h
  go_enter Tryz.func95, Tryz.ntmps95
  go_upto_region 1 with (fail)
  rw [← hW1, ← hW2]
  clear hW1 hW2
  go_wp2_with (first | (go_at_call 103; refine HN.out.mono ?_; rintro e w3 ⟨rfl, hbx⟩; obtain ⟨s0, s1, c1, c2, c3, c4⟩ := HC.out _ hbx) | (go_at_call 59; refine (out2_any _ _ _ _ _).mono ?_; rintro e w4 ⟨rfl, hb4⟩; have hbx := hbx.trans (hb4.mono hbx.size); obtain ⟨s0, s1, c1, c2, c3, c4⟩ := HC.out _ hbx) | (go_at_call 197; refine (HA.out _).mono ?_; rintro e w5 ⟨rfl, hb5⟩; have hbx := hbx.trans (hb5.mono hbx.size); obtain ⟨s0, s1, c1, c2, c3, c4⟩ := HC.out _ hbx))
  go_ret
  exact ⟨ret_int HR.out.symm, Hbb.out.trans (hbx.mono Hbb.out.size)⟩
 ·have HR := Lib.hid hr
  clear hr hbd
  subst hg
  have hm := fun w : World => method131 1 a 0 lo hi w
  have ht0 := fun w : World => ta131_131 1 a 0 lo hi w
  subst h
  go_enter Tryz.func95, Tryz.ntmps95
  go_upto_region 1 with (fail)
  rw [← hW1, ← hW2]
  clear hW1 hW2
  go_wp2_with (first | (go_at_call 103; refine HN.out.mono ?_; rintro e w3 ⟨rfl, hbx⟩; obtain ⟨s0, s1, c1, c2, c3, c4⟩ := HC.out _ hbx) | (go_at_call 59; refine (out2_any _ _ _ _ _).mono ?_; rintro e w4 ⟨rfl, hb4⟩; have hbx := hbx.trans (hb4.mono hbx.size); obtain ⟨s0, s1, c1, c2, c3, c4⟩ := HC.out _ hbx) | (go_at_call 197; refine (HA.out _).mono ?_; rintro e w5 ⟨rfl, hb5⟩; have hbx := hbx.trans (hb5.mono hbx.size); obtain ⟨s0, s1, c1, c2, c3, c4⟩ := HC.out _ hbx))
  go_ret
  exact ⟨ret_int HR.out.symm, Hbb.out.trans (hbx.mono Hbb.out.size)⟩
 ·have HR := Lib.hid hr
  have hbd := hbd h2
  clear hr
  subst hg
  simp only [Int.add_zero] at h3
  have hm := fun w : World => method131 1 a 0 lo hi w
  have ht0 := fun w : World => ta131_131 1 a 0 lo hi w
  subst h
  go_enter Tryz.func95, Tryz.ntmps95
  go_upto_region 1 with (fail)
  rw [← hW1, ← hW2]
  clear hW1 hW2
  go_wp2_with (first | (go_at_call 103; refine HN.out.mono ?_; rintro e w3 ⟨rfl, hbx⟩; obtain ⟨s0, s1, c1, c2, c3, c4⟩ := HC.out _ hbx) | (go_at_call 59; refine (out2_any _ _ _ _ _).mono ?_; rintro e w4 ⟨rfl, hb4⟩; have hbx := hbx.trans (hb4.mono hbx.size); obtain ⟨s0, s1, c1, c2, c3, c4⟩ := HC.out _ hbx) | (go_at_call 197; refine (HA.out _).mono ?_; rintro e w5 ⟨rfl, hb5⟩; have hbx := hbx.trans (hb5.mono hbx.size); obtain ⟨s0, s1, c1, c2, c3, c4⟩ := HC.out _ hbx))
  go_ret
  exact ⟨ret_int HR.out.symm, Hbb.out.trans (hbx.mono Hbb.out.size)⟩
 ·have HR := Lib.hid hr
  have hbd := hbd h2
  clear hr
  subst hg
  simp only [Int.add_zero] at h3
  have hm := fun w : World => method131 1 a 0 lo hi w
  have ht0 := fun w : World => ta131_131 1 a 0 lo hi w
  subst h
  go_enter Tryz.func95, Tryz.ntmps95
  go_upto_region 1 with (fail)
  rw [← hW1, ← hW2]
  clear hW1 hW2
  go_wp2_with (first | (go_at_call 103; refine HN.out.mono ?_; rintro e w3 ⟨rfl, hbx⟩; obtain ⟨s0, s1, c1, c2, c3, c4⟩ := HC.out _ hbx) | (go_at_call 59; refine (out2_any _ _ _ _ _).mono ?_; rintro e w4 ⟨rfl, hb4⟩; have hbx := hbx.trans (hb4.mono hbx.size); obtain ⟨s0, s1, c1, c2, c3, c4⟩ := HC.out _ hbx) | (go_at_call 197; refine (HA.out _).mono ?_; rintro e w5 ⟨rfl, hb5⟩; have hbx := hbx.trans (hb5.mono hbx.size); obtain ⟨s0, s1, c1, c2, c3, c4⟩ := HC.out _ hbx))
  go_ret
  exact ⟨ret_int HR.out.symm, Hbb.out.trans (hbx.mono Hbb.out.size)⟩
theorem pnote_2 (iv : Int) (A : Option Addr) (n c : Nat) (vn : Value) (x : NoteR) (w : World) (hiv : 1 ≤ iv) (hn : n ≤ 1000) (h : x.kind = 2) :
  Calls Tryz.prog 95 #[.agg #[.int .i64 iv, .slice A n c, vn], noteV x] w fun e w' => e = .returned (.int .i64 (noteErr n iv x)) ∧ Below w.heap.size w w' := by
 obtain ⟨W1, hW1, r1, z1, b1⟩ := box_any w #[.int .i64 iv, .slice A n c, vn] 38
 obtain ⟨W2, hW2, r2, z2, b2⟩ := box_any W1 #[.int .i64 x.kind, .int .i64 x.a, .int .i64 x.b, .int .i64 x.lo, .int .i64 x.hi] 86
 have hbb := b1.trans (b2.mono (by omega : w.heap.size ≤ W1.heap.size))
 have r1 := (b2.block _ (by omega)).trans r1
 rw [z1] at r2
 have s0 := cellOf r1 0 rfl
 have s1 := cellOf r1 1 rfl
 have c0 := cellOf r2 0 rfl
 have c1 := cellOf r2 1 rfl
 have c2 := cellOf r2 2 rfl
 have c3 := cellOf r2 3 rfl
 have c4 := cellOf r2 4 rfl
 have Hbb := Lib.hid hbb
 clear hbb b1 b2 r1 r2 z2
 have HC : Hid (∀ W : World, Below W2.heap.size W2 W → W.cell? ⟨w.heap.size, 0, none⟩ = some (.int .i64 iv) ∧ W.cell? ⟨w.heap.size, 1, none⟩ = some (.slice A n c) ∧ W.cell? ⟨w.heap.size + 1, 1, none⟩ = some (.int .i64 x.a) ∧
   W.cell? ⟨w.heap.size + 1, 2, none⟩ = some (.int .i64 x.b) ∧ W.cell? ⟨w.heap.size + 1, 3, none⟩ = some (.int .i64 x.lo) ∧ W.cell? ⟨w.heap.size + 1, 4, none⟩ = some (.int .i64 x.hi)) :=
  Lib.hid fun W hb => ⟨(hb.cell (cell_lt s0)).trans s0, (hb.cell (cell_lt s1)).trans s1, (hb.cell (cell_lt c1)).trans c1, (hb.cell (cell_lt c2)).trans c2, (hb.cell (cell_lt c3)).trans c3, (hb.cell (cell_lt c4)).trans c4⟩
 clear s0 s1
 have HN := Lib.hid (read_is x W2 2 172 h (.inr (.inl ⟨rfl, rfl⟩)))
 have HA := Lib.hid (fun w => about181 x w)
 have hcase : (outB 0 ((n : Int) - 1) [x.a, x.b] = true ∧ noteErr n iv x = 4) ∨ (outB 0 ((n : Int) - 1) [x.a, x.b] = false ∧ x.b ≠ 0 ∧ noteErr n iv x = 2) ∨
   (outB 0 ((n : Int) - 1) [x.a, x.b] = false ∧ x.b = 0 ∧ outB 0 (9000 / iv) [x.lo, x.hi] = true ∧ noteErr n iv x = 7) ∨
   (outB 0 ((n : Int) - 1) [x.a, x.b] = false ∧ x.b = 0 ∧ outB 0 (9000 / iv) [x.lo, x.hi] = false ∧ x.hi < x.lo + 1 ∧ noteErr n iv x = 2) ∨
   (outB 0 ((n : Int) - 1) [x.a, x.b] = false ∧ x.b = 0 ∧ outB 0 (9000 / iv) [x.lo, x.hi] = false ∧ ¬ x.hi < x.lo + 1 ∧ noteErr n iv x = 0) := by
  have hk : inB x.kind 1 4 = true := inB_iff.2 (by omega)
  cases ho : outB 0 ((n : Int) - 1) [x.a, x.b] with
  | true =>
   refine .inl ⟨rfl, ?_⟩
   unfold noteErr
   rw [if_neg (by simp [hk]), if_pos ((outB_two _ _ _ _).1 ho)]
  | false =>
   refine .inr ?_
   by_cases hb : x.b ≠ 0
   ·refine .inl ⟨rfl, hb, ?_⟩
    obtain ⟨ha, hb2⟩ := outB_two_no.1 ho
    unfold noteErr
    rw [if_neg (by simp [hk]), if_neg (by simp [ha, hb2]), if_pos (by rw [h]; simp [hb])]
   ·refine .inr ?_
    have hg : x.b = 0 := by simpa using hb
    have he := noteErr_p (iv := iv) (l := 0) (h := 9000 / iv) (m := 1) hk ho (by rw [h]; simp [hg]) (.inr (.inl ⟨h, rfl, rfl, rfl⟩))
    cases h2 : outB 0 (9000 / iv) [x.lo, x.hi] with
    | true => exact .inl ⟨rfl, hg, rfl, by rw [he, h2]; rfl⟩
    | false =>
     refine .inr ?_
     rw [h2, if_neg (by simp)] at he
     by_cases h3 : x.hi < x.lo + 1
     ·exact .inl ⟨rfl, hg, rfl, h3, by rw [he, if_pos h3]⟩
     ·exact .inr ⟨rfl, hg, rfl, h3, by rw [he, if_neg h3]⟩
 have hbd : outB 0 (9000 / iv) [x.lo, x.hi] = false → -9000 ≤ x.lo ∧ x.lo ≤ 9000 := fun h2 => by
  have := inB_iff.1 (outB_two_no.1 h2).1
  have h9 : 9000 / iv ≤ 9000 := Int.ediv_le_self _ (by omega)
  omega
 obtain ⟨kind, a, b, lo, hi⟩ := x
 unfold noteV at *
 simp only at *
 rcases hcase with ⟨ho, hr⟩ | ⟨ho, hg, hr⟩ | ⟨ho, hg, h2, hr⟩ | ⟨ho, hg, h2, h3, hr⟩ | ⟨ho, hg, h2, h3, hr⟩
 ·have HR := Lib.hid hr
  clear hr hbd
  have hm := fun w : World => method132 2 a b lo hi w
  have ht0 := fun w : World => ta132_131 2 a b lo hi w
  have ht1 := fun w : World => ta132_132 2 a b lo hi w
  subst h
  go_enter Tryz.func95, Tryz.ntmps95
  go_upto_region 1 with (fail)
  rw [← hW1, ← hW2]
  clear hW1 hW2
  go_wp2_with (first | (go_at_call 103; refine HN.out.mono ?_; rintro e w3 ⟨rfl, hbx⟩; obtain ⟨s0, s1, c1, c2, c3, c4⟩ := HC.out _ hbx) | (go_at_call 59; refine (out2_any _ _ _ _ _).mono ?_; rintro e w4 ⟨rfl, hb4⟩; have hbx := hbx.trans (hb4.mono hbx.size); obtain ⟨s0, s1, c1, c2, c3, c4⟩ := HC.out _ hbx) | (go_at_call 198; refine (HA.out _).mono ?_; rintro e w5 ⟨rfl, hb5⟩; have hbx := hbx.trans (hb5.mono hbx.size); obtain ⟨s0, s1, c1, c2, c3, c4⟩ := HC.out _ hbx))
  go_ret
  exact ⟨ret_int HR.out.symm, Hbb.out.trans (hbx.mono Hbb.out.size)⟩
 ·have HR := Lib.hid hr
  clear hr hbd
  have hg : (b != 0) = true := by simpa using hg
  have hm := fun w : World => method132 2 a b lo hi w
  have ht0 := fun w : World => ta132_131 2 a b lo hi w
  have ht1 := fun w : World => ta132_132 2 a b lo hi w
  subst h
  go_enter Tryz.func95, Tryz.ntmps95
  go_upto_region 1 with (fail)
  rw [← hW1, ← hW2]
  clear hW1 hW2
  go_wp2_with (first | (go_at_call 103; refine HN.out.mono ?_; rintro e w3 ⟨rfl, hbx⟩; obtain ⟨s0, s1, c1, c2, c3, c4⟩ := HC.out _ hbx) | (go_at_call 59; refine (out2_any _ _ _ _ _).mono ?_; rintro e w4 ⟨rfl, hb4⟩; have hbx := hbx.trans (hb4.mono hbx.size); obtain ⟨s0, s1, c1, c2, c3, c4⟩ := HC.out _ hbx) | (go_at_call 198; refine (HA.out _).mono ?_; rintro e w5 ⟨rfl, hb5⟩; have hbx := hbx.trans (hb5.mono hbx.size); obtain ⟨s0, s1, c1, c2, c3, c4⟩ := HC.out _ hbx))
  go_ret
  exact ⟨ret_int HR.out.symm, Hbb.out.trans (hbx.mono Hbb.out.size)⟩
 ·have HR := Lib.hid hr
  clear hr hbd
  subst hg
  have hm := fun w : World => method132 2 a 0 lo hi w
  have ht0 := fun w : World => ta132_131 2 a 0 lo hi w
  have ht1 := fun w : World => ta132_132 2 a 0 lo hi w
  subst h
  go_enter Tryz.func95, Tryz.ntmps95
  go_upto_region 1 with (fail)
  rw [← hW1, ← hW2]
  clear hW1 hW2
  go_wp2_with (first | (go_at_call 103; refine HN.out.mono ?_; rintro e w3 ⟨rfl, hbx⟩; obtain ⟨s0, s1, c1, c2, c3, c4⟩ := HC.out _ hbx) | (go_at_call 59; refine (out2_any _ _ _ _ _).mono ?_; rintro e w4 ⟨rfl, hb4⟩; have hbx := hbx.trans (hb4.mono hbx.size); obtain ⟨s0, s1, c1, c2, c3, c4⟩ := HC.out _ hbx) | (go_at_call 198; refine (HA.out _).mono ?_; rintro e w5 ⟨rfl, hb5⟩; have hbx := hbx.trans (hb5.mono hbx.size); obtain ⟨s0, s1, c1, c2, c3, c4⟩ := HC.out _ hbx))
  go_ret
  exact ⟨ret_int HR.out.symm, Hbb.out.trans (hbx.mono Hbb.out.size)⟩
 ·have HR := Lib.hid hr
  have hbd := hbd h2
  clear hr
  subst hg
  have hm := fun w : World => method132 2 a 0 lo hi w
  have ht0 := fun w : World => ta132_131 2 a 0 lo hi w
  have ht1 := fun w : World => ta132_132 2 a 0 lo hi w
  subst h
  go_enter Tryz.func95, Tryz.ntmps95
  go_upto_region 1 with (fail)
  rw [← hW1, ← hW2]
  clear hW1 hW2
  go_wp2_with (first | (go_at_call 103; refine HN.out.mono ?_; rintro e w3 ⟨rfl, hbx⟩; obtain ⟨s0, s1, c1, c2, c3, c4⟩ := HC.out _ hbx) | (go_at_call 59; refine (out2_any _ _ _ _ _).mono ?_; rintro e w4 ⟨rfl, hb4⟩; have hbx := hbx.trans (hb4.mono hbx.size); obtain ⟨s0, s1, c1, c2, c3, c4⟩ := HC.out _ hbx) | (go_at_call 198; refine (HA.out _).mono ?_; rintro e w5 ⟨rfl, hb5⟩; have hbx := hbx.trans (hb5.mono hbx.size); obtain ⟨s0, s1, c1, c2, c3, c4⟩ := HC.out _ hbx))
  go_ret
  exact ⟨ret_int HR.out.symm, Hbb.out.trans (hbx.mono Hbb.out.size)⟩
 ·have HR := Lib.hid hr
  have hbd := hbd h2
  clear hr
  subst hg
  have hm := fun w : World => method132 2 a 0 lo hi w
  have ht0 := fun w : World => ta132_131 2 a 0 lo hi w
  have ht1 := fun w : World => ta132_132 2 a 0 lo hi w
  subst h
  go_enter Tryz.func95, Tryz.ntmps95
  go_upto_region 1 with (fail)
  rw [← hW1, ← hW2]
  clear hW1 hW2
  go_wp2_with (first | (go_at_call 103; refine HN.out.mono ?_; rintro e w3 ⟨rfl, hbx⟩; obtain ⟨s0, s1, c1, c2, c3, c4⟩ := HC.out _ hbx) | (go_at_call 59; refine (out2_any _ _ _ _ _).mono ?_; rintro e w4 ⟨rfl, hb4⟩; have hbx := hbx.trans (hb4.mono hbx.size); obtain ⟨s0, s1, c1, c2, c3, c4⟩ := HC.out _ hbx) | (go_at_call 198; refine (HA.out _).mono ?_; rintro e w5 ⟨rfl, hb5⟩; have hbx := hbx.trans (hb5.mono hbx.size); obtain ⟨s0, s1, c1, c2, c3, c4⟩ := HC.out _ hbx))
  go_ret
  exact ⟨ret_int HR.out.symm, Hbb.out.trans (hbx.mono Hbb.out.size)⟩
theorem pnote_3 (iv : Int) (A : Option Addr) (n c : Nat) (vn : Value) (x : NoteR) (w : World) (hiv : 1 ≤ iv) (hn : n ≤ 1000) (h : x.kind = 3) :
  Calls Tryz.prog 95 #[.agg #[.int .i64 iv, .slice A n c, vn], noteV x] w fun e w' => e = .returned (.int .i64 (noteErr n iv x)) ∧ Below w.heap.size w w' := by
 obtain ⟨W1, hW1, r1, z1, b1⟩ := box_any w #[.int .i64 iv, .slice A n c, vn] 38
 obtain ⟨W2, hW2, r2, z2, b2⟩ := box_any W1 #[.int .i64 x.kind, .int .i64 x.a, .int .i64 x.b, .int .i64 x.lo, .int .i64 x.hi] 86
 have hbb := b1.trans (b2.mono (by omega : w.heap.size ≤ W1.heap.size))
 have r1 := (b2.block _ (by omega)).trans r1
 rw [z1] at r2
 have s0 := cellOf r1 0 rfl
 have s1 := cellOf r1 1 rfl
 have c0 := cellOf r2 0 rfl
 have c1 := cellOf r2 1 rfl
 have c2 := cellOf r2 2 rfl
 have c3 := cellOf r2 3 rfl
 have c4 := cellOf r2 4 rfl
 have Hbb := Lib.hid hbb
 clear hbb b1 b2 r1 r2 z2
 have HC : Hid (∀ W : World, Below W2.heap.size W2 W → W.cell? ⟨w.heap.size, 0, none⟩ = some (.int .i64 iv) ∧ W.cell? ⟨w.heap.size, 1, none⟩ = some (.slice A n c) ∧ W.cell? ⟨w.heap.size + 1, 1, none⟩ = some (.int .i64 x.a) ∧
   W.cell? ⟨w.heap.size + 1, 2, none⟩ = some (.int .i64 x.b) ∧ W.cell? ⟨w.heap.size + 1, 3, none⟩ = some (.int .i64 x.lo) ∧ W.cell? ⟨w.heap.size + 1, 4, none⟩ = some (.int .i64 x.hi)) :=
  Lib.hid fun W hb => ⟨(hb.cell (cell_lt s0)).trans s0, (hb.cell (cell_lt s1)).trans s1, (hb.cell (cell_lt c1)).trans c1, (hb.cell (cell_lt c2)).trans c2, (hb.cell (cell_lt c3)).trans c3, (hb.cell (cell_lt c4)).trans c4⟩
 clear s0 s1
 have HN := Lib.hid (read_is x W2 3 173 h (.inr (.inr (.inl ⟨rfl, rfl⟩))))
 have HA := Lib.hid (fun w => about184 x w)
 have hcase : (outB 0 ((n : Int) - 1) [x.a, x.b] = true ∧ noteErr n iv x = 4) ∨ (outB 0 ((n : Int) - 1) [x.a, x.b] = false ∧ x.a = x.b ∧ noteErr n iv x = 2) ∨
   (outB 0 ((n : Int) - 1) [x.a, x.b] = false ∧ ¬ x.a = x.b ∧ outB 0 (0) [x.lo, x.hi] = true ∧ noteErr n iv x = 7) ∨
   (outB 0 ((n : Int) - 1) [x.a, x.b] = false ∧ ¬ x.a = x.b ∧ outB 0 (0) [x.lo, x.hi] = false ∧ x.hi < x.lo + 0 ∧ noteErr n iv x = 2) ∨
   (outB 0 ((n : Int) - 1) [x.a, x.b] = false ∧ ¬ x.a = x.b ∧ outB 0 (0) [x.lo, x.hi] = false ∧ ¬ x.hi < x.lo + 0 ∧ noteErr n iv x = 0) := by
  have hk : inB x.kind 1 4 = true := inB_iff.2 (by omega)
  cases ho : outB 0 ((n : Int) - 1) [x.a, x.b] with
  | true =>
   refine .inl ⟨rfl, ?_⟩
   unfold noteErr
   rw [if_neg (by simp [hk]), if_pos ((outB_two _ _ _ _).1 ho)]
  | false =>
   refine .inr ?_
   by_cases hb : x.a = x.b
   ·refine .inl ⟨rfl, hb, ?_⟩
    obtain ⟨ha, hb2⟩ := outB_two_no.1 ho
    unfold noteErr
    rw [if_neg (by simp [hk]), if_neg (by simp [ha, hb2]), if_pos (by rw [h]; simp [hb])]
   ·refine .inr ?_
    have hg : ¬ x.a = x.b := by simpa using hb
    have he := noteErr_p (iv := iv) (l := 0) (h := 0) (m := 0) hk ho (by rw [h]; simp [hg]) (.inr (.inr (.inl ⟨h, rfl, rfl, rfl⟩)))
    cases h2 : outB 0 (0) [x.lo, x.hi] with
    | true => exact .inl ⟨rfl, hg, rfl, by rw [he, h2]; rfl⟩
    | false =>
     refine .inr ?_
     rw [h2, if_neg (by simp)] at he
     by_cases h3 : x.hi < x.lo + 0
     ·exact .inl ⟨rfl, hg, rfl, h3, by rw [he, if_pos h3]⟩
     ·exact .inr ⟨rfl, hg, rfl, h3, by rw [he, if_neg h3]⟩
 have hbd : outB 0 (0) [x.lo, x.hi] = false → -9000 ≤ x.lo ∧ x.lo ≤ 9000 := fun h2 => by
  have := inB_iff.1 (outB_two_no.1 h2).1
  omega
 obtain ⟨kind, a, b, lo, hi⟩ := x
 unfold noteV at *
 simp only at *
 rcases hcase with ⟨ho, hr⟩ | ⟨ho, hg, hr⟩ | ⟨ho, hg, h2, hr⟩ | ⟨ho, hg, h2, h3, hr⟩ | ⟨ho, hg, h2, h3, hr⟩
 ·have HR := Lib.hid hr
  clear hr hbd
  have hm := fun w : World => method159 3 a b lo hi w
  have ht0 := fun w : World => ta159_131 3 a b lo hi w
  have ht1 := fun w : World => ta159_132 3 a b lo hi w
  have ht2 := fun w : World => ta159_133 3 a b lo hi w
  subst h
  go_enter Tryz.func95, Tryz.ntmps95
  go_upto_region 1 with (fail)
  rw [← hW1, ← hW2]
  clear hW1 hW2
  go_wp2_with (first | (go_at_call 103; refine HN.out.mono ?_; rintro e w3 ⟨rfl, hbx⟩; obtain ⟨s0, s1, c1, c2, c3, c4⟩ := HC.out _ hbx) | (go_at_call 59; refine (out2_any _ _ _ _ _).mono ?_; rintro e w4 ⟨rfl, hb4⟩; have hbx := hbx.trans (hb4.mono hbx.size); obtain ⟨s0, s1, c1, c2, c3, c4⟩ := HC.out _ hbx) | (go_at_call 199; refine (HA.out _).mono ?_; rintro e w5 ⟨rfl, hb5⟩; have hbx := hbx.trans (hb5.mono hbx.size); obtain ⟨s0, s1, c1, c2, c3, c4⟩ := HC.out _ hbx))
  go_ret
  exact ⟨ret_int HR.out.symm, Hbb.out.trans (hbx.mono Hbb.out.size)⟩
 ·have HR := Lib.hid hr
  clear hr hbd
  subst hg
  have hm := fun w : World => method159 3 a a lo hi w
  have ht0 := fun w : World => ta159_131 3 a a lo hi w
  have ht1 := fun w : World => ta159_132 3 a a lo hi w
  have ht2 := fun w : World => ta159_133 3 a a lo hi w
  subst h
  go_enter Tryz.func95, Tryz.ntmps95
  go_upto_region 1 with (fail)
  rw [← hW1, ← hW2]
  clear hW1 hW2
  go_wp2_with (first | (go_at_call 103; refine HN.out.mono ?_; rintro e w3 ⟨rfl, hbx⟩; obtain ⟨s0, s1, c1, c2, c3, c4⟩ := HC.out _ hbx) | (go_at_call 59; refine (out2_any _ _ _ _ _).mono ?_; rintro e w4 ⟨rfl, hb4⟩; have hbx := hbx.trans (hb4.mono hbx.size); obtain ⟨s0, s1, c1, c2, c3, c4⟩ := HC.out _ hbx) | (go_at_call 199; refine (HA.out _).mono ?_; rintro e w5 ⟨rfl, hb5⟩; have hbx := hbx.trans (hb5.mono hbx.size); obtain ⟨s0, s1, c1, c2, c3, c4⟩ := HC.out _ hbx))
  go_ret
  exact ⟨ret_int HR.out.symm, Hbb.out.trans (hbx.mono Hbb.out.size)⟩
 ·have HR := Lib.hid hr
  clear hr hbd
  have hg : (a == b) = false := by simpa using hg
  have hm := fun w : World => method159 3 a b lo hi w
  have ht0 := fun w : World => ta159_131 3 a b lo hi w
  have ht1 := fun w : World => ta159_132 3 a b lo hi w
  have ht2 := fun w : World => ta159_133 3 a b lo hi w
  subst h
  go_enter Tryz.func95, Tryz.ntmps95
  go_upto_region 1 with (fail)
  rw [← hW1, ← hW2]
  clear hW1 hW2
  go_wp2_with (first | (go_at_call 103; refine HN.out.mono ?_; rintro e w3 ⟨rfl, hbx⟩; obtain ⟨s0, s1, c1, c2, c3, c4⟩ := HC.out _ hbx) | (go_at_call 59; refine (out2_any _ _ _ _ _).mono ?_; rintro e w4 ⟨rfl, hb4⟩; have hbx := hbx.trans (hb4.mono hbx.size); obtain ⟨s0, s1, c1, c2, c3, c4⟩ := HC.out _ hbx) | (go_at_call 199; refine (HA.out _).mono ?_; rintro e w5 ⟨rfl, hb5⟩; have hbx := hbx.trans (hb5.mono hbx.size); obtain ⟨s0, s1, c1, c2, c3, c4⟩ := HC.out _ hbx))
  go_ret
  exact ⟨ret_int HR.out.symm, Hbb.out.trans (hbx.mono Hbb.out.size)⟩
 ·have HR := Lib.hid hr
  have hbd := hbd h2
  clear hr
  have hg : (a == b) = false := by simpa using hg
  simp only [Int.add_zero] at h3
  have hm := fun w : World => method159 3 a b lo hi w
  have ht0 := fun w : World => ta159_131 3 a b lo hi w
  have ht1 := fun w : World => ta159_132 3 a b lo hi w
  have ht2 := fun w : World => ta159_133 3 a b lo hi w
  subst h
  go_enter Tryz.func95, Tryz.ntmps95
  go_upto_region 1 with (fail)
  rw [← hW1, ← hW2]
  clear hW1 hW2
  go_wp2_with (first | (go_at_call 103; refine HN.out.mono ?_; rintro e w3 ⟨rfl, hbx⟩; obtain ⟨s0, s1, c1, c2, c3, c4⟩ := HC.out _ hbx) | (go_at_call 59; refine (out2_any _ _ _ _ _).mono ?_; rintro e w4 ⟨rfl, hb4⟩; have hbx := hbx.trans (hb4.mono hbx.size); obtain ⟨s0, s1, c1, c2, c3, c4⟩ := HC.out _ hbx) | (go_at_call 199; refine (HA.out _).mono ?_; rintro e w5 ⟨rfl, hb5⟩; have hbx := hbx.trans (hb5.mono hbx.size); obtain ⟨s0, s1, c1, c2, c3, c4⟩ := HC.out _ hbx))
  go_ret
  exact ⟨ret_int HR.out.symm, Hbb.out.trans (hbx.mono Hbb.out.size)⟩
 ·have HR := Lib.hid hr
  have hbd := hbd h2
  clear hr
  have hg : (a == b) = false := by simpa using hg
  simp only [Int.add_zero] at h3
  have hm := fun w : World => method159 3 a b lo hi w
  have ht0 := fun w : World => ta159_131 3 a b lo hi w
  have ht1 := fun w : World => ta159_132 3 a b lo hi w
  have ht2 := fun w : World => ta159_133 3 a b lo hi w
  subst h
  go_enter Tryz.func95, Tryz.ntmps95
  go_upto_region 1 with (fail)
  rw [← hW1, ← hW2]
  clear hW1 hW2
  go_wp2_with (first | (go_at_call 103; refine HN.out.mono ?_; rintro e w3 ⟨rfl, hbx⟩; obtain ⟨s0, s1, c1, c2, c3, c4⟩ := HC.out _ hbx) | (go_at_call 59; refine (out2_any _ _ _ _ _).mono ?_; rintro e w4 ⟨rfl, hb4⟩; have hbx := hbx.trans (hb4.mono hbx.size); obtain ⟨s0, s1, c1, c2, c3, c4⟩ := HC.out _ hbx) | (go_at_call 199; refine (HA.out _).mono ?_; rintro e w5 ⟨rfl, hb5⟩; have hbx := hbx.trans (hb5.mono hbx.size); obtain ⟨s0, s1, c1, c2, c3, c4⟩ := HC.out _ hbx))
  go_ret
  exact ⟨ret_int HR.out.symm, Hbb.out.trans (hbx.mono Hbb.out.size)⟩
theorem pnote_4 (iv : Int) (A : Option Addr) (n c : Nat) (vn : Value) (x : NoteR) (w : World) (hiv : 1 ≤ iv) (hn : n ≤ 1000) (h : x.kind = 4) :
  Calls Tryz.prog 95 #[.agg #[.int .i64 iv, .slice A n c, vn], noteV x] w fun e w' => e = .returned (.int .i64 (noteErr n iv x)) ∧ Below w.heap.size w w' := by
 obtain ⟨W1, hW1, r1, z1, b1⟩ := box_any w #[.int .i64 iv, .slice A n c, vn] 38
 obtain ⟨W2, hW2, r2, z2, b2⟩ := box_any W1 #[.int .i64 x.kind, .int .i64 x.a, .int .i64 x.b, .int .i64 x.lo, .int .i64 x.hi] 86
 have hbb := b1.trans (b2.mono (by omega : w.heap.size ≤ W1.heap.size))
 have r1 := (b2.block _ (by omega)).trans r1
 rw [z1] at r2
 have s0 := cellOf r1 0 rfl
 have s1 := cellOf r1 1 rfl
 have c0 := cellOf r2 0 rfl
 have c1 := cellOf r2 1 rfl
 have c2 := cellOf r2 2 rfl
 have c3 := cellOf r2 3 rfl
 have c4 := cellOf r2 4 rfl
 have Hbb := Lib.hid hbb
 clear hbb b1 b2 r1 r2 z2
 have HC : Hid (∀ W : World, Below W2.heap.size W2 W → W.cell? ⟨w.heap.size, 0, none⟩ = some (.int .i64 iv) ∧ W.cell? ⟨w.heap.size, 1, none⟩ = some (.slice A n c) ∧ W.cell? ⟨w.heap.size + 1, 1, none⟩ = some (.int .i64 x.a) ∧
   W.cell? ⟨w.heap.size + 1, 2, none⟩ = some (.int .i64 x.b) ∧ W.cell? ⟨w.heap.size + 1, 3, none⟩ = some (.int .i64 x.lo) ∧ W.cell? ⟨w.heap.size + 1, 4, none⟩ = some (.int .i64 x.hi)) :=
  Lib.hid fun W hb => ⟨(hb.cell (cell_lt s0)).trans s0, (hb.cell (cell_lt s1)).trans s1, (hb.cell (cell_lt c1)).trans c1, (hb.cell (cell_lt c2)).trans c2, (hb.cell (cell_lt c3)).trans c3, (hb.cell (cell_lt c4)).trans c4⟩
 clear s0 s1
 have HN := Lib.hid (read_is x W2 4 174 h (.inr (.inr (.inr ⟨rfl, rfl⟩))))
 have HA := Lib.hid (fun w => about182 x w)
 have hcase : (outB 0 ((n : Int) - 1) [x.a, x.b] = true ∧ noteErr n iv x = 4) ∨ (outB 0 ((n : Int) - 1) [x.a, x.b] = false ∧ x.a = x.b ∧ noteErr n iv x = 2) ∨
   (outB 0 ((n : Int) - 1) [x.a, x.b] = false ∧ ¬ x.a = x.b ∧ outB (-9000) (9000) [x.lo, x.hi] = true ∧ noteErr n iv x = 7) ∨
   (outB 0 ((n : Int) - 1) [x.a, x.b] = false ∧ ¬ x.a = x.b ∧ outB (-9000) (9000) [x.lo, x.hi] = false ∧ x.hi < x.lo + 0 ∧ noteErr n iv x = 2) ∨
   (outB 0 ((n : Int) - 1) [x.a, x.b] = false ∧ ¬ x.a = x.b ∧ outB (-9000) (9000) [x.lo, x.hi] = false ∧ ¬ x.hi < x.lo + 0 ∧ noteErr n iv x = 0) := by
  have hk : inB x.kind 1 4 = true := inB_iff.2 (by omega)
  cases ho : outB 0 ((n : Int) - 1) [x.a, x.b] with
  | true =>
   refine .inl ⟨rfl, ?_⟩
   unfold noteErr
   rw [if_neg (by simp [hk]), if_pos ((outB_two _ _ _ _).1 ho)]
  | false =>
   refine .inr ?_
   by_cases hb : x.a = x.b
   ·refine .inl ⟨rfl, hb, ?_⟩
    obtain ⟨ha, hb2⟩ := outB_two_no.1 ho
    unfold noteErr
    rw [if_neg (by simp [hk]), if_neg (by simp [ha, hb2]), if_pos (by rw [h]; simp [hb])]
   ·refine .inr ?_
    have hg : ¬ x.a = x.b := by simpa using hb
    have he := noteErr_p (iv := iv) (l := -9000) (h := 9000) (m := 0) hk ho (by rw [h]; simp [hg]) (.inr (.inr (.inr ⟨h, rfl, rfl, rfl⟩)))
    cases h2 : outB (-9000) (9000) [x.lo, x.hi] with
    | true => exact .inl ⟨rfl, hg, rfl, by rw [he, h2]; rfl⟩
    | false =>
     refine .inr ?_
     rw [h2, if_neg (by simp)] at he
     by_cases h3 : x.hi < x.lo + 0
     ·exact .inl ⟨rfl, hg, rfl, h3, by rw [he, if_pos h3]⟩
     ·exact .inr ⟨rfl, hg, rfl, h3, by rw [he, if_neg h3]⟩
 have hbd : outB (-9000) (9000) [x.lo, x.hi] = false → -9000 ≤ x.lo ∧ x.lo ≤ 9000 := fun h2 => by
  have := inB_iff.1 (outB_two_no.1 h2).1
  omega
 obtain ⟨kind, a, b, lo, hi⟩ := x
 unfold noteV at *
 simp only at *
 rcases hcase with ⟨ho, hr⟩ | ⟨ho, hg, hr⟩ | ⟨ho, hg, h2, hr⟩ | ⟨ho, hg, h2, h3, hr⟩ | ⟨ho, hg, h2, h3, hr⟩
 ·have HR := Lib.hid hr
  clear hr hbd
  have hm := fun w : World => method133 4 a b lo hi w
  have ht0 := fun w : World => ta133_131 4 a b lo hi w
  have ht1 := fun w : World => ta133_132 4 a b lo hi w
  have ht2 := fun w : World => ta133_133 4 a b lo hi w
  subst h
  go_enter Tryz.func95, Tryz.ntmps95
  go_upto_region 1 with (fail)
  rw [← hW1, ← hW2]
  clear hW1 hW2
  go_wp2_with (first | (go_at_call 103; refine HN.out.mono ?_; rintro e w3 ⟨rfl, hbx⟩; obtain ⟨s0, s1, c1, c2, c3, c4⟩ := HC.out _ hbx) | (go_at_call 59; refine (out2_any _ _ _ _ _).mono ?_; rintro e w4 ⟨rfl, hb4⟩; have hbx := hbx.trans (hb4.mono hbx.size); obtain ⟨s0, s1, c1, c2, c3, c4⟩ := HC.out _ hbx) | (go_at_call 200; refine (HA.out _).mono ?_; rintro e w5 ⟨rfl, hb5⟩; have hbx := hbx.trans (hb5.mono hbx.size); obtain ⟨s0, s1, c1, c2, c3, c4⟩ := HC.out _ hbx))
  go_ret
  exact ⟨ret_int HR.out.symm, Hbb.out.trans (hbx.mono Hbb.out.size)⟩
 ·have HR := Lib.hid hr
  clear hr hbd
  subst hg
  have hm := fun w : World => method133 4 a a lo hi w
  have ht0 := fun w : World => ta133_131 4 a a lo hi w
  have ht1 := fun w : World => ta133_132 4 a a lo hi w
  have ht2 := fun w : World => ta133_133 4 a a lo hi w
  subst h
  go_enter Tryz.func95, Tryz.ntmps95
  go_upto_region 1 with (fail)
  rw [← hW1, ← hW2]
  clear hW1 hW2
  go_wp2_with (first | (go_at_call 103; refine HN.out.mono ?_; rintro e w3 ⟨rfl, hbx⟩; obtain ⟨s0, s1, c1, c2, c3, c4⟩ := HC.out _ hbx) | (go_at_call 59; refine (out2_any _ _ _ _ _).mono ?_; rintro e w4 ⟨rfl, hb4⟩; have hbx := hbx.trans (hb4.mono hbx.size); obtain ⟨s0, s1, c1, c2, c3, c4⟩ := HC.out _ hbx) | (go_at_call 200; refine (HA.out _).mono ?_; rintro e w5 ⟨rfl, hb5⟩; have hbx := hbx.trans (hb5.mono hbx.size); obtain ⟨s0, s1, c1, c2, c3, c4⟩ := HC.out _ hbx))
  go_ret
  exact ⟨ret_int HR.out.symm, Hbb.out.trans (hbx.mono Hbb.out.size)⟩
 ·have HR := Lib.hid hr
  clear hr hbd
  have hg : (a == b) = false := by simpa using hg
  have hm := fun w : World => method133 4 a b lo hi w
  have ht0 := fun w : World => ta133_131 4 a b lo hi w
  have ht1 := fun w : World => ta133_132 4 a b lo hi w
  have ht2 := fun w : World => ta133_133 4 a b lo hi w
  subst h
  go_enter Tryz.func95, Tryz.ntmps95
  go_upto_region 1 with (fail)
  rw [← hW1, ← hW2]
  clear hW1 hW2
  go_wp2_with (first | (go_at_call 103; refine HN.out.mono ?_; rintro e w3 ⟨rfl, hbx⟩; obtain ⟨s0, s1, c1, c2, c3, c4⟩ := HC.out _ hbx) | (go_at_call 59; refine (out2_any _ _ _ _ _).mono ?_; rintro e w4 ⟨rfl, hb4⟩; have hbx := hbx.trans (hb4.mono hbx.size); obtain ⟨s0, s1, c1, c2, c3, c4⟩ := HC.out _ hbx) | (go_at_call 200; refine (HA.out _).mono ?_; rintro e w5 ⟨rfl, hb5⟩; have hbx := hbx.trans (hb5.mono hbx.size); obtain ⟨s0, s1, c1, c2, c3, c4⟩ := HC.out _ hbx))
  go_ret
  exact ⟨ret_int HR.out.symm, Hbb.out.trans (hbx.mono Hbb.out.size)⟩
 ·have HR := Lib.hid hr
  have hbd := hbd h2
  clear hr
  have hg : (a == b) = false := by simpa using hg
  simp only [Int.add_zero] at h3
  have hm := fun w : World => method133 4 a b lo hi w
  have ht0 := fun w : World => ta133_131 4 a b lo hi w
  have ht1 := fun w : World => ta133_132 4 a b lo hi w
  have ht2 := fun w : World => ta133_133 4 a b lo hi w
  subst h
  go_enter Tryz.func95, Tryz.ntmps95
  go_upto_region 1 with (fail)
  rw [← hW1, ← hW2]
  clear hW1 hW2
  go_wp2_with (first | (go_at_call 103; refine HN.out.mono ?_; rintro e w3 ⟨rfl, hbx⟩; obtain ⟨s0, s1, c1, c2, c3, c4⟩ := HC.out _ hbx) | (go_at_call 59; refine (out2_any _ _ _ _ _).mono ?_; rintro e w4 ⟨rfl, hb4⟩; have hbx := hbx.trans (hb4.mono hbx.size); obtain ⟨s0, s1, c1, c2, c3, c4⟩ := HC.out _ hbx) | (go_at_call 200; refine (HA.out _).mono ?_; rintro e w5 ⟨rfl, hb5⟩; have hbx := hbx.trans (hb5.mono hbx.size); obtain ⟨s0, s1, c1, c2, c3, c4⟩ := HC.out _ hbx))
  go_ret
  exact ⟨ret_int HR.out.symm, Hbb.out.trans (hbx.mono Hbb.out.size)⟩
 ·have HR := Lib.hid hr
  have hbd := hbd h2
  clear hr
  have hg : (a == b) = false := by simpa using hg
  simp only [Int.add_zero] at h3
  have hm := fun w : World => method133 4 a b lo hi w
  have ht0 := fun w : World => ta133_131 4 a b lo hi w
  have ht1 := fun w : World => ta133_132 4 a b lo hi w
  have ht2 := fun w : World => ta133_133 4 a b lo hi w
  subst h
  go_enter Tryz.func95, Tryz.ntmps95
  go_upto_region 1 with (fail)
  rw [← hW1, ← hW2]
  clear hW1 hW2
  go_wp2_with (first | (go_at_call 103; refine HN.out.mono ?_; rintro e w3 ⟨rfl, hbx⟩; obtain ⟨s0, s1, c1, c2, c3, c4⟩ := HC.out _ hbx) | (go_at_call 59; refine (out2_any _ _ _ _ _).mono ?_; rintro e w4 ⟨rfl, hb4⟩; have hbx := hbx.trans (hb4.mono hbx.size); obtain ⟨s0, s1, c1, c2, c3, c4⟩ := HC.out _ hbx) | (go_at_call 200; refine (HA.out _).mono ?_; rintro e w5 ⟨rfl, hb5⟩; have hbx := hbx.trans (hb5.mono hbx.size); obtain ⟨s0, s1, c1, c2, c3, c4⟩ := HC.out _ hbx))
  go_ret
  exact ⟨ret_int HR.out.symm, Hbb.out.trans (hbx.mono Hbb.out.size)⟩
theorem pnote_any (iv : Int) (A : Option Addr) (n c : Nat) (vn : Value) (x : NoteR) (w : World) (hiv : 1 ≤ iv) (hn : n ≤ 1000) :
  Calls Tryz.prog 95 #[.agg #[.int .i64 iv, .slice A n c, vn], noteV x] w fun e w' => e = .returned (.int .i64 (noteErr n iv x)) ∧ Below w.heap.size w w' := by
 by_cases hk : inB x.kind 1 4 = false
 ·exact pnote_no iv A n c vn x w hk
 ·have hk' := inB_iff.1 (show inB x.kind 1 4 = true by simpa using hk)
  rcases (show x.kind = 1 ∨ x.kind = 2 ∨ x.kind = 3 ∨ x.kind = 4 by omega) with h | h | h | h
  ·exact pnote_1 iv A n c vn x w hiv hn h
  ·exact pnote_2 iv A n c vn x w hiv hn h
  ·exact pnote_3 iv A n c vn x w hiv hn h
  ·exact pnote_4 iv A n c vn x w hiv hn h
end Go.Proofs.YthnimhnlnddnoaaGreatDoor
