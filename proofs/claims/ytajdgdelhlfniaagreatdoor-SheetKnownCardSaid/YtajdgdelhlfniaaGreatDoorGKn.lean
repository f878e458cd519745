/- What the examples of SheetKnown come to. Walks of the law SheetKnown: what it asks, call by call. The law SheetKnown: its walk. -/
import Derived.Test.YtajdgdelhlfniaaGreatDoorAw0
import Derived.Test.YtajdgdelhlfniaaGreatDoorAw1
import Derived.Lib.SmallJoins
set_option linter.unusedSimpArgs false
set_option linter.unusedVariables false
namespace Go.Proofs.YtajdgdelhlfniaaGreatDoor

def lesX : ShR := ⟨100, (sheetX []).pts, (sheetX []).notes.drop 1⟩
theorem errL : errOf lesX = 0 := by kernel_rfl
theorem ptL : ∀ x ∈ lesX.notes, PtOK x := by unfold PtOK; decide
theorem okL : (boundsF lesX 0).2 = true := (rep_all rep_free ptL).2.trans (by kernel_rfl)
theorem openL : openE lesX = 0 := by rw [openE_ok errL, okL]; rfl
def spL (l : List Int) : List (Int × Int) := [(- atL l 0 8, atL l 8 0), (- atL l 1 8, atL l 8 1), (- atL l 2 8, atL l 8 2), (- atL l 3 8, atL l 8 3)]
theorem heiS_l : spL bS = [(1180, 1200), (900, 1000), (880, 950), (900, 1000)] := by kernel_rfl
theorem heiS : heightsF (sheetX []) = [(1180, 1200), (900, 1000), (880, 950), (900, 1000)] := by
  unfold heightsF
  rw [if_neg (by simp [openS])]
  have h := (rep_all (iv := 100) (wd := 0) rep_free ptS).1
  rw [openS_all [] errS]
  unfold spansL
  rw [show (sheetX []).pts.length = 4 from rfl, show List.range 4 = [0, 1, 2, 3] from rfl]
  simp only [List.map_cons, List.map_nil]
  rw [h 0 8 (by decide) (by decide), h 8 0 (by decide) (by decide), h 1 8 (by decide) (by decide), h 8 1 (by decide) (by decide), h 2 8 (by decide) (by decide), h 8 2 (by decide) (by decide), h 3 8 (by decide) (by decide), h 8 3 (by decide) (by decide)]
  exact heiS_l
def apL (l : List Int) (p q : Nat) : (Int × Int) × Int × Int := ((- atL l p q, atL l q p), orderF (- atL l p q) (atL l q p), 0)
theorem apaS1_l : apL bS 0 1 = ((180, 300), 2, 0) := by kernel_rfl
theorem apaS2_l : apL bS 3 1 = ((0, 0), 3, 0) := by kernel_rfl
theorem apaS1 : apartF (sheetX []) 0 1 = ((180, 300), 2, 0) := by
  unfold apartF
  rw [if_neg (by simp [errS]), if_neg (by decide), if_neg (by simp [openS])]
  have h := (rep_all (iv := 100) (wd := 0) rep_free ptS).1
  rw [openS_all [] errS, show (0 : Int).toNat = 0 from rfl, show (1 : Int).toNat = 1 from rfl, h 0 1 (by decide) (by decide), h 1 0 (by decide) (by decide)]
  exact apaS1_l
theorem apaS2 : apartF (sheetX []) 3 1 = ((0, 0), 3, 0) := by
  unfold apartF
  rw [if_neg (by simp [errS]), if_neg (by decide), if_neg (by simp [openS])]
  have h := (rep_all (iv := 100) (wd := 0) rep_free ptS).1
  rw [openS_all [] errS, show (3 : Int).toNat = 3 from rfl, show (1 : Int).toNat = 1 from rfl, h 3 1 (by decide) (by decide), h 1 3 (by decide) (by decide)]
  exact apaS2_l
def bL : List Int := (allL 100 0 lesX.notes freeL).1
theorem higL_l : ((topL 0 4 bL).2, (topL 1 4 bL).2, (topL 2 4 bL).2, (topL 3 4 bL).2) = (true, true, false, true) := by kernel_rfl
theorem higL : highestF lesX = [0, 1, 3] := by
  unfold highestF
  rw [if_neg (by simp [openL]), show openM lesX = (allM 100 0 lesX.notes freeM).1 by unfold openM; rw [if_neg (by simp [errL])]; rfl]
  have h := (rep_all (iv := 100) (wd := 0) rep_free ptL).1
  have e := higL_l
  simp only [Prod.mk.injEq] at e
  obtain ⟨e0, e1, e2, e3⟩ := e
  unfold highL
  rw [show lesX.pts.length = 4 from rfl, show List.range 4 = [0, 1, 2, 3] from rfl]
  have f0 : highB (allM 100 0 lesX.notes freeM).1 4 0 = true := (high_at h (by omega) (by omega)).trans e0
  have f1 : highB (allM 100 0 lesX.notes freeM).1 4 1 = true := (high_at h (by omega) (by omega)).trans e1
  have f2 : highB (allM 100 0 lesX.notes freeM).1 4 2 = false := (high_at h (by omega) (by omega)).trans e2
  have f3 : highB (allM 100 0 lesX.notes freeM).1 4 3 = true := (high_at h (by omega) (by omega)).trans e3
  simp [List.filter, f0, f1, f2, f3]
theorem wroS : wrongF (sheetX []) = [] := by
  unfold wrongF
  rw [if_neg (by simp [errS])]
  unfold searchF
  rw [rep_try ptS _ _ _ _ _ _ (Nat.le_refl _) rep_free]
  kernel_rfl
theorem widS {n : Int} (h : IsWider (sheetX []) n) : n = 0 :=
  isWider_eq (good_of_valid errS) h (by omega) (by omega) ((rep_all rep_free ptS).2.trans (by kernel_rfl)) (.inl rfl)
end Go.Proofs.YtajdgdelhlfniaaGreatDoor
namespace Go.Proofs.YtajdgdelhlfniaaGreatDoor
open Go.RowKit

theorem Rd.drop1 {B n c : Nat} {w : World} {a : Addr} {x : NoteR} {xs : List NoteR} (h : Rd NoteAt 5 B w (.slice (some a) n c) (x :: xs)) : Rd NoteAt 5 B w (.slice (some (a.add 5)) (n - 1) (c - 1)) xs := by
  obtain ⟨A, cap, e, h1, h2, h3⟩ := h
  injection e with e0 e1 e2
  subst e0 e1 e2
  simp only [List.length_cons] at h1
  refine ⟨some (a.add 5), c - 1, by simp, by omega, by omega, fun i y hy => ?_⟩
  obtain ⟨ad, e, hb, hat⟩ := h3 (i + 1) y (by simpa using hy)
  cases e
  refine ⟨_, rfl, by rw [block_add]; exact hb, ?_⟩
  have e : (a.add 5).add (i * 5) = a.add ((i + 1) * 5) := by
    rw [Addr.add_add]
    congr 1
    omega
  rw [e]
  exact hat
/-- the two sheets of SheetKnown, each in its box -/
structure KnS (w0 : World) (B g : Nat) (p n m : Value) (W : World) : Prop where
  r1 : W.heap[g]? = some (.cells #[.int .i64 100, p, n] 25)
  r2 : W.heap[g + 1]? = some (.cells #[.int .i64 100, p, m] 25)
  s1 : RdSh B W (.agg #[.int .i64 100, p, n]) (sheetX [])
  s2 : RdSh B W (.agg #[.int .i64 100, p, m]) lesX
  hB : B ≤ W.heap.size
  below : Below w0.heap.size w0 W
  gl : Glob W
theorem KnS.next {w0 W W' : World} {B g : Nat} {p n m : Value} (h : KnS w0 B g p n m W) (hb : Below W.heap.size W W') : KnS w0 B g p n m W' :=
  ⟨(hb.block _ (lt_of_block h.r1)).trans h.r1, (hb.block _ (lt_of_block h.r2)).trans h.r2, h.s1.below (hb.mono h.hB), h.s2.below (hb.mono h.hB), Nat.le_trans h.hB hb.size, h.below.trans (hb.mono h.below.size), h.gl.below hb⟩
theorem KnS.cells {w0 W : World} {B g : Nat} {p n m : Value} (h : KnS w0 B g p n m W) : (W.cell? ⟨g, 0, none⟩ = some (.int .i64 100) ∧ W.cell? ⟨g, 1, none⟩ = some p ∧ W.cell? ⟨g, 2, none⟩ = some n) ∧
    (W.cell? ⟨g + 1, 0, none⟩ = some (.int .i64 100) ∧ W.cell? ⟨g + 1, 1, none⟩ = some p ∧ W.cell? ⟨g + 1, 2, none⟩ = some m) :=
  ⟨⟨cellOf h.r1 0 rfl, cellOf h.r1 1 rfl, cellOf h.r1 2 rfl⟩, cellOf h.r2 0 rfl, cellOf h.r2 1 rfl, cellOf h.r2 2 rfl⟩
theorem named_L : Named lesX := fun p hp => named_X [] p hp
section
variable {w0 W : World} {B g : Nat} {p n m : Value} (h : KnS w0 B g p n m W)
include h
theorem kn_hei : Calls Tryz.prog 23 #[.agg #[.int .i64 100, p, n]] W fun e w' => ∃ A c, e = .returned (.tuple #[.slice A 4 c, .int .i64 0]) ∧ Rd SpanAt 2 w'.heap.size w' (.slice A 4 c) [(1180, 1200), (900, 1000), (880, 950), (900, 1000)] ∧ Below W.heap.size W w' := by
  refine (heights_any h.s1 (named_X []) h.hB).mono ?_
  rintro e w' ⟨A, c, rfl, ho, hb⟩
  rw [heiS] at ho ⊢
  rw [openS]
  exact ⟨A, c, rfl, ho.rd, hb⟩
theorem kn_apa1 : Calls Tryz.prog 26 #[.agg #[.int .i64 100, p, n], .int .i64 0, .int .i64 1] W fun e w' => e = .returned (.tuple #[.agg #[.int .i64 180, .int .i64 300], .int .i64 2, .int .i64 0]) ∧ Below W.heap.size W w' := by
  have := apart_any 0 1 h.s1 (named_X []) h.hB
  rw [apaS1] at this
  exact this
theorem kn_apa2 : Calls Tryz.prog 26 #[.agg #[.int .i64 100, p, n], .int .i64 3, .int .i64 1] W fun e w' => e = .returned (.tuple #[.agg #[.int .i64 0, .int .i64 0], .int .i64 3, .int .i64 0]) ∧ Below W.heap.size W w' := by
  have := apart_any 3 1 h.s1 (named_X []) h.hB
  rw [apaS2] at this
  exact this
theorem kn_hig : Calls Tryz.prog 28 #[.agg #[.int .i64 100, p, m]] W fun e w' => ∃ A c, e = .returned (.tuple #[.slice A 3 c, .int .i64 0]) ∧ Rd IntAt 1 w'.heap.size w' (.slice A 3 c) [0, 1, 3] ∧ Below W.heap.size W w' := by
  refine (highest_any h.s2 named_L h.hB).mono ?_
  rintro e w' ⟨A, c, rfl, ho, hb⟩
  rw [higL] at ho ⊢
  rw [openL]
  exact ⟨A, c, rfl, ho.rd, hb⟩
theorem kn_wro : Calls Tryz.prog 33 #[.agg #[.int .i64 100, p, n]] W fun e w' => ∃ A c, e = .returned (.tuple #[.slice A 0 c, .int .i64 0]) ∧ Below W.heap.size W w' := by
  refine (wrong_any h.s1 (named_X []) h.hB).mono ?_
  rintro e w' ⟨A, c, rfl, ho, hb⟩
  rw [wroS, errS]
  exact ⟨A, c, rfl, hb⟩
theorem kn_wid : Calls Tryz.prog 35 #[.agg #[.int .i64 100, p, n]] W fun e w' => e = .returned (.tuple #[.int .i64 0, .int .i64 0]) ∧ Below W.heap.size W w' := by
  refine (wider_any h.s1 (named_X []) h.hB).mono ?_
  rintro e w' ⟨n, rfl, _, hw, hb⟩
  rw [widS (hw errS), errS]
  exact ⟨rfl, hb⟩
end
end Go.Proofs.YtajdgdelhlfniaaGreatDoor
namespace Go.Proofs.YtajdgdelhlfniaaGreatDoor
open Go.RowKit

theorem enterA20 : ∀ args w, (callFunc 20 args).run Tryz.prog w = .ok (.enter 20 args) w := enters_of Tryz.func20 (by kernel_rfl) rfl
theorem Rd.some {α : Type} {At : World → Addr → α → Prop} {sz B n c : Nat} {w : World} {A : Option Addr} {x : α} {xs : List α} (h : Rd At sz B w (.slice A n c) (x :: xs)) : ∃ ad, A = some ad ∧ n = xs.length + 1 ∧ n ≤ c := by
  obtain ⟨A', cap, e, h1, h2, h3⟩ := h
  injection e with e0 e1 e2
  subst e0 e1 e2
  obtain ⟨ad, e, _⟩ := h3 0 x rfl
  exact ⟨ad, e, rfl, h1⟩

set_option maxRecDepth 100000 in
set_option maxHeartbeats 4000000 in
theorem known_any {w : World} (hgl : Glob w) : Calls Tryz.prog 7 #[] w fun e w' => e = .returned (.bool true) ∧ Below w.heap.size w w' := by
  have HGl := Lib.hid hgl
  clear hgl
  go_enter Tryz.func7, Tryz.ntmps7
  go_upto_region 1 with (fail)
  go_upto_region 2 with (first | (go_at_call 42; with_reducible refine Calls.mono (sheet_nil _) ?_; rintro e w1 ⟨A1, c1, D1, d1, rfl, hs1, hb1⟩; have HS1 := Lib.hid hs1; have HB1 := Lib.hid hb1; clear hs1 hb1) | (refine wpList_alloc_any rfl 25 rfl (run_alloc25 _) ?_; simp only [Act.put, List.setIfInBounds_toArray, List.set_cons_succ, List.set_cons_zero]) | (refine wpList_store_row rfl 25 (.tmp 1) (.tmp 17) rfl w1.heap.size #[.int .i64 100, .slice A1 4 c1, .slice D1 4 d1] rfl rfl 25 _ (heap_alloc_new _ _) (by kernel_rfl) rfl (by simp [Value.oneCell']) ?_))
  obtain ⟨X1, hX1⟩ : ∃ X1, X1 = (w1.alloc (.cells #[.int .i64 0, .slice none 0 0, .slice none 0 0] 25)).setRow w1.heap.size #[.int .i64 100, .slice A1 4 c1, .slice D1 4 d1] := ⟨_, rfl⟩
  rw [← hX1]
  have y1 : Below w1.heap.size w1 X1 := by rw [hX1]; exact ((Below.refl _ _).alloc (Nat.le_refl _) _).trans (setRow_below _ (Nat.le_refl _))
  have r1 : X1.heap[w1.heap.size]? = some (.cells #[.int .i64 100, .slice A1 4 c1, .slice D1 4 d1] 25) := by rw [hX1]; exact setRow_heap _ _ _ _ _ _ (heap_alloc_new _ _)
  have z1 : X1.heap.size = w1.heap.size + 1 := by rw [hX1]; simp
  clear hX1
  obtain ⟨D, rfl, _, hd⟩ : ∃ D, D1 = Option.some D ∧ (4 : Nat) = 4 ∧ 4 ≤ d1 := by
    obtain ⟨vp, vn, e, _, h5⟩ := HS1.out
    cases e
    obtain ⟨D, e, _, h⟩ := Rd.some h5
    exact ⟨D, e, rfl, h⟩
  have Y1 := Lib.hid y1; have Z1 := Lib.hid z1; have R1 := Lib.hid r1
  clear y1 z1
  obtain ⟨X2, hX2⟩ : ∃ X2, X2 = (X1.alloc (.cells #[.int .i64 0, .slice none 0 0, .slice none 0 0] 25)).setRow X1.heap.size #[.int .i64 100, .slice A1 4 c1, .slice (some D) 4 d1] := ⟨_, rfl⟩
  have p0 := cellOf r1 0 (v := .int .i64 100) rfl
  have p1 := cellOf r1 1 (v := .slice A1 4 c1) rfl
  have p2 := cellOf r1 2 (v := .slice (some D) 4 d1) rfl
  clear r1
  go_upto_region 3 with (first | (refine wpList_alloc_any rfl 25 rfl (run_alloc25 _) ?_; simp only [Act.put, List.setIfInBounds_toArray, List.set_cons_succ, List.set_cons_zero]) | (refine wpList_store_row rfl 25 (.tmp 2) (.tmp 18) rfl X1.heap.size #[.int .i64 100, .slice A1 4 c1, .slice (some D) 4 d1] rfl rfl 25 _ (heap_alloc_new _ _) (by kernel_rfl) rfl (by simp [Value.oneCell']) ?_))
  rw [← hX2]
  have y2 : Below X1.heap.size X1 X2 := by rw [hX2]; exact ((Below.refl _ _).alloc (Nat.le_refl _) _).trans (setRow_below _ (Nat.le_refl _))
  have r2 : X2.heap[X1.heap.size]? = some (.cells #[.int .i64 100, .slice A1 4 c1, .slice (some D) 4 d1] 25) := by rw [hX2]; exact setRow_heap _ _ _ _ _ _ (heap_alloc_new _ _)
  clear hX2 p0 p1 p2
  have p2 := cellOf ((y2.block _ (by have := Z1.out; omega)).trans R1.out) 2 (v := .slice (some D) 4 d1) rfl
  have o2 := cellOf r2 2 (v := .slice (some D) 4 d1) rfl
  have f2 : X2.frozen? ⟨X1.heap.size, 2, none⟩ = false := by simp [World.frozen?, r2]
  have Y2 := Lib.hid y2; have R2 := Lib.hid r2
  clear y2 r2
  go_upto_region 4 with (fail)
  have hm : (⟨D.block, D.off + 5, none⟩ : Addr) = D.add 5 := by unfold Addr.add; rfl
  obtain ⟨X3, hX3⟩ : ∃ X3, X3 = X2.setCell ⟨X1.heap.size, 2, none⟩ (.slice (some (D.add 5)) 3 (d1 - 1)) := ⟨_, rfl⟩
  rw [hm, ← hX3]
  clear hm
  have y3 : Below X1.heap.size X2 X3 := by rw [hX3]; exact Below.setCell (p := ⟨X1.heap.size, 2, none⟩) (Below.refl X1.heap.size X2) (Nat.le_refl _) _
  have r3 : X3.heap[X1.heap.size]? = some (.cells #[.int .i64 100, .slice A1 4 c1, .slice (some (D.add 5)) 3 (d1 - 1)] 25) := by rw [hX3]; exact (Joins.block_setCell R2.out _).trans rfl
  clear hX3 p2 o2 f2
  have yy : Below w1.heap.size w1 X3 := Y1.out.trans ((Y2.out.trans y3).mono (by have := Z1.out; omega))
  have yw : Below w.heap.size w X3 := HB1.out.trans (yy.mono HB1.out.size)
  have HA : Hid (KnS w w1.heap.size w1.heap.size (.slice A1 4 c1) (.slice (some D) 4 d1) (.slice (some (D.add 5)) 3 (d1 - 1)) X3) := by
    refine Lib.hid ⟨?_, ?_, HS1.out.below yy, ?_, yy.size, yw, HGl.out.below yw⟩
    · have h1 : w1.heap.size < X1.heap.size := by have := Z1.out; omega
      rw [y3.block _ h1, Y2.out.block _ h1]
      exact R1.out
    · rw [← Z1.out]; exact r3
    · obtain ⟨vp, vn, e, h4, h5⟩ := (HS1.out.below yy)
      cases e
      exact ⟨_, _, rfl, h4, Rd.drop1 h5⟩
  rw [Z1.out]
  clear y3 r3 yy yw HS1 HB1 Y1 Z1 R1 Y2 R2 HGl hd
  obtain ⟨⟨q0, q1, q2⟩, q3, q4, q5⟩ := HA.out.cells
  go_upto_region 5 with (go_at_call 23; refine (kn_hei HA.out).mono ?_; rintro e wx ⟨AT, cT, rfl, hr, hb⟩; replace HA := Lib.hid (HA.out.next hb); clear q0 q1 q2 q3 q4 q5; obtain ⟨⟨q0, q1, q2⟩, q3, q4, q5⟩ := HA.out.cells; have HRT := Lib.hid hr; clear hb hr)
  go_upto_region 6 with (go_at_call 26; refine (kn_apa1 HA.out).mono ?_; rintro e wx ⟨rfl, hb⟩; replace HA := Lib.hid (HA.out.next hb); clear q0 q1 q2 q3 q4 q5; obtain ⟨⟨q0, q1, q2⟩, q3, q4, q5⟩ := HA.out.cells; replace HRT := Lib.hid (rdN HRT.out hb); clear hb)
  obtain ⟨wy, hwy⟩ : ∃ wy, wy = wx.alloc (.cells #[.int .i64 180, .int .i64 300] 40) := ⟨_, rfl⟩
  rw [← hwy]
  have hb : Below wx.heap.size wx wy := by rw [hwy]; exact (Below.refl _ _).alloc (Nat.le_refl _) _
  have hbx : wy.heap[wx.heap.size]? = some (.cells #[.int .i64 180, .int .i64 300] 40) := by rw [hwy]; exact heap_alloc_new _ _
  clear hwy
  replace HA := Lib.hid (HA.out.next hb)
  clear q0 q1 q2 q3 q4 q5; obtain ⟨⟨q0, q1, q2⟩, q3, q4, q5⟩ := HA.out.cells
  replace HRT := Lib.hid (rdN HRT.out hb)
  obtain ⟨ga, hgx⟩ : ∃ gx, wx.heap.size = gx := ⟨_, rfl⟩
  rw [hgx] at hbx ⊢
  have HBA := Lib.hid hbx
  clear hb hbx hgx
  go_upto_region 7 with (go_at_call 26; refine (kn_apa2 HA.out).mono ?_; rintro e wx ⟨rfl, hb⟩; replace HA := Lib.hid (HA.out.next hb); clear q0 q1 q2 q3 q4 q5; obtain ⟨⟨q0, q1, q2⟩, q3, q4, q5⟩ := HA.out.cells; replace HRT := Lib.hid (rdN HRT.out hb); replace HBA := Lib.hid (rowN HBA.out hb); clear hb)
  obtain ⟨wy, hwy⟩ : ∃ wy, wy = wx.alloc (.cells #[.int .i64 0, .int .i64 0] 40) := ⟨_, rfl⟩
  rw [← hwy]
  have hb : Below wx.heap.size wx wy := by rw [hwy]; exact (Below.refl _ _).alloc (Nat.le_refl _) _
  have hbx : wy.heap[wx.heap.size]? = some (.cells #[.int .i64 0, .int .i64 0] 40) := by rw [hwy]; exact heap_alloc_new _ _
  clear hwy
  replace HA := Lib.hid (HA.out.next hb)
  clear q0 q1 q2 q3 q4 q5; obtain ⟨⟨q0, q1, q2⟩, q3, q4, q5⟩ := HA.out.cells
  replace HRT := Lib.hid (rdN HRT.out hb)
  replace HBA := Lib.hid (rowN HBA.out hb)
  obtain ⟨gb, hgx⟩ : ∃ gx, wx.heap.size = gx := ⟨_, rfl⟩
  rw [hgx] at hbx ⊢
  have HBB := Lib.hid hbx
  clear hb hbx hgx
  go_upto_region 8 with (go_at_call 28; refine (kn_hig HA.out).mono ?_; rintro e wx ⟨AH, cH, rfl, hr, hb⟩; replace HA := Lib.hid (HA.out.next hb); clear q0 q1 q2 q3 q4 q5; obtain ⟨⟨q0, q1, q2⟩, q3, q4, q5⟩ := HA.out.cells; replace HRT := Lib.hid (rdN HRT.out hb); replace HBA := Lib.hid (rowN HBA.out hb); replace HBB := Lib.hid (rowN HBB.out hb); have HRH := Lib.hid hr; clear hb hr)
  go_upto_region 9 with (go_at_call 33; refine (kn_wro HA.out).mono ?_; rintro e wx ⟨AW, cW, rfl, hb⟩; replace HA := Lib.hid (HA.out.next hb); clear q0 q1 q2 q3 q4 q5; obtain ⟨⟨q0, q1, q2⟩, q3, q4, q5⟩ := HA.out.cells; replace HRT := Lib.hid (rdN HRT.out hb); replace HBA := Lib.hid (rowN HBA.out hb); replace HBB := Lib.hid (rowN HBB.out hb); replace HRH := Lib.hid (rdN HRH.out hb); clear hb)
  go_upto_region 10 with (go_at_call 35; refine (kn_wid HA.out).mono ?_; rintro e wx ⟨rfl, hb⟩; replace HA := Lib.hid (HA.out.next hb); clear q0 q1 q2 q3 q4 q5; obtain ⟨⟨q0, q1, q2⟩, q3, q4, q5⟩ := HA.out.cells; replace HRT := Lib.hid (rdN HRT.out hb); replace HBA := Lib.hid (rowN HBA.out hb); replace HBB := Lib.hid (rowN HBB.out hb); replace HRH := Lib.hid (rdN HRH.out hb); clear hb)
  refine gen_act fun a0 ha0 => ?_
  have hsz : a0.tmps.size = 121 := by rw [ha0]; rfl
  have hdf : a0.defers = [] := by rw [ha0]
  have s3 : a0.tmps[3]?.getD undef = .slice AT 4 cT := by rw [ha0]; rfl
  have s4 : a0.tmps[4]?.getD undef = .int .i64 0 := by rw [ha0]; rfl
  have s5 : a0.tmps[5]?.getD undef = .pointer (some ⟨ga, 0, none⟩) := by rw [ha0]; rfl
  have s6 : a0.tmps[6]?.getD undef = .int .i64 2 := by rw [ha0]; rfl
  have s7 : a0.tmps[7]?.getD undef = .int .i64 0 := by rw [ha0]; rfl
  have s8 : a0.tmps[8]?.getD undef = .pointer (some ⟨gb, 0, none⟩) := by rw [ha0]; rfl
  have s9 : a0.tmps[9]?.getD undef = .int .i64 3 := by rw [ha0]; rfl
  have s10 : a0.tmps[10]?.getD undef = .int .i64 0 := by rw [ha0]; rfl
  have s11 : a0.tmps[11]?.getD undef = .slice AH 3 cH := by rw [ha0]; rfl
  have s12 : a0.tmps[12]?.getD undef = .int .i64 0 := by rw [ha0]; rfl
  have s13 : a0.tmps[13]?.getD undef = .slice AW 0 cW := by rw [ha0]; rfl
  have s14 : a0.tmps[14]?.getD undef = .int .i64 0 := by rw [ha0]; rfl
  have s15 : a0.tmps[15]?.getD undef = .int .i64 0 := by rw [ha0]; rfl
  have s16 : a0.tmps[16]?.getD undef = .int .i64 0 := by rw [ha0]; rfl
  clear ha0
  replace HA := HA.out
  replace HRT := HRT.out
  replace HBA := HBA.out
  replace HBB := HBB.out
  replace HRH := HRH.out
  clear q0 q1 q2 q3 q4 q5
  refine wp_region_ghostG (AgI wx (fun k => ([.int .i64 0, .bool true, .bool true, .int .i64 0, .bool true, .bool true, .bool true, .int .i64 0, .bool true, .bool true, .bool true, .int .i64 0, .bool true, .bool true, .bool true, .int .i64 0, .bool true, .bool true, .bool true, .int .i64 0, .bool true, .bool true, .bool true, .slice AT 4 cT, .agg #[.int .i64 1180, .int .i64 1200], .agg #[.int .i64 900, .int .i64 1000], .agg #[.int .i64 880, .int .i64 950], .agg #[.int .i64 900, .int .i64 1000], undef, .bool true, .bool true, .bool true, .agg #[.int .i64 180, .int .i64 300], .agg #[.int .i64 180, .int .i64 300], .bool true, .bool true, .bool true, .int .i64 2, .bool true, .bool true, .bool true, .agg #[.int .i64 0, .int .i64 0], .agg #[.int .i64 0, .int .i64 0], .bool true, .bool true, .bool true, .int .i64 3, .bool true, .bool true, .bool true, .slice AH 3 cH, undef, .bool true, .bool true, .bool true, .slice AW 0 cW, .int .i64 0, .bool true, .bool true, .bool true, .int .i64 0, .bool true, .bool true, .bool true, .bool true, .bool true, .bool true] : List Value).getD k undef) (fun k => ([(28, (4, #[.int .i64 1180, .int .i64 1200, .int .i64 900, .int .i64 1000, .int .i64 880, .int .i64 950, .int .i64 900, .int .i64 1000], 40)), (51, (3, #[.int .i64 0, .int .i64 1, .int .i64 3], 3))] : List (Nat × Nat × Array Value × TypeId)).lookup k)) (by kernel_rfl) (by kernel_rfl) ?_ ?_ ?_
  · exact ⟨(Below.refl _ _).drew, fun _ _ h => (by cases h), fun _ _ _ _ _ h => (by cases h)⟩
  · refine ⟨?_, ?_, ?_, ?_, ?_, ?_, ?_, ?_, ?_, ?_, ?_, ?_, ?_, ?_, ?_, ?_, ?_, ?_, ?_, ?_, ?_, ?_, ?_, ?_, ?_, ?_, ?_, ?_, ?_, ?_, ?_, ?_, ?_, ?_, ?_, ?_, ?_, ?_, ?_, ?_, ?_, ?_, ?_, ?_, ?_, ?_, ?_, ?_, ?_, ?_, ?_, ?_, ?_, ?_, ?_, ?_, ?_, ?_, ?_, ?_, ?_, ?_, ?_, ?_, ?_, ?_, ?_, trivial⟩
    all_goals
      intro L vs X b hL hw hcl hI hf
    · have e4 : b.tmps[4]?.getD undef = .int .i64 0 := (hf.old 4 (by kernel_rfl)).trans s4
      refine ⟨wanted_plain rfl, ?_⟩
      refine wp_of_run (v := .int .i64 0) (w' := X) (by unfold execOp; go_simp) ?_
      exact hI.next (i := 0) rfl rfl (Below.refl _ _)
    · have h0 : L 0 = true := done_of hw 0 (by kernel_rfl)
      have e55 : b.tmps[55]?.getD undef = .int .i64 0 := (hf.new 0 55 rfl h0 (by rw [hsz]; decide)).trans (hI.rd 0 rfl h0)
      refine ⟨wanted_plain rfl, ?_⟩
      refine wp_of_run (v := .bool true) (w' := X) (by unfold execOp; go_simp) ?_
      exact hI.next (i := 1) rfl rfl (Below.refl _ _)
    · have h1 : L 1 = true := done_of hw 1 (by kernel_rfl)
      have e56 : b.tmps[56]?.getD undef = .bool true := (hf.new 1 56 rfl h1 (by rw [hsz]; decide)).trans (hI.rd 1 rfl h1)
      refine ⟨wanted_plain rfl, ?_⟩
      refine wp_of_run (v := .bool true) (w' := X) (by unfold execOp; go_simp) ?_
      exact hI.next (i := 2) rfl rfl (Below.refl _ _)
    · have e7 : b.tmps[7]?.getD undef = .int .i64 0 := (hf.old 7 (by kernel_rfl)).trans s7
      have h2 : L 2 = true := done_of hw 2 (by kernel_rfl)
      have eg : b.tmps[57]?.getD undef = .bool true := (hf.new 2 57 rfl h2 (by rw [hsz]; decide)).trans (hI.rd 2 rfl h2)
      refine ⟨wanted_of rfl (k := 2) (d := 57) rfl eg, ?_⟩
      clear eg
      refine wp_of_run (v := .int .i64 0) (w' := X) (by unfold execOp; go_simp) ?_
      exact hI.next (i := 3) rfl rfl (Below.refl _ _)
    · have h3 : L 3 = true := done_of hw 3 (by kernel_rfl)
      have e58 : b.tmps[58]?.getD undef = .int .i64 0 := (hf.new 3 58 rfl h3 (by rw [hsz]; decide)).trans (hI.rd 3 rfl h3)
      have h2 : L 2 = true := done_of hw 2 (by kernel_rfl)
      have eg : b.tmps[57]?.getD undef = .bool true := (hf.new 2 57 rfl h2 (by rw [hsz]; decide)).trans (hI.rd 2 rfl h2)
      refine ⟨wanted_of rfl (k := 2) (d := 57) rfl eg, ?_⟩
      clear eg
      refine wp_of_run (v := .bool true) (w' := X) (by unfold execOp; go_simp) ?_
      exact hI.next (i := 4) rfl rfl (Below.refl _ _)
    · have h2 : L 2 = true := done_of hw 2 (by kernel_rfl)
      have e57 : b.tmps[57]?.getD undef = .bool true := (hf.new 2 57 rfl h2 (by rw [hsz]; decide)).trans (hI.rd 2 rfl h2)
      have h4 : L 4 = true := done_of hw 4 (by kernel_rfl)
      have e59 : b.tmps[59]?.getD undef = .bool true := (hf.new 4 59 rfl h4 (by rw [hsz]; decide)).trans (hI.rd 4 rfl h4)
      refine ⟨wanted_plain rfl, ?_⟩
      refine wp_of_run (v := .bool true) (w' := X) (by unfold execOp; go_simp) ?_
      exact hI.next (i := 5) rfl rfl (Below.refl _ _)
    · have h5 : L 5 = true := done_of hw 5 (by kernel_rfl)
      have e60 : b.tmps[60]?.getD undef = .bool true := (hf.new 5 60 rfl h5 (by rw [hsz]; decide)).trans (hI.rd 5 rfl h5)
      refine ⟨wanted_plain rfl, ?_⟩
      refine wp_of_run (v := .bool true) (w' := X) (by unfold execOp; go_simp) ?_
      exact hI.next (i := 6) rfl rfl (Below.refl _ _)
    · have e10 : b.tmps[10]?.getD undef = .int .i64 0 := (hf.old 10 (by kernel_rfl)).trans s10
      have h6 : L 6 = true := done_of hw 6 (by kernel_rfl)
      have eg : b.tmps[61]?.getD undef = .bool true := (hf.new 6 61 rfl h6 (by rw [hsz]; decide)).trans (hI.rd 6 rfl h6)
      refine ⟨wanted_of rfl (k := 6) (d := 61) rfl eg, ?_⟩
      clear eg
      refine wp_of_run (v := .int .i64 0) (w' := X) (by unfold execOp; go_simp) ?_
      exact hI.next (i := 7) rfl rfl (Below.refl _ _)
    · have h7 : L 7 = true := done_of hw 7 (by kernel_rfl)
      have e62 : b.tmps[62]?.getD undef = .int .i64 0 := (hf.new 7 62 rfl h7 (by rw [hsz]; decide)).trans (hI.rd 7 rfl h7)
      have h6 : L 6 = true := done_of hw 6 (by kernel_rfl)
      have eg : b.tmps[61]?.getD undef = .bool true := (hf.new 6 61 rfl h6 (by rw [hsz]; decide)).trans (hI.rd 6 rfl h6)
      refine ⟨wanted_of rfl (k := 6) (d := 61) rfl eg, ?_⟩
      clear eg
      refine wp_of_run (v := .bool true) (w' := X) (by unfold execOp; go_simp) ?_
      exact hI.next (i := 8) rfl rfl (Below.refl _ _)
    · have h6 : L 6 = true := done_of hw 6 (by kernel_rfl)
      have e61 : b.tmps[61]?.getD undef = .bool true := (hf.new 6 61 rfl h6 (by rw [hsz]; decide)).trans (hI.rd 6 rfl h6)
      have h8 : L 8 = true := done_of hw 8 (by kernel_rfl)
      have e63 : b.tmps[63]?.getD undef = .bool true := (hf.new 8 63 rfl h8 (by rw [hsz]; decide)).trans (hI.rd 8 rfl h8)
      refine ⟨wanted_plain rfl, ?_⟩
      refine wp_of_run (v := .bool true) (w' := X) (by unfold execOp; go_simp) ?_
      exact hI.next (i := 9) rfl rfl (Below.refl _ _)
    · have h9 : L 9 = true := done_of hw 9 (by kernel_rfl)
      have e64 : b.tmps[64]?.getD undef = .bool true := (hf.new 9 64 rfl h9 (by rw [hsz]; decide)).trans (hI.rd 9 rfl h9)
      refine ⟨wanted_plain rfl, ?_⟩
      refine wp_of_run (v := .bool true) (w' := X) (by unfold execOp; go_simp) ?_
      exact hI.next (i := 10) rfl rfl (Below.refl _ _)
    · have e12 : b.tmps[12]?.getD undef = .int .i64 0 := (hf.old 12 (by kernel_rfl)).trans s12
      have h10 : L 10 = true := done_of hw 10 (by kernel_rfl)
      have eg : b.tmps[65]?.getD undef = .bool true := (hf.new 10 65 rfl h10 (by rw [hsz]; decide)).trans (hI.rd 10 rfl h10)
      refine ⟨wanted_of rfl (k := 10) (d := 65) rfl eg, ?_⟩
      clear eg
      refine wp_of_run (v := .int .i64 0) (w' := X) (by unfold execOp; go_simp) ?_
      exact hI.next (i := 11) rfl rfl (Below.refl _ _)
    · have h11 : L 11 = true := done_of hw 11 (by kernel_rfl)
      have e66 : b.tmps[66]?.getD undef = .int .i64 0 := (hf.new 11 66 rfl h11 (by rw [hsz]; decide)).trans (hI.rd 11 rfl h11)
      have h10 : L 10 = true := done_of hw 10 (by kernel_rfl)
      have eg : b.tmps[65]?.getD undef = .bool true := (hf.new 10 65 rfl h10 (by rw [hsz]; decide)).trans (hI.rd 10 rfl h10)
      refine ⟨wanted_of rfl (k := 10) (d := 65) rfl eg, ?_⟩
      clear eg
      refine wp_of_run (v := .bool true) (w' := X) (by unfold execOp; go_simp) ?_
      exact hI.next (i := 12) rfl rfl (Below.refl _ _)
    · have h10 : L 10 = true := done_of hw 10 (by kernel_rfl)
      have e65 : b.tmps[65]?.getD undef = .bool true := (hf.new 10 65 rfl h10 (by rw [hsz]; decide)).trans (hI.rd 10 rfl h10)
      have h12 : L 12 = true := done_of hw 12 (by kernel_rfl)
      have e67 : b.tmps[67]?.getD undef = .bool true := (hf.new 12 67 rfl h12 (by rw [hsz]; decide)).trans (hI.rd 12 rfl h12)
      refine ⟨wanted_plain rfl, ?_⟩
      refine wp_of_run (v := .bool true) (w' := X) (by unfold execOp; go_simp) ?_
      exact hI.next (i := 13) rfl rfl (Below.refl _ _)
    · have h13 : L 13 = true := done_of hw 13 (by kernel_rfl)
      have e68 : b.tmps[68]?.getD undef = .bool true := (hf.new 13 68 rfl h13 (by rw [hsz]; decide)).trans (hI.rd 13 rfl h13)
      refine ⟨wanted_plain rfl, ?_⟩
      refine wp_of_run (v := .bool true) (w' := X) (by unfold execOp; go_simp) ?_
      exact hI.next (i := 14) rfl rfl (Below.refl _ _)
    · have e14 : b.tmps[14]?.getD undef = .int .i64 0 := (hf.old 14 (by kernel_rfl)).trans s14
      have h14 : L 14 = true := done_of hw 14 (by kernel_rfl)
      have eg : b.tmps[69]?.getD undef = .bool true := (hf.new 14 69 rfl h14 (by rw [hsz]; decide)).trans (hI.rd 14 rfl h14)
      refine ⟨wanted_of rfl (k := 14) (d := 69) rfl eg, ?_⟩
      clear eg
      refine wp_of_run (v := .int .i64 0) (w' := X) (by unfold execOp; go_simp) ?_
      exact hI.next (i := 15) rfl rfl (Below.refl _ _)
    · have h15 : L 15 = true := done_of hw 15 (by kernel_rfl)
      have e70 : b.tmps[70]?.getD undef = .int .i64 0 := (hf.new 15 70 rfl h15 (by rw [hsz]; decide)).trans (hI.rd 15 rfl h15)
      have h14 : L 14 = true := done_of hw 14 (by kernel_rfl)
      have eg : b.tmps[69]?.getD undef = .bool true := (hf.new 14 69 rfl h14 (by rw [hsz]; decide)).trans (hI.rd 14 rfl h14)
      refine ⟨wanted_of rfl (k := 14) (d := 69) rfl eg, ?_⟩
      clear eg
      refine wp_of_run (v := .bool true) (w' := X) (by unfold execOp; go_simp) ?_
      exact hI.next (i := 16) rfl rfl (Below.refl _ _)
    · have h14 : L 14 = true := done_of hw 14 (by kernel_rfl)
      have e69 : b.tmps[69]?.getD undef = .bool true := (hf.new 14 69 rfl h14 (by rw [hsz]; decide)).trans (hI.rd 14 rfl h14)
      have h16 : L 16 = true := done_of hw 16 (by kernel_rfl)
      have e71 : b.tmps[71]?.getD undef = .bool true := (hf.new 16 71 rfl h16 (by rw [hsz]; decide)).trans (hI.rd 16 rfl h16)
      refine ⟨wanted_plain rfl, ?_⟩
      refine wp_of_run (v := .bool true) (w' := X) (by unfold execOp; go_simp) ?_
      exact hI.next (i := 17) rfl rfl (Below.refl _ _)
    · have h17 : L 17 = true := done_of hw 17 (by kernel_rfl)
      have e72 : b.tmps[72]?.getD undef = .bool true := (hf.new 17 72 rfl h17 (by rw [hsz]; decide)).trans (hI.rd 17 rfl h17)
      refine ⟨wanted_plain rfl, ?_⟩
      refine wp_of_run (v := .bool true) (w' := X) (by unfold execOp; go_simp) ?_
      exact hI.next (i := 18) rfl rfl (Below.refl _ _)
    · have e16 : b.tmps[16]?.getD undef = .int .i64 0 := (hf.old 16 (by kernel_rfl)).trans s16
      have h18 : L 18 = true := done_of hw 18 (by kernel_rfl)
      have eg : b.tmps[73]?.getD undef = .bool true := (hf.new 18 73 rfl h18 (by rw [hsz]; decide)).trans (hI.rd 18 rfl h18)
      refine ⟨wanted_of rfl (k := 18) (d := 73) rfl eg, ?_⟩
      clear eg
      refine wp_of_run (v := .int .i64 0) (w' := X) (by unfold execOp; go_simp) ?_
      exact hI.next (i := 19) rfl rfl (Below.refl _ _)
    · have h19 : L 19 = true := done_of hw 19 (by kernel_rfl)
      have e74 : b.tmps[74]?.getD undef = .int .i64 0 := (hf.new 19 74 rfl h19 (by rw [hsz]; decide)).trans (hI.rd 19 rfl h19)
      have h18 : L 18 = true := done_of hw 18 (by kernel_rfl)
      have eg : b.tmps[73]?.getD undef = .bool true := (hf.new 18 73 rfl h18 (by rw [hsz]; decide)).trans (hI.rd 18 rfl h18)
      refine ⟨wanted_of rfl (k := 18) (d := 73) rfl eg, ?_⟩
      clear eg
      refine wp_of_run (v := .bool true) (w' := X) (by unfold execOp; go_simp) ?_
      exact hI.next (i := 20) rfl rfl (Below.refl _ _)
    · have h18 : L 18 = true := done_of hw 18 (by kernel_rfl)
      have e73 : b.tmps[73]?.getD undef = .bool true := (hf.new 18 73 rfl h18 (by rw [hsz]; decide)).trans (hI.rd 18 rfl h18)
      have h20 : L 20 = true := done_of hw 20 (by kernel_rfl)
      have e75 : b.tmps[75]?.getD undef = .bool true := (hf.new 20 75 rfl h20 (by rw [hsz]; decide)).trans (hI.rd 20 rfl h20)
      refine ⟨wanted_plain rfl, ?_⟩
      refine wp_of_run (v := .bool true) (w' := X) (by unfold execOp; go_simp) ?_
      exact hI.next (i := 21) rfl rfl (Below.refl _ _)
    · have h21 : L 21 = true := done_of hw 21 (by kernel_rfl)
      have e76 : b.tmps[76]?.getD undef = .bool true := (hf.new 21 76 rfl h21 (by rw [hsz]; decide)).trans (hI.rd 21 rfl h21)
      refine ⟨wanted_plain rfl, ?_⟩
      refine wp_of_run (v := .bool true) (w' := X) (by unfold execOp; go_simp) ?_
      exact hI.next (i := 22) rfl rfl (Below.refl _ _)
    · have e3 : b.tmps[3]?.getD undef = .slice AT 4 cT := (hf.old 3 (by kernel_rfl)).trans s3
      have h22 : L 22 = true := done_of hw 22 (by kernel_rfl)
      have eg : b.tmps[77]?.getD undef = .bool true := (hf.new 22 77 rfl h22 (by rw [hsz]; decide)).trans (hI.rd 22 rfl h22)
      refine ⟨wanted_of rfl (k := 22) (d := 77) rfl eg, ?_⟩
      clear eg
      refine wp_of_run (v := .slice AT 4 cT) (w' := X) (by unfold execOp; go_simp) ?_
      exact hI.next (i := 23) rfl rfl (Below.refl _ _)
    · have h22 : L 22 = true := done_of hw 22 (by kernel_rfl)
      have eg : b.tmps[77]?.getD undef = .bool true := (hf.new 22 77 rfl h22 (by rw [hsz]; decide)).trans (hI.rd 22 rfl h22)
      refine ⟨wanted_of rfl (k := 22) (d := 77) rfl eg, ?_⟩
      clear eg
      refine wp_of_call (f := 43) (args := #[.int .i64 1180, .int .i64 1200]) (run_call_clo (.func 43) _ _ rfl (c := #[]) rfl enterA43 rfl) ?_
      refine (span_any 1180 1200 X).mono ?_
      rintro e wz ⟨rfl, hbz⟩
      exact ⟨_, rfl, hI.next (i := 24) rfl rfl hbz⟩
    · have h22 : L 22 = true := done_of hw 22 (by kernel_rfl)
      have eg : b.tmps[77]?.getD undef = .bool true := (hf.new 22 77 rfl h22 (by rw [hsz]; decide)).trans (hI.rd 22 rfl h22)
      refine ⟨wanted_of rfl (k := 22) (d := 77) rfl eg, ?_⟩
      clear eg
      refine wp_of_call (f := 43) (args := #[.int .i64 900, .int .i64 1000]) (run_call_clo (.func 43) _ _ rfl (c := #[]) rfl enterA43 rfl) ?_
      refine (span_any 900 1000 X).mono ?_
      rintro e wz ⟨rfl, hbz⟩
      exact ⟨_, rfl, hI.next (i := 25) rfl rfl hbz⟩
    · have h22 : L 22 = true := done_of hw 22 (by kernel_rfl)
      have eg : b.tmps[77]?.getD undef = .bool true := (hf.new 22 77 rfl h22 (by rw [hsz]; decide)).trans (hI.rd 22 rfl h22)
      refine ⟨wanted_of rfl (k := 22) (d := 77) rfl eg, ?_⟩
      clear eg
      refine wp_of_call (f := 43) (args := #[.int .i64 880, .int .i64 950]) (run_call_clo (.func 43) _ _ rfl (c := #[]) rfl enterA43 rfl) ?_
      refine (span_any 880 950 X).mono ?_
      rintro e wz ⟨rfl, hbz⟩
      exact ⟨_, rfl, hI.next (i := 26) rfl rfl hbz⟩
    · have h22 : L 22 = true := done_of hw 22 (by kernel_rfl)
      have eg : b.tmps[77]?.getD undef = .bool true := (hf.new 22 77 rfl h22 (by rw [hsz]; decide)).trans (hI.rd 22 rfl h22)
      refine ⟨wanted_of rfl (k := 22) (d := 77) rfl eg, ?_⟩
      clear eg
      refine wp_of_call (f := 43) (args := #[.int .i64 900, .int .i64 1000]) (run_call_clo (.func 43) _ _ rfl (c := #[]) rfl enterA43 rfl) ?_
      refine (span_any 900 1000 X).mono ?_
      rintro e wz ⟨rfl, hbz⟩
      exact ⟨_, rfl, hI.next (i := 27) rfl rfl hbz⟩
    · have h24 : L 24 = true := done_of hw 24 (by kernel_rfl)
      have e79 : b.tmps[79]?.getD undef = .agg #[.int .i64 1180, .int .i64 1200] := (hf.new 24 79 rfl h24 (by rw [hsz]; decide)).trans (hI.rd 24 rfl h24)
      have h25 : L 25 = true := done_of hw 25 (by kernel_rfl)
      have e80 : b.tmps[80]?.getD undef = .agg #[.int .i64 900, .int .i64 1000] := (hf.new 25 80 rfl h25 (by rw [hsz]; decide)).trans (hI.rd 25 rfl h25)
      have h26 : L 26 = true := done_of hw 26 (by kernel_rfl)
      have e81 : b.tmps[81]?.getD undef = .agg #[.int .i64 880, .int .i64 950] := (hf.new 26 81 rfl h26 (by rw [hsz]; decide)).trans (hI.rd 26 rfl h26)
      have h27 : L 27 = true := done_of hw 27 (by kernel_rfl)
      have e82 : b.tmps[82]?.getD undef = .agg #[.int .i64 900, .int .i64 1000] := (hf.new 27 82 rfl h27 (by rw [hsz]; decide)).trans (hI.rd 27 rfl h27)
      have h22 : L 22 = true := done_of hw 22 (by kernel_rfl)
      have eg : b.tmps[77]?.getD undef = .bool true := (hf.new 22 77 rfl h22 (by rw [hsz]; decide)).trans (hI.rd 22 rfl h22)
      refine ⟨wanted_of rfl (k := 22) (d := 77) rfl eg, ?_⟩
      clear eg
      refine wp_of_run (v := .slice (some ⟨X.heap.size, 0, none⟩) 4 4) (w' := X.alloc (.cells #[.int .i64 1180, .int .i64 1200, .int .i64 900, .int .i64 1000, .int .i64 880, .int .i64 950, .int .i64 900, .int .i64 1000] 40)) (by unfold execOp; go_simp) ?_
      exact hI.made (i := 28) rfl
    · have h23 : L 23 = true := done_of hw 23 (by kernel_rfl)
      have e78 : b.tmps[78]?.getD undef = .slice AT 4 cT := (hf.new 23 78 rfl h23 (by rw [hsz]; decide)).trans (hI.rd 23 rfl h23)
      have h28 : L 28 = true := done_of hw 28 (by kernel_rfl)
      obtain ⟨gq, hgq, hgx⟩ := hI.sl 28 4 #[.int .i64 1180, .int .i64 1200, .int .i64 900, .int .i64 1000, .int .i64 880, .int .i64 950, .int .i64 900, .int .i64 1000] 40 rfl h28
      have e83 : b.tmps[83]?.getD undef = .slice (some ⟨gq, 0, none⟩) 4 4 := (hf.new 28 83 rfl h28 (by rw [hsz]; decide)).trans hgq
      have h22 : L 22 = true := done_of hw 22 (by kernel_rfl)
      have eg : b.tmps[77]?.getD undef = .bool true := (hf.new 22 77 rfl h22 (by rw [hsz]; decide)).trans (hI.rd 22 rfl h22)
      refine ⟨wanted_of rfl (k := 22) (d := 77) rfl eg, ?_⟩
      clear eg
      refine wp_of_call (f := 25) (args := #[.slice AT 4 cT, .slice (some ⟨gq, 0, none⟩) 4 4]) (run_call_clo (.func 25) _ _ rfl (c := #[]) rfl enterA25 (by simp [eval_tmp e78, eval_tmp e83])) ?_
      refine (spans_lit (rdX HRT hI.bel) rfl (by simp) rfl hgx).mono ?_
      rintro e wz ⟨rfl, hbz⟩
      exact ⟨_, rfl, hI.next (i := 29) rfl rfl hbz⟩
    · have h22 : L 22 = true := done_of hw 22 (by kernel_rfl)
      have e77 : b.tmps[77]?.getD undef = .bool true := (hf.new 22 77 rfl h22 (by rw [hsz]; decide)).trans (hI.rd 22 rfl h22)
      have h29 : L 29 = true := done_of hw 29 (by kernel_rfl)
      have e84 : b.tmps[84]?.getD undef = .bool true := (hf.new 29 84 rfl h29 (by rw [hsz]; decide)).trans (hI.rd 29 rfl h29)
      refine ⟨wanted_plain rfl, ?_⟩
      refine wp_of_run (v := .bool true) (w' := X) (by unfold execOp; go_simp) ?_
      exact hI.next (i := 30) rfl rfl (Below.refl _ _)
    · have h30 : L 30 = true := done_of hw 30 (by kernel_rfl)
      have e85 : b.tmps[85]?.getD undef = .bool true := (hf.new 30 85 rfl h30 (by rw [hsz]; decide)).trans (hI.rd 30 rfl h30)
      refine ⟨wanted_plain rfl, ?_⟩
      refine wp_of_run (v := .bool true) (w' := X) (by unfold execOp; go_simp) ?_
      exact hI.next (i := 31) rfl rfl (Below.refl _ _)
    · have e5 : b.tmps[5]?.getD undef = .pointer (some ⟨ga, 0, none⟩) := (hf.old 5 (by kernel_rfl)).trans s5
      have h31 : L 31 = true := done_of hw 31 (by kernel_rfl)
      have eg : b.tmps[86]?.getD undef = .bool true := (hf.new 31 86 rfl h31 (by rw [hsz]; decide)).trans (hI.rd 31 rfl h31)
      refine ⟨wanted_of rfl (k := 31) (d := 86) rfl eg, ?_⟩
      clear eg
      have x0 := cellOf (rowX HBA hI.bel) 0 (v := .int .i64 180) rfl
      have x1 := cellOf (rowX HBA hI.bel) 1 (v := .int .i64 300) rfl
      refine wp_of_run (v := .agg #[.int .i64 180, .int .i64 300]) (w' := X) (by unfold execOp; go_simp) ?_
      exact hI.next (i := 32) rfl rfl (Below.refl _ _)
    · have h31 : L 31 = true := done_of hw 31 (by kernel_rfl)
      have eg : b.tmps[86]?.getD undef = .bool true := (hf.new 31 86 rfl h31 (by rw [hsz]; decide)).trans (hI.rd 31 rfl h31)
      refine ⟨wanted_of rfl (k := 31) (d := 86) rfl eg, ?_⟩
      clear eg
      refine wp_of_call (f := 43) (args := #[.int .i64 180, .int .i64 300]) (run_call_clo (.func 43) _ _ rfl (c := #[]) rfl enterA43 rfl) ?_
      refine (span_any 180 300 X).mono ?_
      rintro e wz ⟨rfl, hbz⟩
      exact ⟨_, rfl, hI.next (i := 33) rfl rfl hbz⟩
    · have h32 : L 32 = true := done_of hw 32 (by kernel_rfl)
      have e87 : b.tmps[87]?.getD undef = .agg #[.int .i64 180, .int .i64 300] := (hf.new 32 87 rfl h32 (by rw [hsz]; decide)).trans (hI.rd 32 rfl h32)
      have h33 : L 33 = true := done_of hw 33 (by kernel_rfl)
      have e88 : b.tmps[88]?.getD undef = .agg #[.int .i64 180, .int .i64 300] := (hf.new 33 88 rfl h33 (by rw [hsz]; decide)).trans (hI.rd 33 rfl h33)
      have h31 : L 31 = true := done_of hw 31 (by kernel_rfl)
      have eg : b.tmps[86]?.getD undef = .bool true := (hf.new 31 86 rfl h31 (by rw [hsz]; decide)).trans (hI.rd 31 rfl h31)
      refine ⟨wanted_of rfl (k := 31) (d := 86) rfl eg, ?_⟩
      clear eg
      refine wp_of_run (v := .bool true) (w' := X) (by unfold execOp; go_simp) ?_
      exact hI.next (i := 34) rfl rfl (Below.refl _ _)
    · have h31 : L 31 = true := done_of hw 31 (by kernel_rfl)
      have e86 : b.tmps[86]?.getD undef = .bool true := (hf.new 31 86 rfl h31 (by rw [hsz]; decide)).trans (hI.rd 31 rfl h31)
      have h34 : L 34 = true := done_of hw 34 (by kernel_rfl)
      have e89 : b.tmps[89]?.getD undef = .bool true := (hf.new 34 89 rfl h34 (by rw [hsz]; decide)).trans (hI.rd 34 rfl h34)
      refine ⟨wanted_plain rfl, ?_⟩
      refine wp_of_run (v := .bool true) (w' := X) (by unfold execOp; go_simp) ?_
      exact hI.next (i := 35) rfl rfl (Below.refl _ _)
    · have h35 : L 35 = true := done_of hw 35 (by kernel_rfl)
      have e90 : b.tmps[90]?.getD undef = .bool true := (hf.new 35 90 rfl h35 (by rw [hsz]; decide)).trans (hI.rd 35 rfl h35)
      refine ⟨wanted_plain rfl, ?_⟩
      refine wp_of_run (v := .bool true) (w' := X) (by unfold execOp; go_simp) ?_
      exact hI.next (i := 36) rfl rfl (Below.refl _ _)
    · have e6 : b.tmps[6]?.getD undef = .int .i64 2 := (hf.old 6 (by kernel_rfl)).trans s6
      have h36 : L 36 = true := done_of hw 36 (by kernel_rfl)
      have eg : b.tmps[91]?.getD undef = .bool true := (hf.new 36 91 rfl h36 (by rw [hsz]; decide)).trans (hI.rd 36 rfl h36)
      refine ⟨wanted_of rfl (k := 36) (d := 91) rfl eg, ?_⟩
      clear eg
      refine wp_of_run (v := .int .i64 2) (w' := X) (by unfold execOp; go_simp) ?_
      exact hI.next (i := 37) rfl rfl (Below.refl _ _)
    · have h37 : L 37 = true := done_of hw 37 (by kernel_rfl)
      have e92 : b.tmps[92]?.getD undef = .int .i64 2 := (hf.new 37 92 rfl h37 (by rw [hsz]; decide)).trans (hI.rd 37 rfl h37)
      have h36 : L 36 = true := done_of hw 36 (by kernel_rfl)
      have eg : b.tmps[91]?.getD undef = .bool true := (hf.new 36 91 rfl h36 (by rw [hsz]; decide)).trans (hI.rd 36 rfl h36)
      refine ⟨wanted_of rfl (k := 36) (d := 91) rfl eg, ?_⟩
      clear eg
      refine wp_of_run (v := .bool true) (w' := X) (by unfold execOp; go_simp) ?_
      exact hI.next (i := 38) rfl rfl (Below.refl _ _)
    · have h36 : L 36 = true := done_of hw 36 (by kernel_rfl)
      have e91 : b.tmps[91]?.getD undef = .bool true := (hf.new 36 91 rfl h36 (by rw [hsz]; decide)).trans (hI.rd 36 rfl h36)
      have h38 : L 38 = true := done_of hw 38 (by kernel_rfl)
      have e93 : b.tmps[93]?.getD undef = .bool true := (hf.new 38 93 rfl h38 (by rw [hsz]; decide)).trans (hI.rd 38 rfl h38)
      refine ⟨wanted_plain rfl, ?_⟩
      refine wp_of_run (v := .bool true) (w' := X) (by unfold execOp; go_simp) ?_
      exact hI.next (i := 39) rfl rfl (Below.refl _ _)
    · have h39 : L 39 = true := done_of hw 39 (by kernel_rfl)
      have e94 : b.tmps[94]?.getD undef = .bool true := (hf.new 39 94 rfl h39 (by rw [hsz]; decide)).trans (hI.rd 39 rfl h39)
      refine ⟨wanted_plain rfl, ?_⟩
      refine wp_of_run (v := .bool true) (w' := X) (by unfold execOp; go_simp) ?_
      exact hI.next (i := 40) rfl rfl (Below.refl _ _)
    · have e8 : b.tmps[8]?.getD undef = .pointer (some ⟨gb, 0, none⟩) := (hf.old 8 (by kernel_rfl)).trans s8
      have h40 : L 40 = true := done_of hw 40 (by kernel_rfl)
      have eg : b.tmps[95]?.getD undef = .bool true := (hf.new 40 95 rfl h40 (by rw [hsz]; decide)).trans (hI.rd 40 rfl h40)
      refine ⟨wanted_of rfl (k := 40) (d := 95) rfl eg, ?_⟩
      clear eg
      have x0 := cellOf (rowX HBB hI.bel) 0 (v := .int .i64 0) rfl
      have x1 := cellOf (rowX HBB hI.bel) 1 (v := .int .i64 0) rfl
      refine wp_of_run (v := .agg #[.int .i64 0, .int .i64 0]) (w' := X) (by unfold execOp; go_simp) ?_
      exact hI.next (i := 41) rfl rfl (Below.refl _ _)
    · have h40 : L 40 = true := done_of hw 40 (by kernel_rfl)
      have eg : b.tmps[95]?.getD undef = .bool true := (hf.new 40 95 rfl h40 (by rw [hsz]; decide)).trans (hI.rd 40 rfl h40)
      refine ⟨wanted_of rfl (k := 40) (d := 95) rfl eg, ?_⟩
      clear eg
      refine wp_of_call (f := 43) (args := #[.int .i64 0, .int .i64 0]) (run_call_clo (.func 43) _ _ rfl (c := #[]) rfl enterA43 rfl) ?_
      refine (span_any 0 0 X).mono ?_
      rintro e wz ⟨rfl, hbz⟩
      exact ⟨_, rfl, hI.next (i := 42) rfl rfl hbz⟩
    · have h41 : L 41 = true := done_of hw 41 (by kernel_rfl)
      have e96 : b.tmps[96]?.getD undef = .agg #[.int .i64 0, .int .i64 0] := (hf.new 41 96 rfl h41 (by rw [hsz]; decide)).trans (hI.rd 41 rfl h41)
      have h42 : L 42 = true := done_of hw 42 (by kernel_rfl)
      have e97 : b.tmps[97]?.getD undef = .agg #[.int .i64 0, .int .i64 0] := (hf.new 42 97 rfl h42 (by rw [hsz]; decide)).trans (hI.rd 42 rfl h42)
      have h40 : L 40 = true := done_of hw 40 (by kernel_rfl)
      have eg : b.tmps[95]?.getD undef = .bool true := (hf.new 40 95 rfl h40 (by rw [hsz]; decide)).trans (hI.rd 40 rfl h40)
      refine ⟨wanted_of rfl (k := 40) (d := 95) rfl eg, ?_⟩
      clear eg
      refine wp_of_run (v := .bool true) (w' := X) (by unfold execOp; go_simp) ?_
      exact hI.next (i := 43) rfl rfl (Below.refl _ _)
    · have h40 : L 40 = true := done_of hw 40 (by kernel_rfl)
      have e95 : b.tmps[95]?.getD undef = .bool true := (hf.new 40 95 rfl h40 (by rw [hsz]; decide)).trans (hI.rd 40 rfl h40)
      have h43 : L 43 = true := done_of hw 43 (by kernel_rfl)
      have e98 : b.tmps[98]?.getD undef = .bool true := (hf.new 43 98 rfl h43 (by rw [hsz]; decide)).trans (hI.rd 43 rfl h43)
      refine ⟨wanted_plain rfl, ?_⟩
      refine wp_of_run (v := .bool true) (w' := X) (by unfold execOp; go_simp) ?_
      exact hI.next (i := 44) rfl rfl (Below.refl _ _)
    · have h44 : L 44 = true := done_of hw 44 (by kernel_rfl)
      have e99 : b.tmps[99]?.getD undef = .bool true := (hf.new 44 99 rfl h44 (by rw [hsz]; decide)).trans (hI.rd 44 rfl h44)
      refine ⟨wanted_plain rfl, ?_⟩
      refine wp_of_run (v := .bool true) (w' := X) (by unfold execOp; go_simp) ?_
      exact hI.next (i := 45) rfl rfl (Below.refl _ _)
    · have e9 : b.tmps[9]?.getD undef = .int .i64 3 := (hf.old 9 (by kernel_rfl)).trans s9
      have h45 : L 45 = true := done_of hw 45 (by kernel_rfl)
      have eg : b.tmps[100]?.getD undef = .bool true := (hf.new 45 100 rfl h45 (by rw [hsz]; decide)).trans (hI.rd 45 rfl h45)
      refine ⟨wanted_of rfl (k := 45) (d := 100) rfl eg, ?_⟩
      clear eg
      refine wp_of_run (v := .int .i64 3) (w' := X) (by unfold execOp; go_simp) ?_
      exact hI.next (i := 46) rfl rfl (Below.refl _ _)
    · have h46 : L 46 = true := done_of hw 46 (by kernel_rfl)
      have e101 : b.tmps[101]?.getD undef = .int .i64 3 := (hf.new 46 101 rfl h46 (by rw [hsz]; decide)).trans (hI.rd 46 rfl h46)
      have h45 : L 45 = true := done_of hw 45 (by kernel_rfl)
      have eg : b.tmps[100]?.getD undef = .bool true := (hf.new 45 100 rfl h45 (by rw [hsz]; decide)).trans (hI.rd 45 rfl h45)
      refine ⟨wanted_of rfl (k := 45) (d := 100) rfl eg, ?_⟩
      clear eg
      refine wp_of_run (v := .bool true) (w' := X) (by unfold execOp; go_simp) ?_
      exact hI.next (i := 47) rfl rfl (Below.refl _ _)
    · have h45 : L 45 = true := done_of hw 45 (by kernel_rfl)
      have e100 : b.tmps[100]?.getD undef = .bool true := (hf.new 45 100 rfl h45 (by rw [hsz]; decide)).trans (hI.rd 45 rfl h45)
      have h47 : L 47 = true := done_of hw 47 (by kernel_rfl)
      have e102 : b.tmps[102]?.getD undef = .bool true := (hf.new 47 102 rfl h47 (by rw [hsz]; decide)).trans (hI.rd 47 rfl h47)
      refine ⟨wanted_plain rfl, ?_⟩
      refine wp_of_run (v := .bool true) (w' := X) (by unfold execOp; go_simp) ?_
      exact hI.next (i := 48) rfl rfl (Below.refl _ _)
    · have h48 : L 48 = true := done_of hw 48 (by kernel_rfl)
      have e103 : b.tmps[103]?.getD undef = .bool true := (hf.new 48 103 rfl h48 (by rw [hsz]; decide)).trans (hI.rd 48 rfl h48)
      refine ⟨wanted_plain rfl, ?_⟩
      refine wp_of_run (v := .bool true) (w' := X) (by unfold execOp; go_simp) ?_
      exact hI.next (i := 49) rfl rfl (Below.refl _ _)
    · have e11 : b.tmps[11]?.getD undef = .slice AH 3 cH := (hf.old 11 (by kernel_rfl)).trans s11
      have h49 : L 49 = true := done_of hw 49 (by kernel_rfl)
      have eg : b.tmps[104]?.getD undef = .bool true := (hf.new 49 104 rfl h49 (by rw [hsz]; decide)).trans (hI.rd 49 rfl h49)
      refine ⟨wanted_of rfl (k := 49) (d := 104) rfl eg, ?_⟩
      clear eg
      refine wp_of_run (v := .slice AH 3 cH) (w' := X) (by unfold execOp; go_simp) ?_
      exact hI.next (i := 50) rfl rfl (Below.refl _ _)
    · have h49 : L 49 = true := done_of hw 49 (by kernel_rfl)
      have eg : b.tmps[104]?.getD undef = .bool true := (hf.new 49 104 rfl h49 (by rw [hsz]; decide)).trans (hI.rd 49 rfl h49)
      refine ⟨wanted_of rfl (k := 49) (d := 104) rfl eg, ?_⟩
      clear eg
      refine wp_of_run (v := .slice (some ⟨X.heap.size, 0, none⟩) 3 3) (w' := X.alloc (.cells #[.int .i64 0, .int .i64 1, .int .i64 3] 3)) (by unfold execOp; go_simp) ?_
      exact hI.made (i := 51) rfl
    · have h50 : L 50 = true := done_of hw 50 (by kernel_rfl)
      have e105 : b.tmps[105]?.getD undef = .slice AH 3 cH := (hf.new 50 105 rfl h50 (by rw [hsz]; decide)).trans (hI.rd 50 rfl h50)
      have h51 : L 51 = true := done_of hw 51 (by kernel_rfl)
      obtain ⟨gq, hgq, hgx⟩ := hI.sl 51 3 #[.int .i64 0, .int .i64 1, .int .i64 3] 3 rfl h51
      have e106 : b.tmps[106]?.getD undef = .slice (some ⟨gq, 0, none⟩) 3 3 := (hf.new 51 106 rfl h51 (by rw [hsz]; decide)).trans hgq
      have h49 : L 49 = true := done_of hw 49 (by kernel_rfl)
      have eg : b.tmps[104]?.getD undef = .bool true := (hf.new 49 104 rfl h49 (by rw [hsz]; decide)).trans (hI.rd 49 rfl h49)
      refine ⟨wanted_of rfl (k := 49) (d := 104) rfl eg, ?_⟩
      clear eg
      refine wp_of_call (f := 30) (args := #[.slice AH 3 cH, .slice (some ⟨gq, 0, none⟩) 3 3]) (run_call_clo (.func 30) _ _ rfl (c := #[]) rfl enterA30 (by simp [eval_tmp e105, eval_tmp e106])) ?_
      refine (ints_lit (rdX HRH hI.bel) rfl (by simp) rfl hgx).mono ?_
      rintro e wz ⟨rfl, hbz⟩
      exact ⟨_, rfl, hI.next (i := 52) rfl rfl hbz⟩
    · have h49 : L 49 = true := done_of hw 49 (by kernel_rfl)
      have e104 : b.tmps[104]?.getD undef = .bool true := (hf.new 49 104 rfl h49 (by rw [hsz]; decide)).trans (hI.rd 49 rfl h49)
      have h52 : L 52 = true := done_of hw 52 (by kernel_rfl)
      have e107 : b.tmps[107]?.getD undef = .bool true := (hf.new 52 107 rfl h52 (by rw [hsz]; decide)).trans (hI.rd 52 rfl h52)
      refine ⟨wanted_plain rfl, ?_⟩
      refine wp_of_run (v := .bool true) (w' := X) (by unfold execOp; go_simp) ?_
      exact hI.next (i := 53) rfl rfl (Below.refl _ _)
    · have h53 : L 53 = true := done_of hw 53 (by kernel_rfl)
      have e108 : b.tmps[108]?.getD undef = .bool true := (hf.new 53 108 rfl h53 (by rw [hsz]; decide)).trans (hI.rd 53 rfl h53)
      refine ⟨wanted_plain rfl, ?_⟩
      refine wp_of_run (v := .bool true) (w' := X) (by unfold execOp; go_simp) ?_
      exact hI.next (i := 54) rfl rfl (Below.refl _ _)
    · have e13 : b.tmps[13]?.getD undef = .slice AW 0 cW := (hf.old 13 (by kernel_rfl)).trans s13
      have h54 : L 54 = true := done_of hw 54 (by kernel_rfl)
      have eg : b.tmps[109]?.getD undef = .bool true := (hf.new 54 109 rfl h54 (by rw [hsz]; decide)).trans (hI.rd 54 rfl h54)
      refine ⟨wanted_of rfl (k := 54) (d := 109) rfl eg, ?_⟩
      clear eg
      refine wp_of_run (v := .slice AW 0 cW) (w' := X) (by unfold execOp; go_simp) ?_
      exact hI.next (i := 55) rfl rfl (Below.refl _ _)
    · have h55 : L 55 = true := done_of hw 55 (by kernel_rfl)
      have e110 : b.tmps[110]?.getD undef = .slice AW 0 cW := (hf.new 55 110 rfl h55 (by rw [hsz]; decide)).trans (hI.rd 55 rfl h55)
      have h54 : L 54 = true := done_of hw 54 (by kernel_rfl)
      have eg : b.tmps[109]?.getD undef = .bool true := (hf.new 54 109 rfl h54 (by rw [hsz]; decide)).trans (hI.rd 54 rfl h54)
      refine ⟨wanted_of rfl (k := 54) (d := 109) rfl eg, ?_⟩
      clear eg
      refine wp_of_run (v := .int .i64 0) (w' := X) (by unfold execOp; go_simp) ?_
      exact hI.next (i := 56) rfl rfl (Below.refl _ _)
    · have h56 : L 56 = true := done_of hw 56 (by kernel_rfl)
      have e111 : b.tmps[111]?.getD undef = .int .i64 0 := (hf.new 56 111 rfl h56 (by rw [hsz]; decide)).trans (hI.rd 56 rfl h56)
      have h54 : L 54 = true := done_of hw 54 (by kernel_rfl)
      have eg : b.tmps[109]?.getD undef = .bool true := (hf.new 54 109 rfl h54 (by rw [hsz]; decide)).trans (hI.rd 54 rfl h54)
      refine ⟨wanted_of rfl (k := 54) (d := 109) rfl eg, ?_⟩
      clear eg
      refine wp_of_run (v := .bool true) (w' := X) (by unfold execOp; go_simp) ?_
      exact hI.next (i := 57) rfl rfl (Below.refl _ _)
    · have h54 : L 54 = true := done_of hw 54 (by kernel_rfl)
      have e109 : b.tmps[109]?.getD undef = .bool true := (hf.new 54 109 rfl h54 (by rw [hsz]; decide)).trans (hI.rd 54 rfl h54)
      have h57 : L 57 = true := done_of hw 57 (by kernel_rfl)
      have e112 : b.tmps[112]?.getD undef = .bool true := (hf.new 57 112 rfl h57 (by rw [hsz]; decide)).trans (hI.rd 57 rfl h57)
      refine ⟨wanted_plain rfl, ?_⟩
      refine wp_of_run (v := .bool true) (w' := X) (by unfold execOp; go_simp) ?_
      exact hI.next (i := 58) rfl rfl (Below.refl _ _)
    · have h58 : L 58 = true := done_of hw 58 (by kernel_rfl)
      have e113 : b.tmps[113]?.getD undef = .bool true := (hf.new 58 113 rfl h58 (by rw [hsz]; decide)).trans (hI.rd 58 rfl h58)
      refine ⟨wanted_plain rfl, ?_⟩
      refine wp_of_run (v := .bool true) (w' := X) (by unfold execOp; go_simp) ?_
      exact hI.next (i := 59) rfl rfl (Below.refl _ _)
    · have e15 : b.tmps[15]?.getD undef = .int .i64 0 := (hf.old 15 (by kernel_rfl)).trans s15
      have h59 : L 59 = true := done_of hw 59 (by kernel_rfl)
      have eg : b.tmps[114]?.getD undef = .bool true := (hf.new 59 114 rfl h59 (by rw [hsz]; decide)).trans (hI.rd 59 rfl h59)
      refine ⟨wanted_of rfl (k := 59) (d := 114) rfl eg, ?_⟩
      clear eg
      refine wp_of_run (v := .int .i64 0) (w' := X) (by unfold execOp; go_simp) ?_
      exact hI.next (i := 60) rfl rfl (Below.refl _ _)
    · have h60 : L 60 = true := done_of hw 60 (by kernel_rfl)
      have e115 : b.tmps[115]?.getD undef = .int .i64 0 := (hf.new 60 115 rfl h60 (by rw [hsz]; decide)).trans (hI.rd 60 rfl h60)
      have h59 : L 59 = true := done_of hw 59 (by kernel_rfl)
      have eg : b.tmps[114]?.getD undef = .bool true := (hf.new 59 114 rfl h59 (by rw [hsz]; decide)).trans (hI.rd 59 rfl h59)
      refine ⟨wanted_of rfl (k := 59) (d := 114) rfl eg, ?_⟩
      clear eg
      refine wp_of_run (v := .bool true) (w' := X) (by unfold execOp; go_simp) ?_
      exact hI.next (i := 61) rfl rfl (Below.refl _ _)
    · have h59 : L 59 = true := done_of hw 59 (by kernel_rfl)
      have e114 : b.tmps[114]?.getD undef = .bool true := (hf.new 59 114 rfl h59 (by rw [hsz]; decide)).trans (hI.rd 59 rfl h59)
      have h61 : L 61 = true := done_of hw 61 (by kernel_rfl)
      have e116 : b.tmps[116]?.getD undef = .bool true := (hf.new 61 116 rfl h61 (by rw [hsz]; decide)).trans (hI.rd 61 rfl h61)
      refine ⟨wanted_plain rfl, ?_⟩
      refine wp_of_run (v := .bool true) (w' := X) (by unfold execOp; go_simp) ?_
      exact hI.next (i := 62) rfl rfl (Below.refl _ _)
    · have h62 : L 62 = true := done_of hw 62 (by kernel_rfl)
      have e117 : b.tmps[117]?.getD undef = .bool true := (hf.new 62 117 rfl h62 (by rw [hsz]; decide)).trans (hI.rd 62 rfl h62)
      refine ⟨wanted_plain rfl, ?_⟩
      refine wp_of_run (v := .bool true) (w' := X) (by unfold execOp; go_simp) ?_
      exact hI.next (i := 63) rfl rfl (Below.refl _ _)
    · have h63 : L 63 = true := done_of hw 63 (by kernel_rfl)
      have eg : b.tmps[118]?.getD undef = .bool true := (hf.new 63 118 rfl h63 (by rw [hsz]; decide)).trans (hI.rd 63 rfl h63)
      refine ⟨wanted_of rfl (k := 63) (d := 118) rfl eg, ?_⟩
      clear eg
      refine wp_of_call (f := 20) (args := #[]) (run_call_clo (.func 20) _ _ rfl (c := #[]) rfl enterA20 rfl) ?_
      refine (awake_any (HA.next hI.bel).gl).mono ?_
      rintro e wz ⟨rfl, hbz⟩
      exact ⟨_, rfl, hI.next (i := 64) rfl rfl hbz⟩
    · have h63 : L 63 = true := done_of hw 63 (by kernel_rfl)
      have e118 : b.tmps[118]?.getD undef = .bool true := (hf.new 63 118 rfl h63 (by rw [hsz]; decide)).trans (hI.rd 63 rfl h63)
      have h64 : L 64 = true := done_of hw 64 (by kernel_rfl)
      have e119 : b.tmps[119]?.getD undef = .bool true := (hf.new 64 119 rfl h64 (by rw [hsz]; decide)).trans (hI.rd 64 rfl h64)
      refine ⟨wanted_plain rfl, ?_⟩
      refine wp_of_run (v := .bool true) (w' := X) (by unfold execOp; go_simp) ?_
      exact hI.next (i := 65) rfl rfl (Below.refl _ _)
    · have h65 : L 65 = true := done_of hw 65 (by kernel_rfl)
      have e120 : b.tmps[120]?.getD undef = .bool true := (hf.new 65 120 rfl h65 (by rw [hsz]; decide)).trans (hI.rd 65 rfl h65)
      refine ⟨wanted_plain rfl, ?_⟩
      refine wp_of_run (v := .bool true) (w' := X) (by unfold execOp; go_simp) ?_
      exact hI.next (i := 66) rfl rfl (Below.refl _ _)
  · intro vs X hI
    refine fill_end (K := fun a' => Exit.then _ _ .normal a' X) (by kernel_rfl) 66 0 rfl (by rw [hsz]; decide) fun a' h1 h2 => ?_
    have h3 := h1.trans (hI.rd 66 rfl rfl)
    have hb := hI.bel
    clear hI h1
    simp only [Exit.then]
    go_wp2
    exact bodyPost_ret (v := .bool true) (by simp [results, Tryz.results7]; exact h3) (h2.trans hdf) ⟨rfl, HA.below.trans (hb.mono HA.below.size)⟩
end Go.Proofs.YtajdgdelhlfniaaGreatDoor
