/- Walks of the layer sheet: take: one element more; a line of a point. Walks of the layer sheet: take of a line of a point. -/
import Derived.Test.YtajdgdelhlfniaaGreatDoorGTk0
import Derived.WalkKit
import Derived.Deep.Quiet
set_option linter.unusedSimpArgs false
set_option linter.unusedVariables false
namespace Go.Proofs.YtajdgdelhlfniaaGreatDoor
open Go.RowKit

section
variable {α : Type} {At : World → Addr → α → Prop} {sz : Nat} [E : Enc α At sz]
theorem append_own2 {P : Program} {base : Nat} {t ty e : TypeId} {bytes : Nat} (ht : P.underlying t = some (.slice e)) (hinfo : (P.info? e).map (fun i => (i.size, i.bytes, i.zero.map (·.cells.size))) = some (sz, bytes, some sz)) (hsz : 0 < sz) (hb1 : bytes ≤ 1000) (h1 : ∀ x, ∀ u ∈ E.enc x, u.oneCell' = true)
    {w : World} {v : Value} {xs : List α} (h : Own base e w v xs) (x : α) (hn : xs.length ≤ 100000) (hbase : base ≤ w.heap.size) {cs : Array Value} (hcs : cs = (E.enc x).toArray) :
    ∃ A c w', (Builtin.append_ #[t, t] ty #[v, .slice (some ⟨w.heap.size, 0, none⟩) 1 1]).run P (w.alloc (.cells cs e)) = .ok (.slice A (xs.length + 1) c) w' ∧ Own base e w' (.slice A (xs.length + 1) c) (xs ++ [x]) ∧
      (w.alloc (.cells cs e)).grownBy w' v.ownBlock := by
  subst hcs
  obtain ⟨i, hi, hi2⟩ := Option.map_eq_some_iff.1 hinfo
  simp only [Prod.mk.injEq] at hi2
  obtain ⟨hsize, hby, hz0⟩ := hi2
  obtain ⟨z, hz, hzs⟩ := Option.map_eq_some_iff.1 hz0
  have hown : Own base e (w.alloc (.cells (E.enc x).toArray e)) v xs := h.alloc _
  have hl := E.len x
  have hlen : (xs.length + 1) * bytes ≤ 100001 * 1000 := Nat.mul_le_mul (by omega) hb1
  obtain ⟨v', w', hrun, h2, h3, _, _⟩ := run_append_own_at (P := P) (w.alloc (.cells (E.enc x).toArray e)) base t ty e i z sz bytes ht hi hz hsize hby hzs hsz v xs.length (xs.flatMap E.enc) hown
    ⟨w.heap.size, 0, none⟩ 1 1 (E.enc x) (by rw [hl]; omega)
    (fun j u hu => by
      have hadd : (⟨w.heap.size, 0, none⟩ : Addr).add j = ⟨w.heap.size, j, none⟩ := by unfold Addr.add; split <;> simp_all
      rw [hadd]
      exact (cell_of_row _ _ j _ _ _ (heap_alloc_new w _)).trans (by simpa using hu))
    (h1 x) (by unfold maxLen; omega) (by omega) (by simp; omega)
  have h4 : Own base e w' v' (xs ++ [x]) := Own.of_append (n := xs.length + 1) (by simp) (by simpa using h2)
  obtain ⟨A, c, rfl, hc1, hc2⟩ := h4.form
  rw [List.length_append, List.length_singleton] at hrun h4
  exact ⟨A, c, w', hrun, h4, h3⟩
theorem Own.ownBlock {base : Nat} {e : TypeId} {w : World} {v : Value} {xs : List α} (h : Own base e w v xs) {b : Nat} (hb : v.ownBlock = some b) : base ≤ b ∧ b < w.heap.size ∧ ∃ c f, w.heap[b]? = some (.cells c e f) := by
  rcases h with ⟨_, ⟨rfl, _⟩ | ⟨g, cap, cur, rfl, hbb, hg, _⟩⟩
  · cases hb
  · simp only [Value.ownBlock, Option.some.injEq] at hb
    subst hb
    exact ⟨hbb, lt_of_block hg, _, _, hg⟩
/-- what lies beside the row of an append -/
theorem Own.beside {base : Nat} {e : TypeId} {w w' : World} {v : Value} {xs : List α} (h : Own base e w v xs) {row : Option Nat} (hg : w.grownBy w' row) (hne : v.ownBlock ≠ row ∨ row = none) : Own base e w' v xs := by
  rcases id h with ⟨hl, h0 | ⟨g, cap, cur, rfl, hbb, hh, r⟩⟩
  · exact ⟨hl, .inl h0⟩
  · refine ⟨hl, .inr ⟨g, cap, cur, rfl, hbb, (hg.block g (lt_of_block hh) ?_).trans hh, r⟩⟩
    rcases hne with h | h
    · exact h
    · rw [h]; exact fun h => by cases h
end
theorem append_str2 {base : Nat} {w : World} {v : Value} {xs : List ByteArray} (h : Own base 9 w v xs) (x : ByteArray) (hn : xs.length ≤ 100000) (hbase : base ≤ w.heap.size) :
    ∃ A c w', (Builtin.append_ #[22, 22] 22 #[v, .slice (some ⟨w.heap.size, 0, none⟩) 1 1]).run Tryz.prog (w.alloc (.cells #[.string x] 9)) = .ok (.slice A (xs.length + 1) c) w' ∧ Own base 9 w' (.slice A (xs.length + 1) c) (xs ++ [x]) ∧ (w.alloc (.cells #[.string x] 9)).grownBy w' v.ownBlock :=
  append_own2 (bytes := 16) (by kernel_rfl) (by kernel_rfl) (by omega) (by omega) (by simp [Enc.enc]; intros; rfl) h x hn hbase rfl
theorem append_note2 {base : Nat} {w : World} {v : Value} {xs : List NoteR} (h : Own base 69 w v xs) (x : NoteR) (hn : xs.length ≤ 100000) (hbase : base ≤ w.heap.size) :
    ∃ A c w', (Builtin.append_ #[23, 23] 23 #[v, .slice (some ⟨w.heap.size, 0, none⟩) 1 1]).run Tryz.prog (w.alloc (.cells #[.int .i64 x.kind, .int .i64 x.a, .int .i64 x.b, .int .i64 x.lo, .int .i64 x.hi] 69)) = .ok (.slice A (xs.length + 1) c) w' ∧ Own base 69 w' (.slice A (xs.length + 1) c) (xs ++ [x]) ∧
      (w.alloc (.cells #[.int .i64 x.kind, .int .i64 x.a, .int .i64 x.b, .int .i64 x.lo, .int .i64 x.hi] 69)).grownBy w' v.ownBlock :=
  append_own2 (bytes := 40) (by kernel_rfl) (by kernel_rfl) (by omega) (by omega) (by simp [Enc.enc]; intros; refine ⟨?_, ?_, ?_, ?_, ?_⟩ <;> rfl) h x hn hbase rfl
theorem run_bs1 (x : ByteArray) (w : World) : (Instr.buildSlice 22 1 #[(0, .string x)]).run Tryz.prog w = .ok (.slice (some ⟨w.heap.size, 0, none⟩) 1 1) (w.alloc (.cells #[.string x] 9)) := by kernel_rfl
theorem run_bsn (a b c d e : Int) (w : World) : (Instr.buildSlice 23 1 #[(0, .agg #[.int .i64 a, .int .i64 b, .int .i64 c, .int .i64 d, .int .i64 e])]).run Tryz.prog w = .ok (.slice (some ⟨w.heap.size, 0, none⟩) 1 1) (w.alloc (.cells #[.int .i64 a, .int .i64 b, .int .i64 c, .int .i64 d, .int .i64 e] 69)) := by kernel_rfl

theorem NC.grown2 {a w w' : World} {row : Option Nat} (h : NC a w) (hg : w.grownBy w' row) (hr : ∀ r, row = some r → ∃ c e f, w.heap[r]? = some (.cells c e f)) : NC a w' := h.grown hg hr
/-- behind an append into the points: what stays -/
theorem pts_more {base H : Nat} {W w1 w' : World} {vp vn : Value} {s : ShR} (hs : SheetAt base W H vp vn s) (hle : base ≤ W.heap.size) (hHb : H < base) {x : ByteArray} (h1 : w1 = W.drew.alloc (.cells #[.string x] 9)) (hg : w1.grownBy w' vp.ownBlock) :
    (∀ k, k < W.heap.size → vp.ownBlock ≠ some k → w'.heap[k]? = W.heap[k]?) ∧ Below base W w' ∧ NC W w' ∧ W.heap.size ≤ w'.heap.size ∧ Own base 69 w' vn s.notes := by
  subst h1
  have hb : Below W.heap.size W (W.drew.alloc (.cells #[.string x] 9)) := (Below.refl _ _).drew.alloc (Nat.le_refl _) _
  have hk : ∀ k, k < W.heap.size → vp.ownBlock ≠ some k → w'.heap[k]? = W.heap[k]? := fun k hk hne => (hg.block k (Nat.lt_of_lt_of_le hk hb.size) (fun e => hne e.symm)).trans (hb.block k hk)
  refine ⟨hk, ?_, ?_, Nat.le_trans hb.size hg.size, ?_⟩
  · refine (hb.mono hle).trans ?_
    have := ((hs.pts.below hb).grown hg).resolve_right (by have := hb.size; omega)
    exact this
  · refine ((NC.refl W).of_below hb).grown hg fun r hr => ?_
    obtain ⟨_, _, c, f, hh⟩ := (hs.pts.below hb).ownBlock hr
    exact ⟨c, 9, f, hh⟩
  · refine (hs.nts.below hb).beside hg ?_
    cases hr : vp.ownBlock with
    | none => exact .inr rfl
    | some r =>
      refine .inl fun e => ?_
      obtain ⟨_, _, c, f, hh⟩ := (hs.pts.below hb).ownBlock hr
      obtain ⟨_, _, c', f', hh'⟩ := (hs.nts.below hb).ownBlock e
      rw [hh] at hh'
      cases hh'
theorem nts_more {base H : Nat} {W w1 w' : World} {vp vn : Value} {s : ShR} (hs : SheetAt base W H vp vn s) (hle : base ≤ W.heap.size) (hHb : H < base) {cs : Array Value} (h1 : w1 = W.drew.alloc (.cells cs 69)) (hg : w1.grownBy w' vn.ownBlock) :
    (∀ k, k < W.heap.size → vn.ownBlock ≠ some k → w'.heap[k]? = W.heap[k]?) ∧ Below base W w' ∧ NC W w' ∧ W.heap.size ≤ w'.heap.size ∧ Own base 9 w' vp s.pts := by
  subst h1
  have hb : Below W.heap.size W (W.drew.alloc (.cells cs 69)) := (Below.refl _ _).drew.alloc (Nat.le_refl _) _
  have hk : ∀ k, k < W.heap.size → vn.ownBlock ≠ some k → w'.heap[k]? = W.heap[k]? := fun k hk hne => (hg.block k (Nat.lt_of_lt_of_le hk hb.size) (fun e => hne e.symm)).trans (hb.block k hk)
  refine ⟨hk, ?_, ?_, Nat.le_trans hb.size hg.size, ?_⟩
  · refine (hb.mono hle).trans ?_
    exact ((hs.nts.below hb).grown hg).resolve_right (by have := hb.size; omega)
  · refine ((NC.refl W).of_below hb).grown hg fun r hr => ?_
    obtain ⟨_, _, c, f, hh⟩ := (hs.nts.below hb).ownBlock hr
    exact ⟨c, 69, f, hh⟩
  · refine (hs.pts.below hb).beside hg ?_
    cases hr : vn.ownBlock with
    | none => exact .inr rfl
    | some r =>
      refine .inl fun e => ?_
      obtain ⟨_, _, c, f, hh⟩ := (hs.nts.below hb).ownBlock hr
      obtain ⟨_, _, c', f', hh'⟩ := (hs.pts.below hb).ownBlock e
      rw [hh] at hh'
      cases hh'
end Go.Proofs.YtajdgdelhlfniaaGreatDoor
namespace Go.Proofs.YtajdgdelhlfniaaGreatDoor
open Go.RowKit

set_option maxRecDepth 100000 in
set_option maxHeartbeats 1000000 in
theorem take_point_any {w : World} {base H gw cw : Nat} {vp vn : Value} {s : ShR} {ws : List ByteArray} (h : TakeIn base H gw cw vp vn s ws w) (hk : wd ws 0 = wPoint) :
    Calls Tryz.prog 82 #[.pointer (some ⟨H, 0, none⟩), .slice (some ⟨gw, 0, none⟩) ws.length cw] w fun e w' => TakeQ base H vp vn s ws w e w' := by
  have hn1 : ¬ wd ws 0 = wSheet := by rw [hk]; decide
  obtain ⟨W2, hW2, hT⟩ := takeW_made w H gw cw ws.length
  have x0 := wd_at h.wd (i := 0) (by have := h.one; omega)
  rw [hk] at x0
  have x0 := (hT.below.cell (cell_lt x0)).trans x0
  have p0 := cellOf hT.b0 0 rfl
  have p1 := cellOf hT.b1 0 rfl
  have HT := Lib.hid hT
  have HS := Lib.hid h
  have HFin := Lib.hid (fin_of h hT)
  unfold wPoint at x0
  by_cases hl : ws.length = 2
  · have x1 := wd_at h.wd (i := 1) (by omega)
    have x1 := (hT.below.cell (cell_lt x1)).trans x1
    have HTk := Lib.hid (show takeF s ws = some (addP s (wd ws 1)) by unfold takeF; rw [if_neg hn1, if_pos hk, if_pos hl])
    have hs2 := h.sh.below hT.below
    have hle2 : base ≤ W2.heap.size := Nat.le_trans h.le hT.below.size
    obtain ⟨A, c, w', hrun, ho', hg'⟩ := append_str2 (w := W2.drew) (hs2.pts.qt ⟨1, rfl⟩) (wd ws 1) (by have := h.few; omega) hle2
    obtain ⟨w0, hw0⟩ : ∃ w0, W2.drew = w0 := ⟨_, rfl⟩
    obtain ⟨w1, hw1⟩ : ∃ w1, w0.alloc (.cells #[.string (wd ws 1)] 9) = w1 := ⟨_, rfl⟩
    rw [hw0, hw1] at hrun
    rw [hw0, hw1] at hg'
    obtain ⟨m1, m2, m3, m4, m5⟩ := pts_more hs2 hle2 h.hb (x := wd ws 1) (w1 := w1) (by rw [← hw1, ← hw0]) hg'
    have bw0 : Below W2.heap.size W2 w0 := by rw [← hw0]; exact (Below.refl _ _).drew
    have bw1 : Below W2.heap.size W2 w1 := by rw [← hw1, ← hw0]; exact (Below.refl _ _).drew.alloc (Nat.le_refl _) _
    -- what the reads find
    have key : ∀ (a : Addr) (v : Value), W2.cell? a = some v → vp.ownBlock ≠ some a.block → ∀ x : Tr w0 w1 w', x.1.cell? a = some v := fun a v hv hne =>
      Tr.cell ((bw0.cell (cell_lt hv)).trans hv) ((bw1.cell (cell_lt hv)).trans hv) ((World.cell?_of_block (m1 _ (cell_lt hv) hne)).trans hv)
    have nb : ∀ b, W2.heap.size ≤ b + 2 → vp.ownBlock ≠ some b := fun b hb e => by
      obtain ⟨_, h2, _⟩ := h.sh.pts.ownBlock e
      have := hT.size
      omega
    have C0 := key _ _ (cellOf hT.b0 0 (v := .pointer (some ⟨H, 0, none⟩)) rfl) (nb _ (by rw [hT.size]; exact Nat.le_refl _))
    have C1 := key _ _ (cellOf hT.b1 0 (v := .slice (some ⟨gw, 0, none⟩) ws.length cw) rfl) (nb _ (by rw [hT.size]; show w.heap.size + 2 ≤ w.heap.size + 1 + 2; omega))
    have nH : vp.ownBlock ≠ some H := fun e => by
      have := (h.sh.pts.ownBlock e).1
      have := h.hb
      omega
    have C2 := key _ _ (cellOf hs2.row 1 (v := vp) rfl) nH
    have C3 := key _ _ x1 h.gw
    have rH := (m1 H (lt_of_block hs2.row) nH).trans hs2.row
    have C4 := cellOf rH 1 (v := vp) rfl
    have f4 : w'.frozen? ⟨H, 1, none⟩ = false := by simp [World.frozen?, rH]
    have hcd : W2.heap.size = w0.heap.size := by rw [← hw0]; rfl
    have hbs := run_bs1 (wd ws 1) w0
    rw [hw1] at hbs
    have hend : TakeQ base H vp vn s ws w (.returned (.tuple #[])) (w'.setCell ⟨H, 1, none⟩ (.slice A (s.pts.length + 1) c)) := by
      refine .inl ⟨_, HTk.out, rfl, .slice A (s.pts.length + 1) c, vn, ⟨?_, ?_, ?_⟩, ⟨fun k hk hne => ?_, ?_, ?_⟩⟩
      · exact (row3 rH 1 _).trans (by simp [addP])
      · exact ho'.setOther rH (by decide) 1 _
      · exact m5.setOther rH (by decide) 1 _
      · refine (Below.heap_setCell _ _ _ _ hne).trans ((m1 k (by have := hT.below.size; have := h.le; omega) fun e => ?_).trans (hT.below.block k (Nat.lt_of_lt_of_le hk h.le)))
        have := (h.sh.pts.ownBlock e).1
        omega
      · exact ((((NC.refl w).of_below hT.below).trans m3).setCell _ _)
      · exact ((hT.below.mono (Nat.zero_le _)).trans (m2.mono (Nat.zero_le _))).setCell (Nat.zero_le _) _
    have HE := Lib.hid hend
    have HR := Lib.hid hrun
    have HBs := Lib.hid hbs
    rw [hl] at hW2 p1 C1 ⊢
    generalize wd ws 1 = x at *
    clear hT h hk x1 hn1 hs2 hrun ho' hg' m1 m2 m3 m4 m5 bw0 bw1 key nb nH hw1 hend hbs HTk hcd hle2
    go_enter Tryz.func82, Tryz.ntmps82
    go_upto_region 1 with (fail)
    rw [← hW2]
    clear hW2
    go_upto_region 9 with (first | (refine wpList_mkfn2 rfl _ _ rfl (cs := #[.pointer (some ⟨w.heap.size + 1, 0, none⟩), .pointer (some ⟨w.heap.size, 0, none⟩)]) rfl ?_; simp only [Act.put, List.setIfInBounds_toArray, List.set_cons_succ, List.set_cons_zero]) | (go_at_call 85; refine (must_true _).mono ?_; rintro e wm ⟨rfl, hw⟩; subst wm; dsimp only))
    refine region_make2 (w1 := w1) (w2 := w') 8 hw0 (by kernel_rfl) (by kernel_rfl) (by kernel_rfl) (by kernel_rfl) ?_
    simp only [List.take_succ_cons, List.take_zero, List.drop_succ_cons, List.drop_zero]
    repeat (first | go_big_quiet_step (fail) | quiet_step (fail))
    refine wpQuiet_nil ?_
    refine mk_bs _ rfl rfl 22 1 _ rfl (vs := #[(0, .string x)]) rfl HBs.out ?_
    simp only [Act.put, List.setIfInBounds_toArray, List.set_cons_succ, List.set_cons_zero]
    refine mk_append _ rfl rfl _ _ 22 rfl rfl rfl HR.out ?_
    simp only [Act.put, List.setIfInBounds_toArray, List.set_cons_succ, List.set_cons_zero]
    clear C0 C1 C2 C3 x0 p0 p1
    go_wp2
    go_end0
    exact HE.out
  · have HTk := Lib.hid (show takeF s ws = none by unfold takeF; rw [if_neg hn1, if_pos hk, if_neg hl])
    have hne : ((ws.length : Int) == 2) = false := by simp; omega
    have hpos : 0 < ws.length := by have := h.one; omega
    have HE := Lib.hid (show TakeQ base H vp vn s ws w (.panicked chE) W2 from .inr ⟨HTk.out, rfl, HFin.out W2 (Below.refl _ _)⟩)
    clear hT h hk hl hn1
    go_enter Tryz.func82, Tryz.ntmps82
    go_upto_region 1 with (fail)
    rw [← hW2]
    clear hW2
    go_wp2_with (first | (refine wpList_mkfn2 rfl _ _ rfl (cs := #[.pointer (some ⟨w.heap.size + 1, 0, none⟩), .pointer (some ⟨w.heap.size, 0, none⟩)]) rfl ?_; simp only [Act.put, List.setIfInBounds_toArray, List.set_cons_succ, List.set_cons_zero]) | (go_at_call 85; refine (must_false _).mono ?_; rintro e wm ⟨rfl, hw⟩; subst wm; exact ⟨rfl, HE.out⟩))
end Go.Proofs.YtajdgdelhlfniaaGreatDoor
