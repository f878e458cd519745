/- The law SheetOrder: its walk. -/
import Derived.Test.YtajdgdelhlfniaaGreatDoorMorL
import Derived.Test.YtajdgdelhlfniaaGreatDoorGSl
import Derived.WalkKit
import Derived.Deep.Quiet
set_option linter.unusedSimpArgs false
set_option linter.unusedVariables false
namespace Go.Proofs.YtajdgdelhlfniaaGreatDoor
open Go.RowKit

def own14 (k : Nat) : Bool := k == 0 || k == 5 || k == 7 || k == 8 || k == 13
def con14 (k : Nat) : Nat := if k = 0 then 5 else if k = 5 then 8 else if k = 7 then 8 else if k = 8 then 13 else 15
def xs14 (q : List NoteR) (a : Nat) (z : NoteR) (k : Nat) : List NoteR := if k = 0 then [] else if k = 5 then q.take a else if k = 7 then [z] else if k = 8 then q.take a ++ [z] else q.take a ++ [z] ++ q.drop a
def rd14 (k : Nat) : Bool := !(k == 0 || k == 5 || k == 7 || k == 8 || k == 13 || k == 15)
structure OrI (W : World) (g5 : Nat) (q : List NoteR) (a : Nat) (z : NoteR) (val : Nat → Value) (L : Nat → Bool) (vs : Nat → Value) (X : World) : Prop where
  go : L 15 = false → GO W.heap.size 69 W (lv own14 con14 L) (xs14 q a z) vs X
  rd : ∀ k, rd14 k = true → L k = true → vs k = val k
  st : L 15 = true → ∃ X0, Below W.heap.size W X0 ∧ Own W.heap.size 69 X0 (vs 13) (xs14 q a z 13) ∧ X = X0.setCell ⟨g5, 2, none⟩ (vs 13)
theorem ordL_step {s : ShR} {l : List Int} {k n : Nat} (h : turnF l k = (n : Int)) : ordL s l (k + 1) = xs14 (ordL s l k) (n / 2 % (k + 1)) (flipN (s.notes.getD k default) n) 13 := by
  conv => lhs; unfold ordL
  rw [h]
  have e : ((n : Int) / 2 % ((k : Int) + 1)).toNat = n / 2 % (k + 1) := by
    have : (n : Int) / 2 % ((k : Int) + 1) = ((n / 2 % (k + 1) : Nat) : Int) := by push_cast; rfl
    rw [this]; rfl
  rw [e]
  rfl

theorem wider_at {B : Nat} {w : World} {v : Value} {s : ShR} (he : errOf s = 0) (hs : RdSh B w v s) (hn : Named s) (hB : B ≤ w.heap.size) :
    Calls Tryz.prog 35 #[v] w fun e w' => ∃ n, e = .returned (.tuple #[.int .i64 n, .int .i64 0]) ∧ IsWider s n ∧ Below w.heap.size w w' := by
  refine (wider_any hs hn hB).mono ?_
  rintro e w' ⟨n, rfl, _, h, hb⟩
  rw [he]
  exact ⟨n, rfl, h he, hb⟩
theorem run_exec_slice {P : Program} {o : Oper} {a : Act} {w w' : World} (t : TypeId) (x : Operand) (lo hi mx : Option Operand) (ho : o.op = .slice t x lo hi mx) {vx : Value} {vlo vhi vmx : Option Value} (h0 : a.eval x = vx) (h1 : lo.map a.eval = vlo) (h2 : hi.map a.eval = vhi) (h3 : mx.map a.eval = vmx) {v : Value}
    (hr : (Instr.sliceAt t vx vlo vhi vmx).run P w = .ok v w') : (execOp a.eval o).run P w = .ok (.value v) w' := by
  subst h0 h1 h2 h3
  unfold execOp
  rw [ho]
  simp only [Sem.run_bind, Sem.run_pure, hr, Result.andThen_ok]
theorem map_add0 (A : Option Addr) (n : Nat) : (if n = 0 then A else A.map (·.add 0)) = A := by
  split
  · rfl
  · cases A <;> rfl
theorem run_slice_hi {A : Option Addr} {k c a : Nat} (h : a ≤ c) (hc : c ≤ 9223372036854775807) (w : World) : (Instr.sliceAt 23 (.slice A k c) none (some (.int .i64 a)) none).run Tryz.prog w = .ok (.slice A a c) w := by
  have hs : (Go.sizeOf 69).run Tryz.prog w = .ok 5 w := by kernel_rfl
  have hb : (Instr.sliceBounds true k c none (some (.int .i64 a)) none).run Tryz.prog w = .ok (0, a, c) w := by
    unfold Instr.sliceBounds Instr.sliceBound
    simp [asIntOf]
    intro h2
    omega
  unfold Instr.sliceAt Instr.slice
  simp only [Sem.run_bind, run_underlying Tryz.underlying23, Result.andThen_ok, hb, hs, Sem.run_pure, Nat.zero_mul, Nat.sub_zero, map_add0]
theorem run_slice_lo {A : Option Addr} {k c a : Nat} (h : a ≤ k) (w : World) : (Instr.sliceAt 23 (.slice A k c) (some (.int .i64 a)) none none).run Tryz.prog w = .ok (.slice (if c = a then A else A.map (·.add (a * 5))) (k - a) (c - a)) w := by
  have hs : (Go.sizeOf 69).run Tryz.prog w = .ok 5 w := by kernel_rfl
  have hb : (Instr.sliceBounds true k c (some (.int .i64 a)) none none).run Tryz.prog w = .ok (a, k, c) w := by
    unfold Instr.sliceBounds Instr.sliceBound
    simp [asIntOf]
    intro h2
    omega
  unfold Instr.sliceAt Instr.slice
  simp only [Sem.run_bind, run_underlying Tryz.underlying23, Result.andThen_ok, hb, hs, Sem.run_pure]
theorem rd_lo {B : Nat} {w : World} {A : Option Addr} {k c a : Nat} {q : List NoteR} (h : Rd NoteAt 5 B w (.slice A k c) q) (hk : k = q.length) (ha : a ≤ k) : Rd NoteAt 5 B w (.slice (if c = a then A else A.map (·.add (a * 5))) (q.drop a).length (c - a)) (q.drop a) := by
  subst hk
  have hc : q.length ≤ c ∧ c ≤ 9223372036854775807 := by obtain ⟨_, _, e, h1, h2, _⟩ := h; cases e; exact ⟨h1, h2⟩
  by_cases e : c = a
  · have hd : q.drop a = [] := List.drop_eq_nil_of_le (by omega)
    rw [hd]
    exact ⟨_, _, rfl, by simp, by omega, fun i x hx => by simp at hx⟩
  · rw [if_neg e]
    cases A with
    | none =>
      have hq := rd_none h
      subst hq
      exact ⟨_, _, rfl, by simp, by omega, fun i x hx => by simp at hx⟩
    | some ad =>
      have := h.dropP (k := a) ha
      rw [List.length_drop]
      exact this

set_option maxRecDepth 100000 in
set_option maxHeartbeats 4000000 in
theorem order_any {B Bx : Nat} {w : World} {v vx : Value} {s : ShR} {l : List Int} (hs : RdSh B w v s) (hn : Named s) (hB : B ≤ w.heap.size) (hx : Rd U16At 1 Bx w vx l) (hl : ∀ x ∈ l, 0 ≤ x ∧ x ≤ 65535) (hBx : Bx ≤ w.heap.size) (hgl : Glob w) :
    Calls Tryz.prog 14 #[v, vx] w fun e w' => e = .returned (.bool true) ∧ Below w.heap.size w w' := by
  have HSR := Lib.hid (fun (X : World) (hb : Below w.heap.size w X) => hs.below (hb.mono hB))
  have HX := Lib.hid (fun (X : World) (hb : Below w.heap.size w X) => hx.below (hb.mono hBx))
  have HA := Lib.hid (fun (X : World) (hb : Below w.heap.size w X) => awake_any (w := X) (hgl.below hb))
  have HN := Lib.hid hn
  have HL := Lib.hid hl
  have HBd := Lib.hid (turnF_bounds hl)
  obtain ⟨vp, vn, rfl, hpp, hnn⟩ := hs
  obtain ⟨Ap, cp, rfl, _⟩ := id hpp
  obtain ⟨An, cn, rfl, _⟩ := id hnn
  have HNt := Lib.hid (fun (X : World) (hb : Below w.heap.size w X) => hnn.below (hb.mono hB))
  have HPp := Lib.hid (fun (X : World) (hb : Below w.heap.size w X) => hpp.below (hb.mono hB))
  obtain ⟨W1, hW1, r1, z1, b1⟩ := box_any w #[.int .i64 s.iv, .slice Ap s.pts.length cp, .slice An s.notes.length cn] 25
  have HBY := Lib.hid b1
  have HC : Hid (∀ Z : World, Below W1.heap.size W1 Z → Z.cell? ⟨w.heap.size, 0, none⟩ = some (.int .i64 s.iv) ∧ Z.cell? ⟨w.heap.size, 1, none⟩ = some (.slice Ap s.pts.length cp) ∧ Z.cell? ⟨w.heap.size, 2, none⟩ = some (.slice An s.notes.length cn) ∧ Below w.heap.size w Z) :=
    Lib.hid fun Z h => by
      have j1 := (h.block _ (lt_of_block r1)).trans r1
      exact ⟨cellOf j1 0 rfl, cellOf j1 1 rfl, cellOf j1 2 rfl, HBY.out.trans (h.mono HBY.out.size)⟩
  clear r1 z1 b1 hn hgl hpp hnn hx hl
  go_enter Tryz.func14, Tryz.ntmps14
  go_upto_region 1 with (fail)
  rw [← hW1]
  clear hW1
  have hbx : Below W1.heap.size W1 W1 := Below.refl _ _
  obtain ⟨C0, C1, C2, hb⟩ := HC.out _ hbx
  have HV := Lib.hid (fun (Z : World) (h : Below w.heap.size w Z) => valid_any (HSR.out Z h) HN.out (Nat.le_trans hB h.size))
  by_cases hv : errOf s = 0
  · have hd : decide (errOf s = 0) = true := decide_eq_true hv
    rw [hd] at HV
    have hg := good_of_valid hv
    have HLk := Lib.hid (ord_like hg l)
    have hnl := hg.nlen
    have HGd := Lib.hid hg
    clear hd hv hg
    go_upto_region 3 with (go_at_call 44; (with_reducible refine Calls.mono (HV.out _ hb) ?_); rintro e X ⟨rfl, h4⟩; replace hbx := hbx.trans (h4.mono hbx.size); clear C0 C1 C2 hb h4; obtain ⟨C0, C1, C2, hb⟩ := HC.out _ hbx)
    go_upto_region 4 with (refine wpList_store_row rfl 25 (.tmp 5) (.tmp 26) rfl X.heap.size #[.int .i64 s.iv, .slice Ap s.pts.length cp, .slice An s.notes.length cn] rfl rfl 25 _ (heap_alloc_new _ _) (by kernel_rfl) rfl (by simp [Value.oneCell']) ?_)
    obtain ⟨Y, hY⟩ : ∃ Y, Y = (X.alloc (.cells #[.int .i64 0, .slice none 0 0, .slice none 0 0] 25)).setRow X.heap.size #[.int .i64 s.iv, .slice Ap s.pts.length cp, .slice An s.notes.length cn] := ⟨_, rfl⟩
    rw [← hY]
    have y1 : Below X.heap.size X Y := by rw [hY]; exact ((Below.refl _ _).alloc (Nat.le_refl _) _).trans (setRow_below _ (Nat.le_refl _))
    have r5 : Y.heap[X.heap.size]? = some (.cells #[.int .i64 s.iv, .slice Ap s.pts.length cp, .slice An s.notes.length cn] 25) := by rw [hY]; exact setRow_heap _ _ _ _ _ _ (heap_alloc_new _ _)
    clear hY
    have hW1X := hbx.size
    replace hbx := hbx.trans (y1.mono hbx.size)
    clear C0 C1 C2 hb y1
    obtain ⟨C0, C1, C2, hb⟩ := HC.out _ hbx
    generalize hg5 : X.heap.size = g5 at r5 ⊢
    rw [hg5] at hW1X
    clear hg5
    have o2 := cellOf r5 2 (v := .slice An s.notes.length cn) rfl
    have f2 : Y.frozen? ⟨g5, 2, none⟩ = false := by simp [World.frozen?, r5]
    have R5 := Lib.hid r5
    clear r5
    go_upto_region 5 with (fail)
    obtain ⟨Y2, hY2⟩ : ∃ Y2, Y2 = Y.setCell ⟨g5, 2, none⟩ (.slice none 0 0) := ⟨_, rfl⟩
    rw [← hY2]
    have y2 : Below g5 Y Y2 := by rw [hY2]; exact Below.setCell (p := ⟨g5, 2, none⟩) (Below.refl _ Y) (Nat.le_refl _) _
    have r5 : Y2.heap[g5]? = some (.cells #[.int .i64 s.iv, .slice Ap s.pts.length cp, .slice none 0 0] 25) := by rw [hY2]; exact (Joins.block_setCell R5.out _).trans rfl
    clear hY2 o2 f2
    replace hbx := hbx.trans (y2.mono hW1X)
    clear C0 C1 C2 hb y2
    obtain ⟨C0, C1, C2, hb⟩ := HC.out _ hbx
    have HR5 := Lib.hid r5
    clear r5
    go_wp2
    go_loopw [6] (fun i wr => ∃ (k : Nat) (A : Option Addr) (c : Nat), k ≤ s.notes.length ∧ i = .int .i64 k ∧ wr.heap[g5]? = some (.cells #[.int .i64 s.iv, .slice Ap s.pts.length cp, .slice A k c] 25) ∧ Rd NoteAt 5 wr.heap.size wr (.slice A k c) (ordL s l k) ∧ Below W1.heap.size W1 wr) (fun i _ => s.notes.length - (intOf i).toNat)
    case atStart => exact ⟨0, none, 0, Nat.zero_le _, rfl, HR5.out, Rd.nil _ _, hbx⟩
    case round =>
      clear C0 C1 C2 hb hbx
      obtain ⟨k, A, c, hk, rfl, hrow, hrd, hbx⟩ := hrel
      obtain ⟨C0, C1, C2, hb⟩ := HC.out _ hbx
      have HRow0 := Lib.hid hrow
      have HRd0 := Lib.hid hrd
      clear hrow
      by_cases hlt : k < s.notes.length
      · obtain ⟨n, hn⟩ : ∃ n : Nat, turnF l k = (n : Int) := ⟨(turnF l k).toNat, by have := (HBd.out k).1; omega⟩
        have HT := Lib.hid (fun (X : World) (h : Below w.heap.size w X) => turn_any k (HX.out X h) (by omega) HL.out)
        have HSt := Lib.hid (ordL_step (s := s) hn)
        have hnb : n ≤ 65535 := by have := (HBd.out k).2; omega
        rw [hn] at HT
        clear hn
        obtain ⟨ad, had, _, hat⟩ := (HNt.out wr hb).note hlt
        subst had
        have hgd : s.notes[k]?.getD default = s.notes.getD k default := by rw [List.getD_eq_getElem?_getD]
        rw [hgd] at hat
        clear hgd
        have HOq := Lib.hid (ordL_len s l k)
        have hkc : k ≤ c ∧ c ≤ 9223372036854775807 := by
          obtain ⟨_, _, e, h1, h2, _⟩ := hrd
          injection e with e0 e1 e2
          subst e2
          rw [HOq.out] at h1
          exact ⟨h1, h2⟩
        clear hrd
        generalize hqq : ordL s l k = q at *
        have HQq := Lib.hid hqq
        clear hqq
        have hxm := noteOK_int (HGd.out.notes _ (getD_mem hlt default)) HGd.out.iv.1
        generalize s.notes.getD k default = x at *
        obtain ⟨x0, x1, x2, x3, x4⟩ := x
        obtain ⟨a0, a1, a2, a3, a4⟩ := hat
        simp only at a0 a1 a2 a3 a4
        simp only at hxm
        go_upto_region 9 with (fail)
        obtain ⟨V, hV, rV, zV, bV⟩ := box_any wr #[.int .i64 x0, .int .i64 x1, .int .i64 x2, .int .i64 x3, .int .i64 x4] 69
        rw [← hV]
        have row5 := (bV.block _ (lt_of_block HRow0.out)).trans HRow0.out
        have HRw := Lib.hid (fun (Z : World) (h : Below V.heap.size V Z) => HRd0.out.below (bV.trans (h.mono bV.size)))
        have hW7 := hbx.size
        replace hbx := hbx.trans (bV.mono hbx.size)
        have hg7 : g5 ≠ wr.heap.size := by have := lt_of_block HRow0.out; omega
        have HQw := Lib.hid bV
        clear hV C0 C1 C2 hb a0 a1 a2 a3 a4 zV bV
        obtain ⟨C0, C1, C2, hb⟩ := HC.out _ hbx
        generalize hg : wr.heap.size = g7 at *
        clear hg
        have d0 := cellOf rV 0 (v := .int .i64 x0) rfl
        have d1 := cellOf rV 1 (v := .int .i64 x1) rfl
        have d2 := cellOf rV 2 (v := .int .i64 x2) rfl
        have d3 := cellOf rV 3 (v := .int .i64 x3) rfl
        have d4 := cellOf rV 4 (v := .int .i64 x4) rfl
        have RV := Lib.hid rV
        have R5 := Lib.hid row5
        clear rV row5
        go_upto_region 10 with (go_at_call 54; refine (HT.out _ hb).mono ?_; rintro e wx ⟨rfl, hwx⟩; subst wx)
        have hcase : (x0 = 4 ∧ n % 2 = 1) ∨ (x0 = 4 ∧ n % 2 = 0) ∨ x0 ≠ 4 := by omega
        rcases hcase with ⟨h4, h2⟩ | ⟨h4, h2⟩ | h4
        · subst h4
          have t1 : ((n : Int) % 2 == 1) = true := by simp; omega
          have t2 : ((n : Int).tmod 2 == 1) = true := by rw [Int.tmod_eq_emod_of_nonneg (by omega)]; exact t1
          have w1 : IntKind.i64.wrap (-x4) = -x4 := IntWalk.i64_in _ (by omega)
          have w2 : IntKind.i64.wrap (-x3) = -x3 := IntWalk.i64_in _ (by omega)
          go_upto_region 11 with (fail)
          obtain ⟨z, hz⟩ : ∃ z : NoteR, z = ⟨4, x2, x1, -x4, -x3⟩ := ⟨_, rfl⟩
          have hfl : flipN ⟨4, x1, x2, x3, x4⟩ n = z := by
            unfold flipN
            rw [if_pos ⟨rfl, by omega⟩, hz]
          go_upto_region 12 with (first | (go_at_call 50; refine (lnote_any _ _ _ _ _ _).mono ?_; rintro e w2 ⟨rfl, hb2⟩) | (refine wpList_store_row rfl 69 (.tmp 7) (.tmp 63) rfl g7 #[.int .i64 4, .int .i64 x2, .int .i64 x1, .int .i64 (-x4), .int .i64 (-x3)] rfl rfl 69 _ ((hb2.block _ (lt_of_block RV.out)).trans RV.out) (by kernel_rfl) rfl (by simp [Value.oneCell']) ?_))
          obtain ⟨Yz, hYz⟩ : ∃ Yz, Yz = w2.setRow g7 #[.int .i64 4, .int .i64 x2, .int .i64 x1, .int .i64 (-x4), .int .i64 (-x3)] := ⟨_, rfl⟩
          have RVy := Lib.hid (show Yz.heap[g7]? = some (.cells #[.int .i64 z.kind, .int .i64 z.a, .int .i64 z.b, .int .i64 z.lo, .int .i64 z.hi] 69) by rw [hYz, hz]; exact setRow_heap _ _ _ _ _ _ ((hb2.block _ (lt_of_block RV.out)).trans RV.out))
          have R5y := Lib.hid (show Yz.heap[g5]? = some (.cells #[.int .i64 s.iv, .slice Ap s.pts.length cp, .slice A k c] 25) by rw [hYz]; exact (setRow_other _ _ _ _ hg7).trans ((hb2.block _ (lt_of_block R5.out)).trans R5.out))
          have HRy := Lib.hid (show ∀ Z, Below Yz.heap.size Yz Z → Rd NoteAt 5 g7 Z (.slice A k c) q by
            intro Z h
            have h1 := HRw.out w2 hb2
            have h2 : Rd NoteAt 5 g7 Yz (.slice A k c) q := by
              rw [hYz]
              exact h1.keep fun p hp => World.cell?_of_block (setRow_other _ _ _ _ (by omega))
            have h3 := lt_of_block RVy.out
            exact h2.below (h.mono (by omega)))
          have hbxy : Below W1.heap.size W1 Yz := by
            rw [hYz]
            exact (hbx.trans (hb2.mono hbx.size)).trans (setRow_below _ hW7)
          rw [← hYz]
          have d0 := cellOf RVy.out 0 (v := .int .i64 z.kind) rfl
          have HQq2 := Lib.hid (show ordL s l (k + 1) = xs14 q (n / 2 % (k + 1)) z 13 by rw [HSt.out, hfl])
          clear hz hfl hYz hbx hb C0 C1 C2 hb2 d0 d1 d2 d3 d4 t1 t2 w1 w2
          go_upto_region 13 with (fail)
          rw [show ((n : Int) / 2 % ((k : Int) + 1)) = ((n / 2 % (k + 1) : Nat) : Int) by push_cast; rfl]
          have hak : n / 2 % (k + 1) ≤ k := by have := Nat.mod_lt (n / 2) (show 0 < k + 1 by omega); omega
          generalize n / 2 % (k + 1) = a at *
          have HTk := Lib.hid (show (q.take a).length = a by rw [List.length_take, HOq.out]; omega)
          have HDr := Lib.hid (show (q.drop a).length = k - a by rw [List.length_drop, HOq.out])
          have HRt := Lib.hid (show ∀ X, Below Yz.heap.size Yz X → Rd NoteAt 5 g7 X (.slice A (q.take a).length c) (q.take a) from fun X h => by
            rw [HTk.out]
            exact (HRy.out X h).takeP (by rw [HOq.out]; exact hak))
          have HRd := Lib.hid (show ∀ X, Below Yz.heap.size Yz X → Rd NoteAt 5 g7 X (.slice (if c = a then A else A.map (·.add (a * 5))) (q.drop a).length (c - a)) (q.drop a) from fun X h => rd_lo (HRy.out X h) HOq.out.symm hak)
          have HRow := Lib.hid R5y.out
          have QN := Lib.hid (cellOf R5y.out 2 (v := .slice A k c) rfl)
          have D0 := Lib.hid (cellOf RVy.out 0 (v := .int .i64 z.kind) rfl)
          have D1 := Lib.hid (cellOf RVy.out 1 (v := .int .i64 z.a) rfl)
          have D2 := Lib.hid (cellOf RVy.out 2 (v := .int .i64 z.b) rfl)
          have D3 := Lib.hid (cellOf RVy.out 3 (v := .int .i64 z.lo) rfl)
          have D4 := Lib.hid (cellOf RVy.out 4 (v := .int .i64 z.hi) rfl)
          refine wp_region_ghost (OrI Yz g5 q a z (fun jj => if jj = 1 ∨ jj = 9 ∨ jj = 14 then .pointer (some ⟨g5, 2, none⟩) else if jj = 2 ∨ jj = 10 then .slice A k c else if jj = 3 ∨ jj = 11 then .int .i64 a else if jj = 4 then .slice A a c else if jj = 6 then noteV z else .slice (if c = a then A else A.map (·.add (a * 5))) (k - a) (c - a))) (by kernel_rfl) (by kernel_rfl) ?_ ?_ ?_
          · exact ⟨fun _ => ⟨(Below.refl _ _).drew, Nat.le_refl _, fun k h => (by cases h.2.1), fun j k h => (by cases h.2.1)⟩, fun _ _ h => (by cases h), fun h => (by cases h)⟩
          · refine ⟨?_, ?_, ?_, ?_, ?_, ?_, ?_, ?_, ?_, ?_, ?_, ?_, ?_, ?_, ?_, ?_, trivial⟩
            all_goals
              intro L vs X b hL hw hcl hI hf
            · have n15 : L 15 = false := not_yet hcl 15 hL rfl (by kernel_rfl)
              have hG := hI.go n15
              have hb := hG.bel
              refine wp_of_run (run_exec_bs 23 0 #[] rfl (vs := #[]) rfl (run_bsN0 X)) ?_
              exact ⟨fun _ => hG.lit (i := 0) (n := 0) rfl (by omega) rfl, rd_step hI.rd (fun h => by cases h), fun h => absurd (n15.symm.trans h) (by simp)⟩
            · have n15 : L 15 = false := not_yet hcl 15 hL rfl (by kernel_rfl)
              have hG := hI.go n15
              have hb := hG.bel
              have e5 := hf.old 5 (by kernel_rfl)
              refine wp_of_run (v := .pointer (some ⟨g5, 2, none⟩)) (w' := X) (by unfold execOp; go_simp) ?_
              exact ⟨fun _ => hG.skip rfl _, rd_step hI.rd (fun _ => rfl), fun h => absurd (n15.symm.trans h) (by simp)⟩
            · have n15 : L 15 = false := not_yet hcl 15 hL rfl (by kernel_rfl)
              have hG := hI.go n15
              have hb := hG.bel
              have h1 : L 1 = true := done_of hw 1 (by kernel_rfl)
              have e70 : b.tmps[70]?.getD undef = .pointer (some ⟨g5, 2, none⟩) := (hf.new 1 70 rfl h1 (by simp)).trans (hI.rd 1 rfl h1)
              have qN := (hb.cell (cell_lt QN.out)).trans QN.out
              refine wp_of_run (v := .slice A k c) (w' := X) (by unfold execOp; go_simp) ?_
              exact ⟨fun _ => hG.skip rfl _, rd_step hI.rd (fun _ => rfl), fun h => absurd (n15.symm.trans h) (by simp)⟩
            · have n15 : L 15 = false := not_yet hcl 15 hL rfl (by kernel_rfl)
              have hG := hI.go n15
              have hb := hG.bel
              have e9 := hf.old 9 (by kernel_rfl)
              refine wp_of_run (v := .int .i64 a) (w' := X) (by unfold execOp; go_simp) ?_
              exact ⟨fun _ => hG.skip rfl _, rd_step hI.rd (fun _ => rfl), fun h => absurd (n15.symm.trans h) (by simp)⟩
            · have n15 : L 15 = false := not_yet hcl 15 hL rfl (by kernel_rfl)
              have hG := hI.go n15
              have hb := hG.bel
              have h2 : L 2 = true := done_of hw 2 (by kernel_rfl)
              have e71 : b.tmps[71]?.getD undef = .slice A k c := (hf.new 2 71 rfl h2 (by simp)).trans (hI.rd 2 rfl h2)
              have h3 : L 3 = true := done_of hw 3 (by kernel_rfl)
              have e72 : b.tmps[72]?.getD undef = .int .i64 a := (hf.new 3 72 rfl h3 (by simp)).trans (hI.rd 3 rfl h3)
              refine wp_of_run (v := .slice A a c) (w' := X) (run_exec_slice 23 (.tmp 71) none (some (.tmp 72)) none rfl (eval_tmp e71) rfl (by simp [eval_tmp e72]) rfl (run_slice_hi (by omega) hkc.2 X)) ?_
              exact ⟨fun _ => hG.skip rfl _, rd_step hI.rd (fun _ => rfl), fun h => absurd (n15.symm.trans h) (by simp)⟩
            · have n15 : L 15 = false := not_yet hcl 15 hL rfl (by kernel_rfl)
              have hG := hI.go n15
              have hb := hG.bel
              have h0 : L 0 = true := done_of hw 0 (by kernel_rfl)
              have e69 : b.tmps[69]?.getD undef = vs 0 := hf.new 0 69 rfl h0 (by simp)
              have h4 : L 4 = true := done_of hw 4 (by kernel_rfl)
              have e73 : b.tmps[73]?.getD undef = .slice A a c := (hf.new 4 73 rfl h4 (by simp)).trans (hI.rd 4 rfl h4)
              have n3 : lv own14 con14 L 0 := ⟨rfl, h0, hL⟩
              have hr := HRt.out X hb
              obtain ⟨v', X', hrun, ho, hg, hv⟩ := append_notes2 (m := a) HTk.out.symm (hG.own 0 n3) hr (by rw [show (xs14 q a z 0).length = 0 from rfl, HTk.out]; omega) hG.le
              refine wp_of_run (run_exec_append (.tmp 69) (.tmp 73) 23 rfl (eval_tmp e69) (eval_tmp e73) hrun) ?_
              exact ⟨fun _ => hG.app n3 rfl ho hg hv, rd_step hI.rd (fun h => by cases h), fun h => absurd (n15.symm.trans h) (by simp)⟩
            · have n15 : L 15 = false := not_yet hcl 15 hL rfl (by kernel_rfl)
              have hG := hI.go n15
              have hb := hG.bel
              have e7 := hf.old 7 (by kernel_rfl)
              have d0 := (hb.cell (cell_lt D0.out)).trans D0.out
              have d1 := (hb.cell (cell_lt D1.out)).trans D1.out
              have d2 := (hb.cell (cell_lt D2.out)).trans D2.out
              have d3 := (hb.cell (cell_lt D3.out)).trans D3.out
              have d4 := (hb.cell (cell_lt D4.out)).trans D4.out
              refine wp_of_run (v := noteV z) (w' := X) (by unfold execOp noteV; go_simp) ?_
              exact ⟨fun _ => hG.skip rfl _, rd_step hI.rd (fun _ => rfl), fun h => absurd (n15.symm.trans h) (by simp)⟩
            · have n15 : L 15 = false := not_yet hcl 15 hL rfl (by kernel_rfl)
              have hG := hI.go n15
              have hb := hG.bel
              have h6 : L 6 = true := done_of hw 6 (by kernel_rfl)
              have e75 : b.tmps[75]?.getD undef = noteV z := (hf.new 6 75 rfl h6 (by simp)).trans (hI.rd 6 rfl h6)
              refine wp_of_run (run_exec_bs 23 1 _ rfl (vs := #[(0, noteV z)]) (by simp [eval_tmp e75]) (run_bsN1 z X)) ?_
              exact ⟨fun _ => hG.lit (i := 7) (n := 1) rfl (by omega) rfl, rd_step hI.rd (fun h => by cases h), fun h => absurd (n15.symm.trans h) (by simp)⟩
            · have n15 : L 15 = false := not_yet hcl 15 hL rfl (by kernel_rfl)
              have hG := hI.go n15
              have hb := hG.bel
              have h5 : L 5 = true := done_of hw 5 (by kernel_rfl)
              have e74 : b.tmps[74]?.getD undef = vs 5 := hf.new 5 74 rfl h5 (by simp)
              have h7 : L 7 = true := done_of hw 7 (by kernel_rfl)
              have e76 : b.tmps[76]?.getD undef = vs 7 := hf.new 7 76 rfl h7 (by simp)
              have n3 : lv own14 con14 L 5 := ⟨rfl, h5, hL⟩
              have n7 : lv own14 con14 L 7 := ⟨rfl, h7, hL⟩
              have hr7 := (hG.own 7 n7).rd
              obtain ⟨A7, c7, e7', _, _⟩ := (hG.own 7 n7).form
              rw [e7'] at hr7 e76
              obtain ⟨v', X', hrun, ho, hg, hv⟩ := append_notes2 rfl (hG.own 5 n3) hr7 (by rw [show (xs14 q a z 5).length = (q.take a).length from rfl, HTk.out]; show (a + 1) * 40 ≤ _; omega) hG.le
              refine wp_of_run (run_exec_append (.tmp 74) (.tmp 76) 23 rfl (eval_tmp e74) (eval_tmp e76) hrun) ?_
              exact ⟨fun _ => hG.app n3 rfl ho hg hv, rd_step hI.rd (fun h => by cases h), fun h => absurd (n15.symm.trans h) (by simp)⟩
            · have n15 : L 15 = false := not_yet hcl 15 hL rfl (by kernel_rfl)
              have hG := hI.go n15
              have hb := hG.bel
              have e5 := hf.old 5 (by kernel_rfl)
              refine wp_of_run (v := .pointer (some ⟨g5, 2, none⟩)) (w' := X) (by unfold execOp; go_simp) ?_
              exact ⟨fun _ => hG.skip rfl _, rd_step hI.rd (fun _ => rfl), fun h => absurd (n15.symm.trans h) (by simp)⟩
            · have n15 : L 15 = false := not_yet hcl 15 hL rfl (by kernel_rfl)
              have hG := hI.go n15
              have hb := hG.bel
              have h9 : L 9 = true := done_of hw 9 (by kernel_rfl)
              have e78 : b.tmps[78]?.getD undef = .pointer (some ⟨g5, 2, none⟩) := (hf.new 9 78 rfl h9 (by simp)).trans (hI.rd 9 rfl h9)
              have qN := (hb.cell (cell_lt QN.out)).trans QN.out
              refine wp_of_run (v := .slice A k c) (w' := X) (by unfold execOp; go_simp) ?_
              exact ⟨fun _ => hG.skip rfl _, rd_step hI.rd (fun _ => rfl), fun h => absurd (n15.symm.trans h) (by simp)⟩
            · have n15 : L 15 = false := not_yet hcl 15 hL rfl (by kernel_rfl)
              have hG := hI.go n15
              have hb := hG.bel
              have e9 := hf.old 9 (by kernel_rfl)
              refine wp_of_run (v := .int .i64 a) (w' := X) (by unfold execOp; go_simp) ?_
              exact ⟨fun _ => hG.skip rfl _, rd_step hI.rd (fun _ => rfl), fun h => absurd (n15.symm.trans h) (by simp)⟩
            · have n15 : L 15 = false := not_yet hcl 15 hL rfl (by kernel_rfl)
              have hG := hI.go n15
              have hb := hG.bel
              have h10 : L 10 = true := done_of hw 10 (by kernel_rfl)
              have e79 : b.tmps[79]?.getD undef = .slice A k c := (hf.new 10 79 rfl h10 (by simp)).trans (hI.rd 10 rfl h10)
              have h11 : L 11 = true := done_of hw 11 (by kernel_rfl)
              have e80 : b.tmps[80]?.getD undef = .int .i64 a := (hf.new 11 80 rfl h11 (by simp)).trans (hI.rd 11 rfl h11)
              refine wp_of_run (v := .slice (if c = a then A else A.map (·.add (a * 5))) (k - a) (c - a)) (w' := X) (run_exec_slice 23 (.tmp 79) (some (.tmp 80)) none none rfl (eval_tmp e79) (by simp [eval_tmp e80]) rfl rfl (run_slice_lo hak X)) ?_
              exact ⟨fun _ => hG.skip rfl _, rd_step hI.rd (fun _ => rfl), fun h => absurd (n15.symm.trans h) (by simp)⟩
            · have n15 : L 15 = false := not_yet hcl 15 hL rfl (by kernel_rfl)
              have hG := hI.go n15
              have hb := hG.bel
              have h8 : L 8 = true := done_of hw 8 (by kernel_rfl)
              have e77 : b.tmps[77]?.getD undef = vs 8 := hf.new 8 77 rfl h8 (by simp)
              have h12 : L 12 = true := done_of hw 12 (by kernel_rfl)
              have e81 : b.tmps[81]?.getD undef = .slice (if c = a then A else A.map (·.add (a * 5))) (k - a) (c - a) := (hf.new 12 81 rfl h12 (by simp)).trans (hI.rd 12 rfl h12)
              have n3 : lv own14 con14 L 8 := ⟨rfl, h8, hL⟩
              have hr := HRd.out X hb
              obtain ⟨v', X', hrun, ho, hg, hv⟩ := append_notes2 (m := k - a) HDr.out.symm (hG.own 8 n3) hr (by rw [show (xs14 q a z 8).length = (q.take a ++ [z]).length from rfl, List.length_append, List.length_singleton, HTk.out, HDr.out]; omega) hG.le
              refine wp_of_run (run_exec_append (.tmp 77) (.tmp 81) 23 rfl (eval_tmp e77) (eval_tmp e81) hrun) ?_
              exact ⟨fun _ => hG.app n3 rfl ho hg hv, rd_step hI.rd (fun h => by cases h), fun h => absurd (n15.symm.trans h) (by simp)⟩
            · have n15 : L 15 = false := not_yet hcl 15 hL rfl (by kernel_rfl)
              have hG := hI.go n15
              have hb := hG.bel
              have e5 := hf.old 5 (by kernel_rfl)
              refine wp_of_run (v := .pointer (some ⟨g5, 2, none⟩)) (w' := X) (by unfold execOp; go_simp) ?_
              exact ⟨fun _ => hG.skip rfl _, rd_step hI.rd (fun _ => rfl), fun h => absurd (n15.symm.trans h) (by simp)⟩
            · have h13 : L 13 = true := done_of hw 13 (by kernel_rfl)
              have e82 : b.tmps[82]?.getD undef = vs 13 := hf.new 13 82 rfl h13 (by simp)
              have h14 : L 14 = true := done_of hw 14 (by kernel_rfl)
              have e83 : b.tmps[83]?.getD undef = .pointer (some ⟨g5, 2, none⟩) := (hf.new 14 83 rfl h14 (by simp)).trans (hI.rd 14 rfl h14)
              have hG := hI.go hL
              have hb := hG.bel
              have n6 : lv own14 con14 L 13 := ⟨rfl, h13, hL⟩
              have ho := hG.own 13 n6
              have rx := (hb.block _ (lt_of_block HRow.out)).trans HRow.out
              have q0 := cellOf rx 2 rfl
              have fx : X.frozen? ⟨g5, 2, none⟩ = false := by simp [World.frozen?, rx]
              obtain ⟨A6, c6, q6, _, _⟩ := ho.form
              rw [q6] at e82
              refine wp_of_skip (w' := X.setCell ⟨g5, 2, none⟩ (.slice A6 (xs14 q a z 13).length c6)) (by unfold execOp; go_simp) ?_
              exact ⟨fun h => (by cases h), rd_step hI.rd (fun h => by cases h), fun _ => ⟨X, hb, ho, by rw [← q6]; rfl⟩⟩
          · intro vs X hI
            obtain ⟨X0, hb0, ho, rfl⟩ := hI.st rfl
            obtain ⟨A6, c6, q6, _, _⟩ := ho.form
            have rx := (hb0.block _ (lt_of_block HRow.out)).trans HRow.out
            have k1 : (X0.setCell ⟨g5, 2, none⟩ (vs 13)).heap[g5]? = some (.cells #[.int .i64 s.iv, .slice Ap s.pts.length cp, vs 13] 25) := (Joins.block_setCell rx _).trans rfl
            have hoY := (ho.other (p := ⟨g5, 2, none⟩) (lt_of_block HRow.out) (vs 13)).rd
            have hbY : Below W1.heap.size W1 (X0.setCell ⟨g5, 2, none⟩ (vs 13)) := (hbxy.trans (hb0.mono hbxy.size)).setCell hW1X _
            have hlen : (xs14 q a z 13).length = k + 1 := by
              rw [show (xs14 q a z 13) = q.take a ++ [z] ++ q.drop a from rfl, List.length_append, List.length_append, List.length_singleton, HTk.out, HDr.out]
              omega
            clear hI ho hb0 rx
            simp [fill, slotOf, Act.put]
            simp only [Exit.inBlock, Exit.then]
            rw [hlen] at q6
            rw [q6] at k1 hoY hbY ⊢
            clear q6
            generalize X0.setCell ⟨g5, 2, none⟩ (.slice A6 (k + 1) c6) = Y6 at *
            have K1 := Lib.hid k1
            have HoY := Lib.hid hoY
            have HbY := Lib.hid hbY
            clear k1 hoY hbY hlen
            generalize vs 0 = u0
            generalize vs 1 = u1
            generalize vs 2 = u2
            generalize vs 3 = u3
            generalize vs 4 = u4
            generalize vs 5 = u5
            generalize vs 6 = u6
            generalize vs 7 = u7
            generalize vs 8 = u8
            generalize vs 9 = u9
            generalize vs 10 = u10
            generalize vs 11 = u11
            generalize vs 12 = u12
            generalize vs 14 = u14
            generalize vs 15 = u15
            go_wp2
            go_roundw
            case rel => exact ⟨k + 1, A6, c6, by omega, by go_num, K1.out, by rw [HQq2.out]; exact HoY.out, HbY.out⟩
            case measure => simp [intOf]; omega
        · subst h4
          have t1 : ((n : Int) % 2 == 1) = false := by simp; omega
          obtain ⟨z, hz⟩ : ∃ z : NoteR, z = ⟨4, x1, x2, x3, x4⟩ := ⟨_, rfl⟩
          have hfl : flipN ⟨4, x1, x2, x3, x4⟩ n = z := by
            unfold flipN
            rw [if_neg (by simp; omega), hz]
          obtain ⟨Yz, hYz⟩ : ∃ Yz, Yz = V := ⟨_, rfl⟩
          have RVy := Lib.hid (show Yz.heap[g7]? = some (.cells #[.int .i64 z.kind, .int .i64 z.a, .int .i64 z.b, .int .i64 z.lo, .int .i64 z.hi] 69) by rw [hYz, hz]; exact RV.out)
          have R5y := Lib.hid (show Yz.heap[g5]? = some (.cells #[.int .i64 s.iv, .slice Ap s.pts.length cp, .slice A k c] 25) by rw [hYz]; exact R5.out)
          have HRy := Lib.hid (show ∀ Z, Below Yz.heap.size Yz Z → Rd NoteAt 5 g7 Z (.slice A k c) q by rw [hYz]; intro Z h; have := HRw.out Z h; exact this)
          have hbxy : Below W1.heap.size W1 Yz := by rw [hYz]; exact hbx
          rw [← hYz] at d0 d1 d2 d3 d4 ⊢
          have HQq2 := Lib.hid (show ordL s l (k + 1) = xs14 q (n / 2 % (k + 1)) z 13 by rw [HSt.out, hfl])
          clear hz hfl hYz hbx hb C0 C1 C2
          go_upto_region 13 with (fail)
          rw [show ((n : Int) / 2 % ((k : Int) + 1)) = ((n / 2 % (k + 1) : Nat) : Int) by push_cast; rfl]
          have hak : n / 2 % (k + 1) ≤ k := by have := Nat.mod_lt (n / 2) (show 0 < k + 1 by omega); omega
          generalize n / 2 % (k + 1) = a at *
          have HTk := Lib.hid (show (q.take a).length = a by rw [List.length_take, HOq.out]; omega)
          have HDr := Lib.hid (show (q.drop a).length = k - a by rw [List.length_drop, HOq.out])
          have HRt := Lib.hid (show ∀ X, Below Yz.heap.size Yz X → Rd NoteAt 5 g7 X (.slice A (q.take a).length c) (q.take a) from fun X h => by
            rw [HTk.out]
            exact (HRy.out X h).takeP (by rw [HOq.out]; exact hak))
          have HRd := Lib.hid (show ∀ X, Below Yz.heap.size Yz X → Rd NoteAt 5 g7 X (.slice (if c = a then A else A.map (·.add (a * 5))) (q.drop a).length (c - a)) (q.drop a) from fun X h => rd_lo (HRy.out X h) HOq.out.symm hak)
          have HRow := Lib.hid R5y.out
          have QN := Lib.hid (cellOf R5y.out 2 (v := .slice A k c) rfl)
          have D0 := Lib.hid (cellOf RVy.out 0 (v := .int .i64 z.kind) rfl)
          have D1 := Lib.hid (cellOf RVy.out 1 (v := .int .i64 z.a) rfl)
          have D2 := Lib.hid (cellOf RVy.out 2 (v := .int .i64 z.b) rfl)
          have D3 := Lib.hid (cellOf RVy.out 3 (v := .int .i64 z.lo) rfl)
          have D4 := Lib.hid (cellOf RVy.out 4 (v := .int .i64 z.hi) rfl)
          refine wp_region_ghost (OrI Yz g5 q a z (fun jj => if jj = 1 ∨ jj = 9 ∨ jj = 14 then .pointer (some ⟨g5, 2, none⟩) else if jj = 2 ∨ jj = 10 then .slice A k c else if jj = 3 ∨ jj = 11 then .int .i64 a else if jj = 4 then .slice A a c else if jj = 6 then noteV z else .slice (if c = a then A else A.map (·.add (a * 5))) (k - a) (c - a))) (by kernel_rfl) (by kernel_rfl) ?_ ?_ ?_
          · exact ⟨fun _ => ⟨(Below.refl _ _).drew, Nat.le_refl _, fun k h => (by cases h.2.1), fun j k h => (by cases h.2.1)⟩, fun _ _ h => (by cases h), fun h => (by cases h)⟩
          · refine ⟨?_, ?_, ?_, ?_, ?_, ?_, ?_, ?_, ?_, ?_, ?_, ?_, ?_, ?_, ?_, ?_, trivial⟩
            all_goals
              intro L vs X b hL hw hcl hI hf
            · have n15 : L 15 = false := not_yet hcl 15 hL rfl (by kernel_rfl)
              have hG := hI.go n15
              have hb := hG.bel
              refine wp_of_run (run_exec_bs 23 0 #[] rfl (vs := #[]) rfl (run_bsN0 X)) ?_
              exact ⟨fun _ => hG.lit (i := 0) (n := 0) rfl (by omega) rfl, rd_step hI.rd (fun h => by cases h), fun h => absurd (n15.symm.trans h) (by simp)⟩
            · have n15 : L 15 = false := not_yet hcl 15 hL rfl (by kernel_rfl)
              have hG := hI.go n15
              have hb := hG.bel
              have e5 := hf.old 5 (by kernel_rfl)
              refine wp_of_run (v := .pointer (some ⟨g5, 2, none⟩)) (w' := X) (by unfold execOp; go_simp) ?_
              exact ⟨fun _ => hG.skip rfl _, rd_step hI.rd (fun _ => rfl), fun h => absurd (n15.symm.trans h) (by simp)⟩
            · have n15 : L 15 = false := not_yet hcl 15 hL rfl (by kernel_rfl)
              have hG := hI.go n15
              have hb := hG.bel
              have h1 : L 1 = true := done_of hw 1 (by kernel_rfl)
              have e70 : b.tmps[70]?.getD undef = .pointer (some ⟨g5, 2, none⟩) := (hf.new 1 70 rfl h1 (by simp)).trans (hI.rd 1 rfl h1)
              have qN := (hb.cell (cell_lt QN.out)).trans QN.out
              refine wp_of_run (v := .slice A k c) (w' := X) (by unfold execOp; go_simp) ?_
              exact ⟨fun _ => hG.skip rfl _, rd_step hI.rd (fun _ => rfl), fun h => absurd (n15.symm.trans h) (by simp)⟩
            · have n15 : L 15 = false := not_yet hcl 15 hL rfl (by kernel_rfl)
              have hG := hI.go n15
              have hb := hG.bel
              have e9 := hf.old 9 (by kernel_rfl)
              refine wp_of_run (v := .int .i64 a) (w' := X) (by unfold execOp; go_simp) ?_
              exact ⟨fun _ => hG.skip rfl _, rd_step hI.rd (fun _ => rfl), fun h => absurd (n15.symm.trans h) (by simp)⟩
            · have n15 : L 15 = false := not_yet hcl 15 hL rfl (by kernel_rfl)
              have hG := hI.go n15
              have hb := hG.bel
              have h2 : L 2 = true := done_of hw 2 (by kernel_rfl)
              have e71 : b.tmps[71]?.getD undef = .slice A k c := (hf.new 2 71 rfl h2 (by simp)).trans (hI.rd 2 rfl h2)
              have h3 : L 3 = true := done_of hw 3 (by kernel_rfl)
              have e72 : b.tmps[72]?.getD undef = .int .i64 a := (hf.new 3 72 rfl h3 (by simp)).trans (hI.rd 3 rfl h3)
              refine wp_of_run (v := .slice A a c) (w' := X) (run_exec_slice 23 (.tmp 71) none (some (.tmp 72)) none rfl (eval_tmp e71) rfl (by simp [eval_tmp e72]) rfl (run_slice_hi (by omega) hkc.2 X)) ?_
              exact ⟨fun _ => hG.skip rfl _, rd_step hI.rd (fun _ => rfl), fun h => absurd (n15.symm.trans h) (by simp)⟩
            · have n15 : L 15 = false := not_yet hcl 15 hL rfl (by kernel_rfl)
              have hG := hI.go n15
              have hb := hG.bel
              have h0 : L 0 = true := done_of hw 0 (by kernel_rfl)
              have e69 : b.tmps[69]?.getD undef = vs 0 := hf.new 0 69 rfl h0 (by simp)
              have h4 : L 4 = true := done_of hw 4 (by kernel_rfl)
              have e73 : b.tmps[73]?.getD undef = .slice A a c := (hf.new 4 73 rfl h4 (by simp)).trans (hI.rd 4 rfl h4)
              have n3 : lv own14 con14 L 0 := ⟨rfl, h0, hL⟩
              have hr := HRt.out X hb
              obtain ⟨v', X', hrun, ho, hg, hv⟩ := append_notes2 (m := a) HTk.out.symm (hG.own 0 n3) hr (by rw [show (xs14 q a z 0).length = 0 from rfl, HTk.out]; omega) hG.le
              refine wp_of_run (run_exec_append (.tmp 69) (.tmp 73) 23 rfl (eval_tmp e69) (eval_tmp e73) hrun) ?_
              exact ⟨fun _ => hG.app n3 rfl ho hg hv, rd_step hI.rd (fun h => by cases h), fun h => absurd (n15.symm.trans h) (by simp)⟩
            · have n15 : L 15 = false := not_yet hcl 15 hL rfl (by kernel_rfl)
              have hG := hI.go n15
              have hb := hG.bel
              have e7 := hf.old 7 (by kernel_rfl)
              have d0 := (hb.cell (cell_lt D0.out)).trans D0.out
              have d1 := (hb.cell (cell_lt D1.out)).trans D1.out
              have d2 := (hb.cell (cell_lt D2.out)).trans D2.out
              have d3 := (hb.cell (cell_lt D3.out)).trans D3.out
              have d4 := (hb.cell (cell_lt D4.out)).trans D4.out
              refine wp_of_run (v := noteV z) (w' := X) (by unfold execOp noteV; go_simp) ?_
              exact ⟨fun _ => hG.skip rfl _, rd_step hI.rd (fun _ => rfl), fun h => absurd (n15.symm.trans h) (by simp)⟩
            · have n15 : L 15 = false := not_yet hcl 15 hL rfl (by kernel_rfl)
              have hG := hI.go n15
              have hb := hG.bel
              have h6 : L 6 = true := done_of hw 6 (by kernel_rfl)
              have e75 : b.tmps[75]?.getD undef = noteV z := (hf.new 6 75 rfl h6 (by simp)).trans (hI.rd 6 rfl h6)
              refine wp_of_run (run_exec_bs 23 1 _ rfl (vs := #[(0, noteV z)]) (by simp [eval_tmp e75]) (run_bsN1 z X)) ?_
              exact ⟨fun _ => hG.lit (i := 7) (n := 1) rfl (by omega) rfl, rd_step hI.rd (fun h => by cases h), fun h => absurd (n15.symm.trans h) (by simp)⟩
            · have n15 : L 15 = false := not_yet hcl 15 hL rfl (by kernel_rfl)
              have hG := hI.go n15
              have hb := hG.bel
              have h5 : L 5 = true := done_of hw 5 (by kernel_rfl)
              have e74 : b.tmps[74]?.getD undef = vs 5 := hf.new 5 74 rfl h5 (by simp)
              have h7 : L 7 = true := done_of hw 7 (by kernel_rfl)
              have e76 : b.tmps[76]?.getD undef = vs 7 := hf.new 7 76 rfl h7 (by simp)
              have n3 : lv own14 con14 L 5 := ⟨rfl, h5, hL⟩
              have n7 : lv own14 con14 L 7 := ⟨rfl, h7, hL⟩
              have hr7 := (hG.own 7 n7).rd
              obtain ⟨A7, c7, e7', _, _⟩ := (hG.own 7 n7).form
              rw [e7'] at hr7 e76
              obtain ⟨v', X', hrun, ho, hg, hv⟩ := append_notes2 rfl (hG.own 5 n3) hr7 (by rw [show (xs14 q a z 5).length = (q.take a).length from rfl, HTk.out]; show (a + 1) * 40 ≤ _; omega) hG.le
              refine wp_of_run (run_exec_append (.tmp 74) (.tmp 76) 23 rfl (eval_tmp e74) (eval_tmp e76) hrun) ?_
              exact ⟨fun _ => hG.app n3 rfl ho hg hv, rd_step hI.rd (fun h => by cases h), fun h => absurd (n15.symm.trans h) (by simp)⟩
            · have n15 : L 15 = false := not_yet hcl 15 hL rfl (by kernel_rfl)
              have hG := hI.go n15
              have hb := hG.bel
              have e5 := hf.old 5 (by kernel_rfl)
              refine wp_of_run (v := .pointer (some ⟨g5, 2, none⟩)) (w' := X) (by unfold execOp; go_simp) ?_
              exact ⟨fun _ => hG.skip rfl _, rd_step hI.rd (fun _ => rfl), fun h => absurd (n15.symm.trans h) (by simp)⟩
            · have n15 : L 15 = false := not_yet hcl 15 hL rfl (by kernel_rfl)
              have hG := hI.go n15
              have hb := hG.bel
              have h9 : L 9 = true := done_of hw 9 (by kernel_rfl)
              have e78 : b.tmps[78]?.getD undef = .pointer (some ⟨g5, 2, none⟩) := (hf.new 9 78 rfl h9 (by simp)).trans (hI.rd 9 rfl h9)
              have qN := (hb.cell (cell_lt QN.out)).trans QN.out
              refine wp_of_run (v := .slice A k c) (w' := X) (by unfold execOp; go_simp) ?_
              exact ⟨fun _ => hG.skip rfl _, rd_step hI.rd (fun _ => rfl), fun h => absurd (n15.symm.trans h) (by simp)⟩
            · have n15 : L 15 = false := not_yet hcl 15 hL rfl (by kernel_rfl)
              have hG := hI.go n15
              have hb := hG.bel
              have e9 := hf.old 9 (by kernel_rfl)
              refine wp_of_run (v := .int .i64 a) (w' := X) (by unfold execOp; go_simp) ?_
              exact ⟨fun _ => hG.skip rfl _, rd_step hI.rd (fun _ => rfl), fun h => absurd (n15.symm.trans h) (by simp)⟩
            · have n15 : L 15 = false := not_yet hcl 15 hL rfl (by kernel_rfl)
              have hG := hI.go n15
              have hb := hG.bel
              have h10 : L 10 = true := done_of hw 10 (by kernel_rfl)
              have e79 : b.tmps[79]?.getD undef = .slice A k c := (hf.new 10 79 rfl h10 (by simp)).trans (hI.rd 10 rfl h10)
              have h11 : L 11 = true := done_of hw 11 (by kernel_rfl)
              have e80 : b.tmps[80]?.getD undef = .int .i64 a := (hf.new 11 80 rfl h11 (by simp)).trans (hI.rd 11 rfl h11)
              refine wp_of_run (v := .slice (if c = a then A else A.map (·.add (a * 5))) (k - a) (c - a)) (w' := X) (run_exec_slice 23 (.tmp 79) (some (.tmp 80)) none none rfl (eval_tmp e79) (by simp [eval_tmp e80]) rfl rfl (run_slice_lo hak X)) ?_
              exact ⟨fun _ => hG.skip rfl _, rd_step hI.rd (fun _ => rfl), fun h => absurd (n15.symm.trans h) (by simp)⟩
            · have n15 : L 15 = false := not_yet hcl 15 hL rfl (by kernel_rfl)
              have hG := hI.go n15
              have hb := hG.bel
              have h8 : L 8 = true := done_of hw 8 (by kernel_rfl)
              have e77 : b.tmps[77]?.getD undef = vs 8 := hf.new 8 77 rfl h8 (by simp)
              have h12 : L 12 = true := done_of hw 12 (by kernel_rfl)
              have e81 : b.tmps[81]?.getD undef = .slice (if c = a then A else A.map (·.add (a * 5))) (k - a) (c - a) := (hf.new 12 81 rfl h12 (by simp)).trans (hI.rd 12 rfl h12)
              have n3 : lv own14 con14 L 8 := ⟨rfl, h8, hL⟩
              have hr := HRd.out X hb
              obtain ⟨v', X', hrun, ho, hg, hv⟩ := append_notes2 (m := k - a) HDr.out.symm (hG.own 8 n3) hr (by rw [show (xs14 q a z 8).length = (q.take a ++ [z]).length from rfl, List.length_append, List.length_singleton, HTk.out, HDr.out]; omega) hG.le
              refine wp_of_run (run_exec_append (.tmp 77) (.tmp 81) 23 rfl (eval_tmp e77) (eval_tmp e81) hrun) ?_
              exact ⟨fun _ => hG.app n3 rfl ho hg hv, rd_step hI.rd (fun h => by cases h), fun h => absurd (n15.symm.trans h) (by simp)⟩
            · have n15 : L 15 = false := not_yet hcl 15 hL rfl (by kernel_rfl)
              have hG := hI.go n15
              have hb := hG.bel
              have e5 := hf.old 5 (by kernel_rfl)
              refine wp_of_run (v := .pointer (some ⟨g5, 2, none⟩)) (w' := X) (by unfold execOp; go_simp) ?_
              exact ⟨fun _ => hG.skip rfl _, rd_step hI.rd (fun _ => rfl), fun h => absurd (n15.symm.trans h) (by simp)⟩
            · have h13 : L 13 = true := done_of hw 13 (by kernel_rfl)
              have e82 : b.tmps[82]?.getD undef = vs 13 := hf.new 13 82 rfl h13 (by simp)
              have h14 : L 14 = true := done_of hw 14 (by kernel_rfl)
              have e83 : b.tmps[83]?.getD undef = .pointer (some ⟨g5, 2, none⟩) := (hf.new 14 83 rfl h14 (by simp)).trans (hI.rd 14 rfl h14)
              have hG := hI.go hL
              have hb := hG.bel
              have n6 : lv own14 con14 L 13 := ⟨rfl, h13, hL⟩
              have ho := hG.own 13 n6
              have rx := (hb.block _ (lt_of_block HRow.out)).trans HRow.out
              have q0 := cellOf rx 2 rfl
              have fx : X.frozen? ⟨g5, 2, none⟩ = false := by simp [World.frozen?, rx]
              obtain ⟨A6, c6, q6, _, _⟩ := ho.form
              rw [q6] at e82
              refine wp_of_skip (w' := X.setCell ⟨g5, 2, none⟩ (.slice A6 (xs14 q a z 13).length c6)) (by unfold execOp; go_simp) ?_
              exact ⟨fun h => (by cases h), rd_step hI.rd (fun h => by cases h), fun _ => ⟨X, hb, ho, by rw [← q6]; rfl⟩⟩
          · intro vs X hI
            obtain ⟨X0, hb0, ho, rfl⟩ := hI.st rfl
            obtain ⟨A6, c6, q6, _, _⟩ := ho.form
            have rx := (hb0.block _ (lt_of_block HRow.out)).trans HRow.out
            have k1 : (X0.setCell ⟨g5, 2, none⟩ (vs 13)).heap[g5]? = some (.cells #[.int .i64 s.iv, .slice Ap s.pts.length cp, vs 13] 25) := (Joins.block_setCell rx _).trans rfl
            have hoY := (ho.other (p := ⟨g5, 2, none⟩) (lt_of_block HRow.out) (vs 13)).rd
            have hbY : Below W1.heap.size W1 (X0.setCell ⟨g5, 2, none⟩ (vs 13)) := (hbxy.trans (hb0.mono hbxy.size)).setCell hW1X _
            have hlen : (xs14 q a z 13).length = k + 1 := by
              rw [show (xs14 q a z 13) = q.take a ++ [z] ++ q.drop a from rfl, List.length_append, List.length_append, List.length_singleton, HTk.out, HDr.out]
              omega
            clear hI ho hb0 rx
            simp [fill, slotOf, Act.put]
            simp only [Exit.inBlock, Exit.then]
            rw [hlen] at q6
            rw [q6] at k1 hoY hbY ⊢
            clear q6
            generalize X0.setCell ⟨g5, 2, none⟩ (.slice A6 (k + 1) c6) = Y6 at *
            have K1 := Lib.hid k1
            have HoY := Lib.hid hoY
            have HbY := Lib.hid hbY
            clear k1 hoY hbY hlen
            generalize vs 0 = u0
            generalize vs 1 = u1
            generalize vs 2 = u2
            generalize vs 3 = u3
            generalize vs 4 = u4
            generalize vs 5 = u5
            generalize vs 6 = u6
            generalize vs 7 = u7
            generalize vs 8 = u8
            generalize vs 9 = u9
            generalize vs 10 = u10
            generalize vs 11 = u11
            generalize vs 12 = u12
            generalize vs 14 = u14
            generalize vs 15 = u15
            go_wp2
            go_roundw
            case rel => exact ⟨k + 1, A6, c6, by omega, by go_num, K1.out, by rw [HQq2.out]; exact HoY.out, HbY.out⟩
            case measure => simp [intOf]; omega
        · have t1 : (x0 == 4) = false := by simpa using h4
          obtain ⟨z, hz⟩ : ∃ z : NoteR, z = ⟨x0, x1, x2, x3, x4⟩ := ⟨_, rfl⟩
          have hfl : flipN ⟨x0, x1, x2, x3, x4⟩ n = z := by
            unfold flipN
            rw [if_neg (by simp; omega), hz]
          obtain ⟨Yz, hYz⟩ : ∃ Yz, Yz = V := ⟨_, rfl⟩
          have RVy := Lib.hid (show Yz.heap[g7]? = some (.cells #[.int .i64 z.kind, .int .i64 z.a, .int .i64 z.b, .int .i64 z.lo, .int .i64 z.hi] 69) by rw [hYz, hz]; exact RV.out)
          have R5y := Lib.hid (show Yz.heap[g5]? = some (.cells #[.int .i64 s.iv, .slice Ap s.pts.length cp, .slice A k c] 25) by rw [hYz]; exact R5.out)
          have HRy := Lib.hid (show ∀ Z, Below Yz.heap.size Yz Z → Rd NoteAt 5 g7 Z (.slice A k c) q by rw [hYz]; intro Z h; have := HRw.out Z h; exact this)
          have hbxy : Below W1.heap.size W1 Yz := by rw [hYz]; exact hbx
          rw [← hYz] at d0 d1 d2 d3 d4 ⊢
          have HQq2 := Lib.hid (show ordL s l (k + 1) = xs14 q (n / 2 % (k + 1)) z 13 by rw [HSt.out, hfl])
          clear hz hfl hYz hbx hb C0 C1 C2
          go_upto_region 13 with (fail)
          rw [show ((n : Int) / 2 % ((k : Int) + 1)) = ((n / 2 % (k + 1) : Nat) : Int) by push_cast; rfl]
          have hak : n / 2 % (k + 1) ≤ k := by have := Nat.mod_lt (n / 2) (show 0 < k + 1 by omega); omega
          generalize n / 2 % (k + 1) = a at *
          have HTk := Lib.hid (show (q.take a).length = a by rw [List.length_take, HOq.out]; omega)
          have HDr := Lib.hid (show (q.drop a).length = k - a by rw [List.length_drop, HOq.out])
          have HRt := Lib.hid (show ∀ X, Below Yz.heap.size Yz X → Rd NoteAt 5 g7 X (.slice A (q.take a).length c) (q.take a) from fun X h => by
            rw [HTk.out]
            exact (HRy.out X h).takeP (by rw [HOq.out]; exact hak))
          have HRd := Lib.hid (show ∀ X, Below Yz.heap.size Yz X → Rd NoteAt 5 g7 X (.slice (if c = a then A else A.map (·.add (a * 5))) (q.drop a).length (c - a)) (q.drop a) from fun X h => rd_lo (HRy.out X h) HOq.out.symm hak)
          have HRow := Lib.hid R5y.out
          have QN := Lib.hid (cellOf R5y.out 2 (v := .slice A k c) rfl)
          have D0 := Lib.hid (cellOf RVy.out 0 (v := .int .i64 z.kind) rfl)
          have D1 := Lib.hid (cellOf RVy.out 1 (v := .int .i64 z.a) rfl)
          have D2 := Lib.hid (cellOf RVy.out 2 (v := .int .i64 z.b) rfl)
          have D3 := Lib.hid (cellOf RVy.out 3 (v := .int .i64 z.lo) rfl)
          have D4 := Lib.hid (cellOf RVy.out 4 (v := .int .i64 z.hi) rfl)
          refine wp_region_ghost (OrI Yz g5 q a z (fun jj => if jj = 1 ∨ jj = 9 ∨ jj = 14 then .pointer (some ⟨g5, 2, none⟩) else if jj = 2 ∨ jj = 10 then .slice A k c else if jj = 3 ∨ jj = 11 then .int .i64 a else if jj = 4 then .slice A a c else if jj = 6 then noteV z else .slice (if c = a then A else A.map (·.add (a * 5))) (k - a) (c - a))) (by kernel_rfl) (by kernel_rfl) ?_ ?_ ?_
          · exact ⟨fun _ => ⟨(Below.refl _ _).drew, Nat.le_refl _, fun k h => (by cases h.2.1), fun j k h => (by cases h.2.1)⟩, fun _ _ h => (by cases h), fun h => (by cases h)⟩
          · refine ⟨?_, ?_, ?_, ?_, ?_, ?_, ?_, ?_, ?_, ?_, ?_, ?_, ?_, ?_, ?_, ?_, trivial⟩
            all_goals
              intro L vs X b hL hw hcl hI hf
            · have n15 : L 15 = false := not_yet hcl 15 hL rfl (by kernel_rfl)
              have hG := hI.go n15
              have hb := hG.bel
              refine wp_of_run (run_exec_bs 23 0 #[] rfl (vs := #[]) rfl (run_bsN0 X)) ?_
              exact ⟨fun _ => hG.lit (i := 0) (n := 0) rfl (by omega) rfl, rd_step hI.rd (fun h => by cases h), fun h => absurd (n15.symm.trans h) (by simp)⟩
            · have n15 : L 15 = false := not_yet hcl 15 hL rfl (by kernel_rfl)
              have hG := hI.go n15
              have hb := hG.bel
              have e5 := hf.old 5 (by kernel_rfl)
              refine wp_of_run (v := .pointer (some ⟨g5, 2, none⟩)) (w' := X) (by unfold execOp; go_simp) ?_
              exact ⟨fun _ => hG.skip rfl _, rd_step hI.rd (fun _ => rfl), fun h => absurd (n15.symm.trans h) (by simp)⟩
            · have n15 : L 15 = false := not_yet hcl 15 hL rfl (by kernel_rfl)
              have hG := hI.go n15
              have hb := hG.bel
              have h1 : L 1 = true := done_of hw 1 (by kernel_rfl)
              have e70 : b.tmps[70]?.getD undef = .pointer (some ⟨g5, 2, none⟩) := (hf.new 1 70 rfl h1 (by simp)).trans (hI.rd 1 rfl h1)
              have qN := (hb.cell (cell_lt QN.out)).trans QN.out
              refine wp_of_run (v := .slice A k c) (w' := X) (by unfold execOp; go_simp) ?_
              exact ⟨fun _ => hG.skip rfl _, rd_step hI.rd (fun _ => rfl), fun h => absurd (n15.symm.trans h) (by simp)⟩
            · have n15 : L 15 = false := not_yet hcl 15 hL rfl (by kernel_rfl)
              have hG := hI.go n15
              have hb := hG.bel
              have e9 := hf.old 9 (by kernel_rfl)
              refine wp_of_run (v := .int .i64 a) (w' := X) (by unfold execOp; go_simp) ?_
              exact ⟨fun _ => hG.skip rfl _, rd_step hI.rd (fun _ => rfl), fun h => absurd (n15.symm.trans h) (by simp)⟩
            · have n15 : L 15 = false := not_yet hcl 15 hL rfl (by kernel_rfl)
              have hG := hI.go n15
              have hb := hG.bel
              have h2 : L 2 = true := done_of hw 2 (by kernel_rfl)
              have e71 : b.tmps[71]?.getD undef = .slice A k c := (hf.new 2 71 rfl h2 (by simp)).trans (hI.rd 2 rfl h2)
              have h3 : L 3 = true := done_of hw 3 (by kernel_rfl)
              have e72 : b.tmps[72]?.getD undef = .int .i64 a := (hf.new 3 72 rfl h3 (by simp)).trans (hI.rd 3 rfl h3)
              refine wp_of_run (v := .slice A a c) (w' := X) (run_exec_slice 23 (.tmp 71) none (some (.tmp 72)) none rfl (eval_tmp e71) rfl (by simp [eval_tmp e72]) rfl (run_slice_hi (by omega) hkc.2 X)) ?_
              exact ⟨fun _ => hG.skip rfl _, rd_step hI.rd (fun _ => rfl), fun h => absurd (n15.symm.trans h) (by simp)⟩
            · have n15 : L 15 = false := not_yet hcl 15 hL rfl (by kernel_rfl)
              have hG := hI.go n15
              have hb := hG.bel
              have h0 : L 0 = true := done_of hw 0 (by kernel_rfl)
              have e69 : b.tmps[69]?.getD undef = vs 0 := hf.new 0 69 rfl h0 (by simp)
              have h4 : L 4 = true := done_of hw 4 (by kernel_rfl)
              have e73 : b.tmps[73]?.getD undef = .slice A a c := (hf.new 4 73 rfl h4 (by simp)).trans (hI.rd 4 rfl h4)
              have n3 : lv own14 con14 L 0 := ⟨rfl, h0, hL⟩
              have hr := HRt.out X hb
              obtain ⟨v', X', hrun, ho, hg, hv⟩ := append_notes2 (m := a) HTk.out.symm (hG.own 0 n3) hr (by rw [show (xs14 q a z 0).length = 0 from rfl, HTk.out]; omega) hG.le
              refine wp_of_run (run_exec_append (.tmp 69) (.tmp 73) 23 rfl (eval_tmp e69) (eval_tmp e73) hrun) ?_
              exact ⟨fun _ => hG.app n3 rfl ho hg hv, rd_step hI.rd (fun h => by cases h), fun h => absurd (n15.symm.trans h) (by simp)⟩
            · have n15 : L 15 = false := not_yet hcl 15 hL rfl (by kernel_rfl)
              have hG := hI.go n15
              have hb := hG.bel
              have e7 := hf.old 7 (by kernel_rfl)
              have d0 := (hb.cell (cell_lt D0.out)).trans D0.out
              have d1 := (hb.cell (cell_lt D1.out)).trans D1.out
              have d2 := (hb.cell (cell_lt D2.out)).trans D2.out
              have d3 := (hb.cell (cell_lt D3.out)).trans D3.out
              have d4 := (hb.cell (cell_lt D4.out)).trans D4.out
              refine wp_of_run (v := noteV z) (w' := X) (by unfold execOp noteV; go_simp) ?_
              exact ⟨fun _ => hG.skip rfl _, rd_step hI.rd (fun _ => rfl), fun h => absurd (n15.symm.trans h) (by simp)⟩
            · have n15 : L 15 = false := not_yet hcl 15 hL rfl (by kernel_rfl)
              have hG := hI.go n15
              have hb := hG.bel
              have h6 : L 6 = true := done_of hw 6 (by kernel_rfl)
              have e75 : b.tmps[75]?.getD undef = noteV z := (hf.new 6 75 rfl h6 (by simp)).trans (hI.rd 6 rfl h6)
              refine wp_of_run (run_exec_bs 23 1 _ rfl (vs := #[(0, noteV z)]) (by simp [eval_tmp e75]) (run_bsN1 z X)) ?_
              exact ⟨fun _ => hG.lit (i := 7) (n := 1) rfl (by omega) rfl, rd_step hI.rd (fun h => by cases h), fun h => absurd (n15.symm.trans h) (by simp)⟩
            · have n15 : L 15 = false := not_yet hcl 15 hL rfl (by kernel_rfl)
              have hG := hI.go n15
              have hb := hG.bel
              have h5 : L 5 = true := done_of hw 5 (by kernel_rfl)
              have e74 : b.tmps[74]?.getD undef = vs 5 := hf.new 5 74 rfl h5 (by simp)
              have h7 : L 7 = true := done_of hw 7 (by kernel_rfl)
              have e76 : b.tmps[76]?.getD undef = vs 7 := hf.new 7 76 rfl h7 (by simp)
              have n3 : lv own14 con14 L 5 := ⟨rfl, h5, hL⟩
              have n7 : lv own14 con14 L 7 := ⟨rfl, h7, hL⟩
              have hr7 := (hG.own 7 n7).rd
              obtain ⟨A7, c7, e7', _, _⟩ := (hG.own 7 n7).form
              rw [e7'] at hr7 e76
              obtain ⟨v', X', hrun, ho, hg, hv⟩ := append_notes2 rfl (hG.own 5 n3) hr7 (by rw [show (xs14 q a z 5).length = (q.take a).length from rfl, HTk.out]; show (a + 1) * 40 ≤ _; omega) hG.le
              refine wp_of_run (run_exec_append (.tmp 74) (.tmp 76) 23 rfl (eval_tmp e74) (eval_tmp e76) hrun) ?_
              exact ⟨fun _ => hG.app n3 rfl ho hg hv, rd_step hI.rd (fun h => by cases h), fun h => absurd (n15.symm.trans h) (by simp)⟩
            · have n15 : L 15 = false := not_yet hcl 15 hL rfl (by kernel_rfl)
              have hG := hI.go n15
              have hb := hG.bel
              have e5 := hf.old 5 (by kernel_rfl)
              refine wp_of_run (v := .pointer (some ⟨g5, 2, none⟩)) (w' := X) (by unfold execOp; go_simp) ?_
              exact ⟨fun _ => hG.skip rfl _, rd_step hI.rd (fun _ => rfl), fun h => absurd (n15.symm.trans h) (by simp)⟩
            · have n15 : L 15 = false := not_yet hcl 15 hL rfl (by kernel_rfl)
              have hG := hI.go n15
              have hb := hG.bel
              have h9 : L 9 = true := done_of hw 9 (by kernel_rfl)
              have e78 : b.tmps[78]?.getD undef = .pointer (some ⟨g5, 2, none⟩) := (hf.new 9 78 rfl h9 (by simp)).trans (hI.rd 9 rfl h9)
              have qN := (hb.cell (cell_lt QN.out)).trans QN.out
              refine wp_of_run (v := .slice A k c) (w' := X) (by unfold execOp; go_simp) ?_
              exact ⟨fun _ => hG.skip rfl _, rd_step hI.rd (fun _ => rfl), fun h => absurd (n15.symm.trans h) (by simp)⟩
            · have n15 : L 15 = false := not_yet hcl 15 hL rfl (by kernel_rfl)
              have hG := hI.go n15
              have hb := hG.bel
              have e9 := hf.old 9 (by kernel_rfl)
              refine wp_of_run (v := .int .i64 a) (w' := X) (by unfold execOp; go_simp) ?_
              exact ⟨fun _ => hG.skip rfl _, rd_step hI.rd (fun _ => rfl), fun h => absurd (n15.symm.trans h) (by simp)⟩
            · have n15 : L 15 = false := not_yet hcl 15 hL rfl (by kernel_rfl)
              have hG := hI.go n15
              have hb := hG.bel
              have h10 : L 10 = true := done_of hw 10 (by kernel_rfl)
              have e79 : b.tmps[79]?.getD undef = .slice A k c := (hf.new 10 79 rfl h10 (by simp)).trans (hI.rd 10 rfl h10)
              have h11 : L 11 = true := done_of hw 11 (by kernel_rfl)
              have e80 : b.tmps[80]?.getD undef = .int .i64 a := (hf.new 11 80 rfl h11 (by simp)).trans (hI.rd 11 rfl h11)
              refine wp_of_run (v := .slice (if c = a then A else A.map (·.add (a * 5))) (k - a) (c - a)) (w' := X) (run_exec_slice 23 (.tmp 79) (some (.tmp 80)) none none rfl (eval_tmp e79) (by simp [eval_tmp e80]) rfl rfl (run_slice_lo hak X)) ?_
              exact ⟨fun _ => hG.skip rfl _, rd_step hI.rd (fun _ => rfl), fun h => absurd (n15.symm.trans h) (by simp)⟩
            · have n15 : L 15 = false := not_yet hcl 15 hL rfl (by kernel_rfl)
              have hG := hI.go n15
              have hb := hG.bel
              have h8 : L 8 = true := done_of hw 8 (by kernel_rfl)
              have e77 : b.tmps[77]?.getD undef = vs 8 := hf.new 8 77 rfl h8 (by simp)
              have h12 : L 12 = true := done_of hw 12 (by kernel_rfl)
              have e81 : b.tmps[81]?.getD undef = .slice (if c = a then A else A.map (·.add (a * 5))) (k - a) (c - a) := (hf.new 12 81 rfl h12 (by simp)).trans (hI.rd 12 rfl h12)
              have n3 : lv own14 con14 L 8 := ⟨rfl, h8, hL⟩
              have hr := HRd.out X hb
              obtain ⟨v', X', hrun, ho, hg, hv⟩ := append_notes2 (m := k - a) HDr.out.symm (hG.own 8 n3) hr (by rw [show (xs14 q a z 8).length = (q.take a ++ [z]).length from rfl, List.length_append, List.length_singleton, HTk.out, HDr.out]; omega) hG.le
              refine wp_of_run (run_exec_append (.tmp 77) (.tmp 81) 23 rfl (eval_tmp e77) (eval_tmp e81) hrun) ?_
              exact ⟨fun _ => hG.app n3 rfl ho hg hv, rd_step hI.rd (fun h => by cases h), fun h => absurd (n15.symm.trans h) (by simp)⟩
            · have n15 : L 15 = false := not_yet hcl 15 hL rfl (by kernel_rfl)
              have hG := hI.go n15
              have hb := hG.bel
              have e5 := hf.old 5 (by kernel_rfl)
              refine wp_of_run (v := .pointer (some ⟨g5, 2, none⟩)) (w' := X) (by unfold execOp; go_simp) ?_
              exact ⟨fun _ => hG.skip rfl _, rd_step hI.rd (fun _ => rfl), fun h => absurd (n15.symm.trans h) (by simp)⟩
            · have h13 : L 13 = true := done_of hw 13 (by kernel_rfl)
              have e82 : b.tmps[82]?.getD undef = vs 13 := hf.new 13 82 rfl h13 (by simp)
              have h14 : L 14 = true := done_of hw 14 (by kernel_rfl)
              have e83 : b.tmps[83]?.getD undef = .pointer (some ⟨g5, 2, none⟩) := (hf.new 14 83 rfl h14 (by simp)).trans (hI.rd 14 rfl h14)
              have hG := hI.go hL
              have hb := hG.bel
              have n6 : lv own14 con14 L 13 := ⟨rfl, h13, hL⟩
              have ho := hG.own 13 n6
              have rx := (hb.block _ (lt_of_block HRow.out)).trans HRow.out
              have q0 := cellOf rx 2 rfl
              have fx : X.frozen? ⟨g5, 2, none⟩ = false := by simp [World.frozen?, rx]
              obtain ⟨A6, c6, q6, _, _⟩ := ho.form
              rw [q6] at e82
              refine wp_of_skip (w' := X.setCell ⟨g5, 2, none⟩ (.slice A6 (xs14 q a z 13).length c6)) (by unfold execOp; go_simp) ?_
              exact ⟨fun h => (by cases h), rd_step hI.rd (fun h => by cases h), fun _ => ⟨X, hb, ho, by rw [← q6]; rfl⟩⟩
          · intro vs X hI
            obtain ⟨X0, hb0, ho, rfl⟩ := hI.st rfl
            obtain ⟨A6, c6, q6, _, _⟩ := ho.form
            have rx := (hb0.block _ (lt_of_block HRow.out)).trans HRow.out
            have k1 : (X0.setCell ⟨g5, 2, none⟩ (vs 13)).heap[g5]? = some (.cells #[.int .i64 s.iv, .slice Ap s.pts.length cp, vs 13] 25) := (Joins.block_setCell rx _).trans rfl
            have hoY := (ho.other (p := ⟨g5, 2, none⟩) (lt_of_block HRow.out) (vs 13)).rd
            have hbY : Below W1.heap.size W1 (X0.setCell ⟨g5, 2, none⟩ (vs 13)) := (hbxy.trans (hb0.mono hbxy.size)).setCell hW1X _
            have hlen : (xs14 q a z 13).length = k + 1 := by
              rw [show (xs14 q a z 13) = q.take a ++ [z] ++ q.drop a from rfl, List.length_append, List.length_append, List.length_singleton, HTk.out, HDr.out]
              omega
            clear hI ho hb0 rx
            simp [fill, slotOf, Act.put]
            simp only [Exit.inBlock, Exit.then]
            rw [hlen] at q6
            rw [q6] at k1 hoY hbY ⊢
            clear q6
            generalize X0.setCell ⟨g5, 2, none⟩ (.slice A6 (k + 1) c6) = Y6 at *
            have K1 := Lib.hid k1
            have HoY := Lib.hid hoY
            have HbY := Lib.hid hbY
            clear k1 hoY hbY hlen
            generalize vs 0 = u0
            generalize vs 1 = u1
            generalize vs 2 = u2
            generalize vs 3 = u3
            generalize vs 4 = u4
            generalize vs 5 = u5
            generalize vs 6 = u6
            generalize vs 7 = u7
            generalize vs 8 = u8
            generalize vs 9 = u9
            generalize vs 10 = u10
            generalize vs 11 = u11
            generalize vs 12 = u12
            generalize vs 14 = u14
            generalize vs 15 = u15
            go_wp2
            go_roundw
            case rel => exact ⟨k + 1, A6, c6, by omega, by go_num, K1.out, by rw [HQq2.out]; exact HoY.out, HbY.out⟩
            case measure => simp [intOf]; omega
      · obtain rfl : k = s.notes.length := by omega
        have hrow := HRow0.out
        have e0 := cellOf hrow 0 (v := .int .i64 s.iv) rfl
        have e1 := cellOf hrow 1 (v := .slice Ap s.pts.length cp) rfl
        have e2 := cellOf hrow 2 (v := .slice A s.notes.length c) rfl
        have HTs := Lib.hid (show ∀ Z, Below wr.heap.size wr Z → RdSh wr.heap.size Z (.agg #[.int .i64 s.iv, .slice Ap s.pts.length cp, .slice A s.notes.length c]) (ordS s l) from fun Z h => by
          refine ⟨_, _, rfl, ((HPp.out wr hb).mono (Nat.le_trans hB hb.size)).below h, ?_⟩
          have := HRd0.out.below h
          have e : (ordS s l).notes = ordL s l s.notes.length := rfl
          rw [e]
          exact this)
        have HC2 : Hid (∀ Z : World, Below wr.heap.size wr Z → Z.cell? ⟨g5, 0, none⟩ = some (.int .i64 s.iv) ∧ Z.cell? ⟨g5, 1, none⟩ = some (.slice Ap s.pts.length cp) ∧ Z.cell? ⟨g5, 2, none⟩ = some (.slice A s.notes.length c)) :=
          Lib.hid fun Z h => ⟨(h.cell (cell_lt e0)).trans e0, (h.cell (cell_lt e1)).trans e1, (h.cell (cell_lt e2)).trans e2⟩
        have hb2 : Below wr.heap.size wr wr := Below.refl _ _
        obtain ⟨er, her⟩ : ∃ er, openE s = er := ⟨_, rfl⟩
        have her2 : openE (ordS s l) = er := (like_openE HLk.out).symm.trans her
        have hvs := errOf_good HLk.out.good
        have hvt := errOf_good HLk.out.good'
        have H1 := Lib.hid (fun (Z : World) (h : Below w.heap.size w Z) => heights_at her (HSR.out Z h) HN.out (Nat.le_trans hB h.size))
        have H2 := Lib.hid (fun (Z : World) (h : Below wr.heap.size wr Z) => heights_at her2 (HTs.out Z h) (show Named (ordS s l) from HN.out) h.size)
        have J1 := Lib.hid (fun (Z : World) (h : Below w.heap.size w Z) => highest_at her (HSR.out Z h) HN.out (Nat.le_trans hB h.size))
        have J2 := Lib.hid (fun (Z : World) (h : Below wr.heap.size wr Z) => highest_at her2 (HTs.out Z h) (show Named (ordS s l) from HN.out) h.size)
        have D1 := Lib.hid (fun (Z : World) (h : Below w.heap.size w Z) => wider_at hvs (HSR.out Z h) HN.out (Nat.le_trans hB h.size))
        have D2 := Lib.hid (fun (Z : World) (h : Below wr.heap.size wr Z) => wider_at hvt (HTs.out Z h) (show Named (ordS s l) from HN.out) h.size)
        rw [← like_heights HLk.out] at H2
        rw [← like_highest HLk.out] at J2
        have HWd := Lib.hid (show ∀ m n, IsWider s m → IsWider (ordS s l) n → m = n from fun m n hm hn => like_wider HLk.out hm hn)
        have hll := (show (heightsF s).length ≤ 1000000 by
          unfold heightsF
          split
          · simp
          · rw [spansL_len]; have := HLk.out.good.plen; omega)
        have hll2 := (show (highestF s).length ≤ 1000000 by
          unfold highestF
          split
          · simp
          · have := highL_le (openM s) s.pts.length s.pts.length; have := HLk.out.good.plen; omega)
        clear her her2 hvs hvt e0 e1 e2 hrow HRow0 HRd0
        obtain ⟨e0, e1, e2⟩ := HC2.out wr hb2
        generalize heightsF s = lh at *
        generalize highestF s = lg at *
        have HLH := Lib.hid hll
        have HLG := Lib.hid hll2
        clear hll hll2 hlt hk
        go_upto_region 15 with (go_at_call 23; (with_reducible refine Calls.mono (H1.out _ hb) ?_); rintro e X ⟨Ah1, ch1, rfl, hr1, h4⟩; have HR1 := Lib.hid (fun (Z : World) (h : Below X.heap.size X Z) => hr1.below h); clear hr1; replace hbx := hbx.trans (h4.mono hbx.size); replace hb2 := hb2.trans (h4.mono hb2.size); clear C0 C1 C2 hb h4; obtain ⟨C0, C1, C2, hb⟩ := HC.out _ hbx; have hb3 : Below X.heap.size X X := Below.refl _ _; clear e0 e1 e2; obtain ⟨e0, e1, e2⟩ := HC2.out _ hb2)
        go_upto_region 16 with (go_at_call 23; (with_reducible refine Calls.mono (H2.out _ hb2) ?_); rintro e X ⟨Ah2, ch2, rfl, hr2, h4⟩; have HR2 := Lib.hid (fun (Z : World) (h : Below X.heap.size X Z) => hr2.below h); clear hr2; replace hbx := hbx.trans (h4.mono hbx.size); replace hb2 := hb2.trans (h4.mono hb2.size); replace hb3 := hb3.trans (h4.mono hb3.size); clear C0 C1 C2 hb h4; obtain ⟨C0, C1, C2, hb⟩ := HC.out _ hbx; have hb4 : Below X.heap.size X X := Below.refl _ _; clear e0 e1 e2; obtain ⟨e0, e1, e2⟩ := HC2.out _ hb2)
        go_upto_region 17 with (go_at_call 28; (with_reducible refine Calls.mono (J1.out _ hb) ?_); rintro e X ⟨Ag1, cg1, rfl, hr3, h4⟩; have HR3 := Lib.hid (fun (Z : World) (h : Below X.heap.size X Z) => hr3.below h); clear hr3; replace hbx := hbx.trans (h4.mono hbx.size); replace hb2 := hb2.trans (h4.mono hb2.size); replace hb3 := hb3.trans (h4.mono hb3.size); replace hb4 := hb4.trans (h4.mono hb4.size); clear C0 C1 C2 hb h4; obtain ⟨C0, C1, C2, hb⟩ := HC.out _ hbx; have hb5 : Below X.heap.size X X := Below.refl _ _; clear e0 e1 e2; obtain ⟨e0, e1, e2⟩ := HC2.out _ hb2)
        go_upto_region 18 with (go_at_call 28; (with_reducible refine Calls.mono (J2.out _ hb2) ?_); rintro e X ⟨Ag2, cg2, rfl, hr4, h4⟩; have HR4 := Lib.hid (fun (Z : World) (h : Below X.heap.size X Z) => hr4.below h); clear hr4; replace hbx := hbx.trans (h4.mono hbx.size); replace hb2 := hb2.trans (h4.mono hb2.size); replace hb3 := hb3.trans (h4.mono hb3.size); replace hb4 := hb4.trans (h4.mono hb4.size); replace hb5 := hb5.trans (h4.mono hb5.size); clear C0 C1 C2 hb h4; obtain ⟨C0, C1, C2, hb⟩ := HC.out _ hbx; have hb6 : Below X.heap.size X X := Below.refl _ _; clear e0 e1 e2; obtain ⟨e0, e1, e2⟩ := HC2.out _ hb2)
        go_upto_region 19 with (go_at_call 35; (with_reducible refine Calls.mono (D1.out _ hb) ?_); rintro e X ⟨m1, rfl, hw1, h4⟩; have Wd1 := Lib.hid hw1; clear hw1; replace hbx := hbx.trans (h4.mono hbx.size); replace hb2 := hb2.trans (h4.mono hb2.size); replace hb3 := hb3.trans (h4.mono hb3.size); replace hb4 := hb4.trans (h4.mono hb4.size); replace hb5 := hb5.trans (h4.mono hb5.size); replace hb6 := hb6.trans (h4.mono hb6.size); clear C0 C1 C2 hb h4; obtain ⟨C0, C1, C2, hb⟩ := HC.out _ hbx; clear e0 e1 e2; obtain ⟨e0, e1, e2⟩ := HC2.out _ hb2)
        go_upto_region 20 with (go_at_call 35; (with_reducible refine Calls.mono (D2.out _ hb2) ?_); rintro e X ⟨m2, rfl, hw2, h4⟩; have Wd2 := Lib.hid hw2; clear hw2; replace hbx := hbx.trans (h4.mono hbx.size); replace hb2 := hb2.trans (h4.mono hb2.size); replace hb3 := hb3.trans (h4.mono hb3.size); replace hb4 := hb4.trans (h4.mono hb4.size); replace hb5 := hb5.trans (h4.mono hb5.size); replace hb6 := hb6.trans (h4.mono hb6.size); clear C0 C1 C2 hb h4; obtain ⟨C0, C1, C2, hb⟩ := HC.out _ hbx; clear e0 e1 e2; obtain ⟨e0, e1, e2⟩ := HC2.out _ hb2)
        obtain rfl := HWd.out _ _ Wd1.out Wd2.out
        have HSp := Lib.hid (show ∀ Z, Below X.heap.size X Z → Calls Tryz.prog 25 #[.slice Ah1 lh.length ch1, .slice Ah2 lh.length ch2] Z fun e w' => e = .returned (.bool true) ∧ Below Z.heap.size Z w' from fun Z h => by
          refine (spans_any (HR1.out Z (hb3.trans (h.mono hb3.size))) (HR2.out Z (hb4.trans (h.mono hb4.size))) HLH.out).mono ?_
          rintro e w' ⟨rfl, hq⟩
          rw [decide_eq_true rfl]
          exact ⟨rfl, hq.below _⟩)
        have HIn := Lib.hid (show ∀ Z, Below X.heap.size X Z → Calls Tryz.prog 30 #[.slice Ag1 lg.length cg1, .slice Ag2 lg.length cg2] Z fun e w' => e = .returned (.bool true) ∧ Below Z.heap.size Z w' from fun Z h => by
          refine (ints_any (HR3.out Z (hb5.trans (h.mono hb5.size))) (HR4.out Z (hb6.trans (h.mono hb6.size))) HLG.out).mono ?_
          rintro e w' ⟨rfl, hq⟩
          rw [decide_eq_true rfl]
          exact ⟨rfl, hq.below _⟩)
        clear e0 e1 e2 hb2 hb3 hb4 hb5 hb6
        have hbz : Below X.heap.size X X := Below.refl _ _
        go_wp2_with (first | (go_at_call 25; (with_reducible refine Calls.mono (HSp.out _ hbz) ?_); rintro e X ⟨rfl, h4⟩; replace hbx := hbx.trans (h4.mono hbx.size); replace hbz := hbz.trans (h4.mono hbz.size); clear C0 C1 C2 hb h4; obtain ⟨C0, C1, C2, hb⟩ := HC.out _ hbx) | (go_at_call 30; (with_reducible refine Calls.mono (HIn.out _ hbz) ?_); rintro e X ⟨rfl, h4⟩; replace hbx := hbx.trans (h4.mono hbx.size); replace hbz := hbz.trans (h4.mono hbz.size); clear C0 C1 C2 hb h4; obtain ⟨C0, C1, C2, hb⟩ := HC.out _ hbx) | (go_at_call 20; (with_reducible refine Calls.mono (HA.out _ hb) ?_); rintro e X ⟨rfl, h4⟩; replace hbx := hbx.trans (h4.mono hbx.size); replace hbz := hbz.trans (h4.mono hbz.size); clear C0 C1 C2 hb h4; obtain ⟨C0, C1, C2, hb⟩ := HC.out _ hbx))
        go_ret
        exact ⟨rfl, hb⟩
  · have hd : decide (errOf s = 0) = false := decide_eq_false hv
    rw [hd] at HV
    clear hd hv
    go_wp2_with (first | (go_at_call 44; (with_reducible refine Calls.mono (HV.out _ hb) ?_); rintro e X ⟨rfl, h4⟩; replace hbx := hbx.trans (h4.mono hbx.size); clear C0 C1 C2 hb h4; obtain ⟨C0, C1, C2, hb⟩ := HC.out _ hbx) | (go_at_call 20; (with_reducible refine Calls.mono (HA.out _ hb) ?_); rintro e X ⟨rfl, h4⟩; replace hbx := hbx.trans (h4.mono hbx.size); clear C0 C1 C2 hb h4; obtain ⟨C0, C1, C2, hb⟩ := HC.out _ hbx))
    go_ret
    exact ⟨rfl, hb⟩
end Go.Proofs.YtajdgdelhlfniaaGreatDoor
