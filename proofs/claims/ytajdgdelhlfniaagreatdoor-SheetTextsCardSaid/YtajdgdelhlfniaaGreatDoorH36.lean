/- Walks of the reference of the layer sheet: row. -/
import Derived.Test.YtajdgdelhlfniaaGreatDoorH33
import Derived.Test.YtajdgdelhlfniaaGreatDoorH34
import Derived.Test.YtajdgdelhlfniaaGreatDoorH35
import Derived.Test.YtajdgdelhlfniaaGreatDoorH25
set_option linter.unusedSimpArgs false
set_option linter.unusedVariables false
namespace Go.Proofs.YtajdgdelhlfniaaGreatDoor
open Go.RowKit

def plcF (pts : List ByteArray) (x : ByteArray) : Int := idxOf pts.length fun i => (pts[i]?.getD ByteArray.empty).toList == x.toList
def rowF (s : ShR) (ws : List ByteArray) : Option ShR :=
  if wd ws 0 = wPoint ∧ ws.length = 2 then some (addP s (wd ws 1))
  else if ws.length < 3 then none
  else if wd ws 0 = wSpot then (if ws.length = 4 then some (addN s ⟨1, plcF s.pts (wd ws 1), 0, signedF (wd ws 2), signedF (wd ws 3)⟩) else none)
  else if wd ws 0 = wContour then (if ws.length = 4 then some (addN s ⟨2, plcF s.pts (wd ws 1), 0, signedF (wd ws 2), signedF (wd ws 3)⟩) else none)
  else if wd ws 0 = wLake then (if ws.length = 3 then some (addN s ⟨3, plcF s.pts (wd ws 1), plcF s.pts (wd ws 2), 0, 0⟩) else none)
  else if wd ws 0 = wSlope then (if ws.length = 5 then some (addN s ⟨4, plcF s.pts (wd ws 1), plcF s.pts (wd ws 2), signedF (wd ws 3), signedF (wd ws 4)⟩) else none)
  else none
theorem load25 {w : World} {g : Nat} {T : TypeId} {x y z : Value} (h : w.heap[g]? = some (.cells #[x, y, z] T)) : (loadVar 25 ⟨g, 0, none⟩).run Tryz.prog w = .ok (.agg #[x, y, z]) w :=
  run_loadVar_row w g T 25 _ (0, 0) _ h Tryz.underlying25 rfl (by kernel_rfl)
theorem results88 {w : World} {g : Nat} {x y z : Value} {b : Bool} {tmps : Array Value} (h1 : w.heap[g]? = some (.cells #[x, y, z] 25)) (t1 : tmps[4]?.getD undef = .pointer (some ⟨g, 0, none⟩)) (t2 : tmps[5]?.getD undef = .bool b) :
    (results Tryz.f88 tmps).run Tryz.prog w = .ok (.tuple #[.agg #[x, y, z], .bool b]) w := by
  have hl := load25 h1
  clear h1
  simp [results, Tryz.results88, t1, t2, asAddr, hl]
def shV (iv : Int) (A1 : Option Addr) (n1 c1 : Nat) (A2 : Option Addr) (n2 c2 : Nat) : Value := .agg #[.int .i64 iv, .slice A1 n1 c1, .slice A2 n2 c2]
def RowQ (s : ShR) (ws : List ByteArray) (w : World) (e : Ending) (w' : World) : Prop := ∃ iv A1 n1 c1 A2 n2 c2, e = .returned (.tuple #[shV iv A1 n1 c1 A2 n2 c2, .bool (rowF s ws).isSome]) ∧ (∀ t, rowF s ws = some t → RdSh w'.heap.size w' (shV iv A1 n1 c1 A2 n2 c2) t) ∧ Below w.heap.size w w'
theorem rowQ_none {s : ShR} {ws : List ByteArray} {w w' : World} {iv : Int} {A1 A2 : Option Addr} {n1 c1 n2 c2 : Nat} (h : rowF s ws = none) (hb : Below w.heap.size w w') : RowQ s ws w (.returned (.tuple #[.agg #[.int .i64 iv, .slice A1 n1 c1, .slice A2 n2 c2], .bool false])) w' := ⟨iv, A1, n1, c1, A2, n2, c2, by rw [h]; rfl, fun t ht => (by rw [h] at ht; cases ht), hb⟩
theorem word_at {B gw c : Nat} {w : World} {ws : List ByteArray} (h : Rd StrAt 1 B w (.slice (some ⟨gw, 0, none⟩) ws.length c) ws) {i : Nat} (hi : i < ws.length) : w.cell? ⟨gw, i, none⟩ = some (.string (wd ws i)) := by
  obtain ⟨ad, e, _, hc⟩ := h.str hi
  injection e with e
  subst e
  have hadd : (⟨gw, 0, none⟩ : Addr).add i = ⟨gw, i, none⟩ := by unfold Addr.add; split <;> simp_all
  rw [hadd] at hc
  exact hc
structure RowIn (B Bw : Nat) (w : World) (Ap An : Option Addr) (cp cn gw cw : Nat) (s : ShR) (ws : List ByteArray) : Prop where
  sh : RdSh B w (.agg #[.int .i64 s.iv, .slice Ap s.pts.length cp, .slice An s.notes.length cn]) s
  hB : B ≤ w.heap.size
  wsr : Rd StrAt 1 Bw w (.slice (some ⟨gw, 0, none⟩) ws.length cw) ws
  hBw : Bw ≤ w.heap.size
  one : 1 ≤ ws.length
  few : ws.length ≤ 100000
  size : ∀ x ∈ ws, x.size ≤ 100000
  pts : s.pts.length ≤ 50000
  nts : s.notes.length ≤ 50000
theorem rowQ_some {s t : ShR} {ws : List ByteArray} {w w' : World} {iv : Int} {A1 A2 : Option Addr} {n1 c1 n2 c2 : Nat} (h : rowF s ws = some t) (hv : RdSh w'.heap.size w' (.agg #[.int .i64 iv, .slice A1 n1 c1, .slice A2 n2 c2]) t) (hb : Below w.heap.size w w') : RowQ s ws w (.returned (.tuple #[.agg #[.int .i64 iv, .slice A1 n1 c1, .slice A2 n2 c2], .bool true])) w' := ⟨iv, A1, n1, c1, A2, n2, c2, by rw [h]; rfl, fun u hu => (by rw [h] at hu; cases hu; exact hv), hb⟩
theorem wd_size {B Bw : Nat} {w : World} {Ap An : Option Addr} {cp cn gw cw : Nat} {s : ShR} {ws : List ByteArray} (h : RowIn B Bw w Ap An cp cn gw cw s ws) (i : Nat) : (wd ws i).size ≤ 1000000 := by
  unfold wd
  cases hi : ws[i]? with
  | none => simp
  | some x => exact Nat.le_trans (h.size x (List.mem_of_getElem? hi)) (by omega)
theorem renter93 : ∀ args w, (callFunc 93 args).run Tryz.prog w = .ok (.enter 93 args) w := enters_of Tryz.func93 (by kernel_rfl) rfl
theorem run_slice_lo22 {A : Option Addr} {k c a : Nat} (h : a ≤ k) (w : World) : (Instr.sliceAt 22 (.slice A k c) (some (.int .i64 a)) none none).run Tryz.prog w = .ok (.slice (if c = a then A else A.map (·.add (a * 1))) (k - a) (c - a)) w := by
  have hs : (Go.sizeOf 9).run Tryz.prog w = .ok 1 w := by kernel_rfl
  have hb : (Instr.sliceBounds true k c (some (.int .i64 a)) none none).run Tryz.prog w = .ok (a, k, c) w := by
    unfold Instr.sliceBounds Instr.sliceBound
    simp [asIntOf]
    intro h2
    omega
  unfold Instr.sliceAt Instr.slice
  simp only [Sem.run_bind, run_underlying Tryz.underlying22, Result.andThen_ok, hb, hs, Sem.run_pure]
theorem run_exec_sliceR {P : Program} {o : Oper} {a : Act} {w w' : World} (t : TypeId) (x : Operand) (lo hi mx : Option Operand) (ho : o.op = .slice t x lo hi mx) {vx : Value} {vlo vhi vmx : Option Value} (h0 : a.eval x = vx) (h1 : lo.map a.eval = vlo) (h2 : hi.map a.eval = vhi) (h3 : mx.map a.eval = vmx) {v : Value}
    (hr : (Instr.sliceAt t vx vlo vhi vmx).run P w = .ok v w') : (execOp a.eval o).run P w = .ok (.value v) w' := by
  subst h0 h1 h2 h3
  unfold execOp
  rw [ho]
  simp only [Sem.run_bind, Sem.run_pure, hr, Result.andThen_ok]
/-- a region that only reads, but for one store -/
structure StI (W : World) (p : Addr) (u : Value) (il : Nat) (val : Nat → Value) (L : Nat → Bool) (vs : Nat → Value) (X : World) : Prop where
  vals : ∀ k, k ≠ il → L k = true → vs k = val k
  unst : L il = false → X = W.drew
  done : L il = true → X = W.drew.setCell p u
theorem StI.start {W : World} {p : Addr} {u : Value} {il : Nat} {val : Nat → Value} : StI W p u il val (fun _ => false) (fun _ => undef) W.drew := ⟨fun _ _ h => (by cases h), fun _ => rfl, fun h => (by cases h)⟩
theorem StI.read {W : World} {p : Addr} {u : Value} {il : Nat} {val : Nat → Value} {L : Nat → Bool} {vs : Nat → Value} {X : World} {i : Nat} {v : Value} (h : StI W p u il val L vs X) (hi : i ≠ il) (hv : v = val i) : StI W p u il val (updB L i) (updV vs i v) X := by
  subst hv
  refine ⟨fun k h1 h2 => ?_, fun h1 => ?_, fun h1 => ?_⟩
  · by_cases e : k = i
    · subst e; rw [updV_self]
    · rw [updV_other _ _ e]
      rw [updB_other _ e] at h2
      exact h.vals k h1 h2
  · rw [updB_other _ (Ne.symm hi)] at h1; exact h.unst h1
  · rw [updB_other _ (Ne.symm hi)] at h1; exact h.done h1
theorem StI.store {W : World} {p : Addr} {u : Value} {il : Nat} {val : Nat → Value} {L : Nat → Bool} {vs : Nat → Value} {v : Value} (h : StI W p u il val L vs W.drew) : StI W p u il val (updB L il) (updV vs il v) (W.drew.setCell p u) := by
  refine ⟨fun k h1 h2 => ?_, fun h1 => ?_, fun _ => rfl⟩
  · rw [updV_other _ _ h1]
    rw [updB_other _ h1] at h2
    exact h.vals k h1 h2
  · rw [updB_self] at h1; cases h1
set_option maxRecDepth 100000 in
set_option maxHeartbeats 4000000 in
theorem row_short {B Bw : Nat} {w : World} {Ap An : Option Addr} {cp cn gw cw : Nat} {s : ShR} {ws : List ByteArray} (h : RowIn B Bw w Ap An cp cn gw cw s ws) (h1 : ¬ (wd ws 0 = wPoint ∧ ws.length = 2)) (h2 : ws.length < 3) : Calls Tryz.prog 88 #[.agg #[.int .i64 s.iv, .slice Ap s.pts.length cp, .slice An s.notes.length cn], .slice (some ⟨gw, 0, none⟩) ws.length cw] w fun e w' => RowQ s ws w e w' := by
  have hin := Lib.hid h
  obtain ⟨vp', vn', ehs, hp, hno⟩ := h.sh
  have hB := h.hB
  have hone := h.one
  simp at ehs
  obtain ⟨rfl, rfl⟩ := ehs
  have hcw : ws.length ≤ cw := by obtain ⟨A0, c0, e0, h1, _⟩ := h.wsr; cases e0; exact h1
  obtain ⟨W1, hW1, r1, z1, b1⟩ := box_any w #[.int .i64 s.iv, .slice Ap s.pts.length cp, .slice An s.notes.length cn] 25
  obtain ⟨W2, hW2, r2, z2, b2⟩ := box_any W1 #[.int .i64 0, .slice none 0 0, .slice none 0 0] 25
  have b12 := b1.trans (b2.mono b1.size)
  have q1 := (b2.block _ (by omega)).trans r1
  rw [z1] at r2
  have HBY := Lib.hid b12
  have HZ := Lib.hid (show W2.heap.size = w.heap.size + 2 by omega)
  have HC : Hid (∀ Z : World, Below W2.heap.size W2 Z → Z.cell? ⟨w.heap.size, 0, none⟩ = some (.int .i64 s.iv) ∧ Z.cell? ⟨w.heap.size, 1, none⟩ = some (.slice Ap s.pts.length cp) ∧ Z.cell? ⟨w.heap.size, 2, none⟩ = some (.slice An s.notes.length cn) ∧
      Z.heap[w.heap.size]? = some (.cells #[.int .i64 s.iv, .slice Ap s.pts.length cp, .slice An s.notes.length cn] 25) ∧ Z.heap[w.heap.size + 1]? = some (.cells #[.int .i64 0, .slice none 0 0, .slice none 0 0] 25) ∧ Below w.heap.size w Z) :=
    Lib.hid fun Z h => by
      have j1 := (h.block _ (lt_of_block q1)).trans q1
      have j2 := (h.block _ (lt_of_block r2)).trans r2
      exact ⟨cellOf j1 0 rfl, cellOf j1 1 rfl, cellOf j1 2 rfl, j1, j2, HBY.out.trans (h.mono HBY.out.size)⟩
  have HW : Hid (∀ (Z : World), Below w.heap.size w Z → ∀ i, i < ws.length → Z.cell? ⟨gw, i, none⟩ = some (.string (wd ws i))) := Lib.hid fun Z hZ i hi => word_at (hin.out.wsr.below (hZ.mono hin.out.hBw)) hi
  have HPl : Hid (∀ (Z : World), Below w.heap.size w Z → ∀ x, Calls Tryz.prog 93 #[.slice Ap s.pts.length cp, .string x] Z fun e w' => e = .returned (.int .i64 (plcF s.pts x)) ∧ Z = w') := Lib.hid fun Z hZ x => (place_any x (hp.below (hZ.mono hB))).mono fun e w' ⟨h1, h2⟩ => ⟨h1, h2.symm⟩
  have HPp : Hid (∀ (Z : World), Below w.heap.size w Z → Rd StrAt 1 B Z (.slice Ap s.pts.length cp) s.pts) := Lib.hid fun Z hZ => hp.below (hZ.mono hB)
  have HNn : Hid (∀ (Z : World), Below w.heap.size w Z → Rd NoteAt 5 B Z (.slice An s.notes.length cn) s.notes) := Lib.hid fun Z hZ => hno.below (hZ.mono hB)
  have hbx : Below W2.heap.size W2 W2 := Below.refl _ _
  obtain ⟨C0, C1, C2, R1, R4, hb⟩ := HC.out _ hbx
  have X0 := HW.out _ hb 0 (by omega)
  have Hr1 := Lib.hid R1
  have Hr4 := Lib.hid R4
  clear h r1 r2 z1 z2 b1 b2 b12 q1 hp hno R1 R4
  have HR := Lib.hid (show rowF s ws = none by unfold rowF; rw [if_neg h1, if_pos h2])
  have h3 : ((ws.length : Int) < 3) := by omega
  by_cases hx : wd ws 0 = wPoint
  · have h4 : ((ws.length : Int) == 2) = false := by
      have : ws.length ≠ 2 := fun e => h1 ⟨hx, e⟩
      simp; omega
    rw [hx] at X0
    unfold wPoint at X0
    clear hx h1
    go_enter Tryz.func88, Tryz.ntmps88
    go_upto_region 1 with (fail)
    rw [← hW1, ← hW2]
    clear hW1 hW2
    go_wp2_with (refine wpList_store_row rfl 25 (.tmp 4) (.tmp 32) rfl (w.heap.size + 1) #[.int .i64 s.iv, .slice Ap s.pts.length cp, .slice An s.notes.length cn] rfl rfl 25 _ Hr4.out (by kernel_rfl) rfl (by simp [Value.oneCell']) ?_)
    have k4 := setRow_heap W2 (w.heap.size + 1) _ #[.int .i64 s.iv, .slice Ap s.pts.length cp, .slice An s.notes.length cn] 25 (0, 0) Hr4.out
    exact bodyPost_ret (results88 k4 rfl rfl) rfl (rowQ_none HR.out (hb.trans (setRow_below _ (by omega))))
  · unfold wPoint at hx
    clear h1
    have b0 := ne_list hx
    generalize wd ws 0 = x at *
    clear hx
    go_enter Tryz.func88, Tryz.ntmps88
    go_upto_region 1 with (fail)
    rw [← hW1, ← hW2]
    clear hW1 hW2
    go_wp2_with (refine wpList_store_row rfl 25 (.tmp 4) (.tmp 32) rfl (w.heap.size + 1) #[.int .i64 s.iv, .slice Ap s.pts.length cp, .slice An s.notes.length cn] rfl rfl 25 _ Hr4.out (by kernel_rfl) rfl (by simp [Value.oneCell']) ?_)
    have k4 := setRow_heap W2 (w.heap.size + 1) _ #[.int .i64 s.iv, .slice Ap s.pts.length cp, .slice An s.notes.length cn] 25 (0, 0) Hr4.out
    exact bodyPost_ret (results88 k4 rfl rfl) rfl (rowQ_none HR.out (hb.trans (setRow_below _ (by omega))))
set_option maxRecDepth 100000 in
set_option maxHeartbeats 4000000 in
theorem row_nokey {B Bw : Nat} {w : World} {Ap An : Option Addr} {cp cn gw cw : Nat} {s : ShR} {ws : List ByteArray} (h : RowIn B Bw w Ap An cp cn gw cw s ws) (hl : 3 ≤ ws.length) (h3 : ¬ wd ws 0 = wSpot) (h4 : ¬ wd ws 0 = wContour) (h5 : ¬ wd ws 0 = wLake) (h6 : ¬ wd ws 0 = wSlope) : Calls Tryz.prog 88 #[.agg #[.int .i64 s.iv, .slice Ap s.pts.length cp, .slice An s.notes.length cn], .slice (some ⟨gw, 0, none⟩) ws.length cw] w fun e w' => RowQ s ws w e w' := by
  have hin := Lib.hid h
  obtain ⟨vp', vn', ehs, hp, hno⟩ := h.sh
  have hB := h.hB
  have hone := h.one
  simp at ehs
  obtain ⟨rfl, rfl⟩ := ehs
  have hcw : ws.length ≤ cw := by obtain ⟨A0, c0, e0, h1, _⟩ := h.wsr; cases e0; exact h1
  obtain ⟨W1, hW1, r1, z1, b1⟩ := box_any w #[.int .i64 s.iv, .slice Ap s.pts.length cp, .slice An s.notes.length cn] 25
  obtain ⟨W2, hW2, r2, z2, b2⟩ := box_any W1 #[.int .i64 0, .slice none 0 0, .slice none 0 0] 25
  have b12 := b1.trans (b2.mono b1.size)
  have q1 := (b2.block _ (by omega)).trans r1
  rw [z1] at r2
  have HBY := Lib.hid b12
  have HZ := Lib.hid (show W2.heap.size = w.heap.size + 2 by omega)
  have HC : Hid (∀ Z : World, Below W2.heap.size W2 Z → Z.cell? ⟨w.heap.size, 0, none⟩ = some (.int .i64 s.iv) ∧ Z.cell? ⟨w.heap.size, 1, none⟩ = some (.slice Ap s.pts.length cp) ∧ Z.cell? ⟨w.heap.size, 2, none⟩ = some (.slice An s.notes.length cn) ∧
      Z.heap[w.heap.size]? = some (.cells #[.int .i64 s.iv, .slice Ap s.pts.length cp, .slice An s.notes.length cn] 25) ∧ Z.heap[w.heap.size + 1]? = some (.cells #[.int .i64 0, .slice none 0 0, .slice none 0 0] 25) ∧ Below w.heap.size w Z) :=
    Lib.hid fun Z h => by
      have j1 := (h.block _ (lt_of_block q1)).trans q1
      have j2 := (h.block _ (lt_of_block r2)).trans r2
      exact ⟨cellOf j1 0 rfl, cellOf j1 1 rfl, cellOf j1 2 rfl, j1, j2, HBY.out.trans (h.mono HBY.out.size)⟩
  have HW : Hid (∀ (Z : World), Below w.heap.size w Z → ∀ i, i < ws.length → Z.cell? ⟨gw, i, none⟩ = some (.string (wd ws i))) := Lib.hid fun Z hZ i hi => word_at (hin.out.wsr.below (hZ.mono hin.out.hBw)) hi
  have HPl : Hid (∀ (Z : World), Below w.heap.size w Z → ∀ x, Calls Tryz.prog 93 #[.slice Ap s.pts.length cp, .string x] Z fun e w' => e = .returned (.int .i64 (plcF s.pts x)) ∧ Z = w') := Lib.hid fun Z hZ x => (place_any x (hp.below (hZ.mono hB))).mono fun e w' ⟨h1, h2⟩ => ⟨h1, h2.symm⟩
  have HPp : Hid (∀ (Z : World), Below w.heap.size w Z → Rd StrAt 1 B Z (.slice Ap s.pts.length cp) s.pts) := Lib.hid fun Z hZ => hp.below (hZ.mono hB)
  have HNn : Hid (∀ (Z : World), Below w.heap.size w Z → Rd NoteAt 5 B Z (.slice An s.notes.length cn) s.notes) := Lib.hid fun Z hZ => hno.below (hZ.mono hB)
  have hbx : Below W2.heap.size W2 W2 := Below.refl _ _
  obtain ⟨C0, C1, C2, R1, R4, hb⟩ := HC.out _ hbx
  have X0 := HW.out _ hb 0 (by omega)
  have Hr1 := Lib.hid R1
  have Hr4 := Lib.hid R4
  clear h r1 r2 z1 z2 b1 b2 b12 q1 hp hno R1 R4
  have HR := Lib.hid (show rowF s ws = none by unfold rowF; rw [if_neg (fun e => by omega), if_neg (by omega), if_neg h3, if_neg h4, if_neg h5, if_neg h6])
  have hn3 : ¬ ((ws.length : Int) < 3) := by omega
  have hn2 : ((ws.length : Int) == 2) = false := by simp; omega
  have hc2 : ¬ cw = 2 := by omega
  by_cases hx : wd ws 0 = wPoint
  · have HX0 := Lib.hid (show ∀ (Z : World), Below w.heap.size w Z → Z.cell? ⟨gw, 0, none⟩ = some (.string ⟨#[112, 111, 105, 110, 116]⟩) from fun Z hZ => by rw [HW.out Z hZ 0 (by omega), hx]; rfl)
    replace X0 := HX0.out _ hb
    clear hx h3 h4 h5 h6
    go_enter Tryz.func88, Tryz.ntmps88
    go_upto_region 1 with (fail)
    rw [← hW1, ← hW2]
    clear hW1 hW2
    go_upto_region 6 with (fail)
    have X1 := Lib.hid (HW.out _ hb 1 (by omega))
    have HP1 := Lib.hid (show ∀ Z, Below w.heap.size w Z → Calls Tryz.prog 93 #[.slice Ap s.pts.length cp, .string (wd ws 1)] Z fun e w' => e = .returned (.int .i64 (plcF s.pts (wd ws 1))) ∧ Z = w' from fun Z hZ => HPl.out Z hZ _)
    have Hb := Lib.hid hb
    have Q1 := Lib.hid C1
    generalize plcF s.pts (wd ws 1) = pa at *
    generalize wd ws 1 = x1 at *
    have hl1 : ¬ ((ws.length : Int) ≤ 1) := by omega
    have hl2 : 1 < ws.length := by omega
    refine wp_region_ghost (AlI W2 (fun jj => ([.pointer (some ⟨w.heap.size, 1, none⟩), .slice Ap s.pts.length cp, .slice (some ⟨gw, 0, none⟩) ws.length cw, .pointer (some ⟨gw, 1, none⟩), .string x1, .int .i64 pa, .agg #[.int .i64 0, .int .i64 pa, .int .i64 0, .int .i64 0, .int .i64 0], undef, undef] : List Value).getD jj undef) 7 8 #[.int .i64 0, .int .i64 0, .int .i64 0, .int .i64 0, .int .i64 0] #[.int .i64 0, .int .i64 pa, .int .i64 0, .int .i64 0, .int .i64 0] 69) (by kernel_rfl) (by kernel_rfl) AlI.start ?_ ?_
    · refine ⟨?_, ?_, ?_, ?_, ?_, ?_, ?_, ?_, ?_, trivial⟩
      all_goals
        intro L vs X b hL hw hcl hI hf
      · have hb := hI.bel
        have e2 := hf.old 2 (by kernel_rfl)
        refine wp_of_run (v := .pointer (some ⟨w.heap.size, 1, none⟩)) (w' := X) (by unfold execOp; go_simp) ?_
        exact hI.read (by omega) (by omega) rfl
      · have hb := hI.bel
        have h0 : L 0 = true := done_of hw 0 (by kernel_rfl)
        have e33 : b.tmps[33]?.getD undef = .pointer (some ⟨w.heap.size, 1, none⟩) := (hf.new 0 33 rfl h0 (by simp)).trans (hI.vals 0 (by omega) (by omega) h0)
        have qQ1 := (hb.cell (cell_lt Q1.out)).trans Q1.out
        refine wp_of_run (v := .slice Ap s.pts.length cp) (w' := X) (by unfold execOp; go_simp) ?_
        exact hI.read (by omega) (by omega) rfl
      · have hb := hI.bel
        have e1 := hf.old 1 (by kernel_rfl)
        refine wp_of_run (v := .slice (some ⟨gw, 0, none⟩) ws.length cw) (w' := X) (by unfold execOp; go_simp) ?_
        exact hI.read (by omega) (by omega) rfl
      · have hb := hI.bel
        have h2 : L 2 = true := done_of hw 2 (by kernel_rfl)
        have e35 : b.tmps[35]?.getD undef = .slice (some ⟨gw, 0, none⟩) ws.length cw := (hf.new 2 35 rfl h2 (by simp)).trans (hI.vals 2 (by omega) (by omega) h2)
        refine wp_of_run (v := .pointer (some ⟨gw, 1, none⟩)) (w' := X) (by unfold execOp; go_simp) ?_
        exact hI.read (by omega) (by omega) rfl
      · have hb := hI.bel
        have h3 : L 3 = true := done_of hw 3 (by kernel_rfl)
        have e36 : b.tmps[36]?.getD undef = .pointer (some ⟨gw, 1, none⟩) := (hf.new 3 36 rfl h3 (by simp)).trans (hI.vals 3 (by omega) (by omega) h3)
        have qX1 := (hb.cell (cell_lt X1.out)).trans X1.out
        refine wp_of_run (v := .string x1) (w' := X) (by unfold execOp; go_simp) ?_
        exact hI.read (by omega) (by omega) rfl
      · have hb := hI.bel
        have h1 : L 1 = true := done_of hw 1 (by kernel_rfl)
        have e34 : b.tmps[34]?.getD undef = .slice Ap s.pts.length cp := (hf.new 1 34 rfl h1 (by simp)).trans (hI.vals 1 (by omega) (by omega) h1)
        have h4 : L 4 = true := done_of hw 4 (by kernel_rfl)
        have e37 : b.tmps[37]?.getD undef = .string x1 := (hf.new 4 37 rfl h4 (by simp)).trans (hI.vals 4 (by omega) (by omega) h4)
        refine wp_of_call (f := 93) (args := #[.slice Ap s.pts.length cp, .string x1]) (run_call_clo (.func 93) _ _ rfl (c := #[]) rfl renter93 (by simp [eval_tmp e34, eval_tmp e37])) ?_
        refine (HP1.out X (Hb.out.trans (hb.mono Hb.out.size))).mono ?_
        rintro e wz ⟨rfl, hz⟩
        subst hz
        exact ⟨_, rfl, hI.read (by omega) (by omega) rfl⟩
      · have hb := hI.bel
        have h5 : L 5 = true := done_of hw 5 (by kernel_rfl)
        have e38 : b.tmps[38]?.getD undef = .int .i64 pa := (hf.new 5 38 rfl h5 (by simp)).trans (hI.vals 5 (by omega) (by omega) h5)
        refine wp_of_run (v := .agg #[.int .i64 0, .int .i64 pa, .int .i64 0, .int .i64 0, .int .i64 0]) (w' := X) (by unfold execOp; go_simp) ?_
        exact hI.read (by omega) (by omega) rfl
      · have hb := hI.bel
        have n8 : L 8 = false := not_yet hcl 8 hL rfl (by kernel_rfl)
        refine wp_of_run (v := .pointer (some ⟨X.heap.size, 0, none⟩)) (w' := X.alloc (.cells #[.int .i64 0, .int .i64 0, .int .i64 0, .int .i64 0, .int .i64 0] 69)) (by unfold execOp; go_simp) ?_
        exact hI.alloc (by omega) n8
      · have hb := hI.bel
        have h7 : L 7 = true := done_of hw 7 (by kernel_rfl)
        have e6 : b.tmps[6]?.getD undef = vs 7 := hf.new 7 6 rfl h7 (by simp)
        have h6 : L 6 = true := done_of hw 6 (by kernel_rfl)
        have e39 : b.tmps[39]?.getD undef = .agg #[.int .i64 0, .int .i64 pa, .int .i64 0, .int .i64 0, .int .i64 0] := (hf.new 6 39 rfl h6 (by simp)).trans (hI.vals 6 (by omega) (by omega) h6)
        obtain ⟨g, q7, hg, hx⟩ := hI.unstored h7 hL
        rw [q7] at e6
        refine wp_store_row 69 (.tmp 6) (.tmp 39) rfl g #[.int .i64 0, .int .i64 pa, .int .i64 0, .int .i64 0, .int .i64 0] (eval_tmp e6) (eval_tmp e39) 69 _ hx (by kernel_rfl) rfl (by simp [Value.oneCell']) ?_
        exact ⟨_, rfl, hI.store (by omega) q7 hg hx⟩
    · intro vs X hI
      obtain ⟨gx, e6, hgx, rx⟩ := hI.al rfl
      replace rx : X.heap[gx]? = some (.cells #[.int .i64 0, .int .i64 pa, .int .i64 0, .int .i64 0, .int .i64 0] 69) := rx
      have hbX := hI.bel
      clear hI
      simp [fill, slotOf, Act.put]
      simp only [Exit.inBlock, Exit.then]
      rw [e6]
      clear e6
      generalize vs 0 = yg0
      generalize vs 1 = yg1
      generalize vs 2 = yg2
      generalize vs 3 = yg3
      generalize vs 4 = yg4
      generalize vs 5 = yg5
      generalize vs 6 = yg6
      generalize vs 7 = yg7
      generalize vs 8 = yg8
      obtain ⟨wx, rfl⟩ : ∃ wx : World, wx = X := ⟨_, rfl⟩
      replace hbx := hbx.trans (hbX.mono hbx.size)
      clear C0 C1 C2 hb X0 hbX Q1 HP1 Hb X1
      obtain ⟨C0, C1, C2, R1, R4, hb⟩ := HC.out _ hbx
      have X0 := HX0.out _ hb
      have Hr4x := Lib.hid R4
      have Hr1x := Lib.hid R1
      clear R1 R4
      clear rx
      go_wp2_with (refine wpList_store_row rfl 25 (.tmp 4) (.tmp 64) rfl (w.heap.size + 1) #[.int .i64 s.iv, .slice Ap s.pts.length cp, .slice An s.notes.length cn] rfl rfl 25 _ Hr4x.out (by kernel_rfl) rfl (by simp [Value.oneCell']) ?_)
      have k4 := setRow_heap wx (w.heap.size + 1) _ #[.int .i64 s.iv, .slice Ap s.pts.length cp, .slice An s.notes.length cn] 25 (0, 0) Hr4x.out
      exact bodyPost_ret (results88 k4 rfl rfl) rfl (rowQ_none HR.out (hb.trans (setRow_below _ (by omega))))
  · have HX0 := Lib.hid (show ∀ (Z : World), Below w.heap.size w Z → Z.cell? ⟨gw, 0, none⟩ = some (.string (wd ws 0)) from fun Z hZ => HW.out Z hZ 0 (by omega))
    unfold wPoint at hx
    unfold wSpot at h3
    unfold wContour at h4
    unfold wLake at h5
    unfold wSlope at h6
    have t0 := ne_list hx
    have t1 := ne_list h3
    have t2 := ne_list h4
    have t3 := ne_list h5
    have t4 := ne_list h6
    generalize wd ws 0 = x at *
    clear hx h3 h4 h5 h6
    go_enter Tryz.func88, Tryz.ntmps88
    go_upto_region 1 with (fail)
    rw [← hW1, ← hW2]
    clear hW1 hW2
    go_upto_region 6 with (fail)
    have X1 := Lib.hid (HW.out _ hb 1 (by omega))
    have HP1 := Lib.hid (show ∀ Z, Below w.heap.size w Z → Calls Tryz.prog 93 #[.slice Ap s.pts.length cp, .string (wd ws 1)] Z fun e w' => e = .returned (.int .i64 (plcF s.pts (wd ws 1))) ∧ Z = w' from fun Z hZ => HPl.out Z hZ _)
    have Hb := Lib.hid hb
    have Q1 := Lib.hid C1
    generalize plcF s.pts (wd ws 1) = pa at *
    generalize wd ws 1 = x1 at *
    have hl1 : ¬ ((ws.length : Int) ≤ 1) := by omega
    have hl2 : 1 < ws.length := by omega
    refine wp_region_ghost (AlI W2 (fun jj => ([.pointer (some ⟨w.heap.size, 1, none⟩), .slice Ap s.pts.length cp, .slice (some ⟨gw, 0, none⟩) ws.length cw, .pointer (some ⟨gw, 1, none⟩), .string x1, .int .i64 pa, .agg #[.int .i64 0, .int .i64 pa, .int .i64 0, .int .i64 0, .int .i64 0], undef, undef] : List Value).getD jj undef) 7 8 #[.int .i64 0, .int .i64 0, .int .i64 0, .int .i64 0, .int .i64 0] #[.int .i64 0, .int .i64 pa, .int .i64 0, .int .i64 0, .int .i64 0] 69) (by kernel_rfl) (by kernel_rfl) AlI.start ?_ ?_
    · refine ⟨?_, ?_, ?_, ?_, ?_, ?_, ?_, ?_, ?_, trivial⟩
      all_goals
        intro L vs X b hL hw hcl hI hf
      · have hb := hI.bel
        have e2 := hf.old 2 (by kernel_rfl)
        refine wp_of_run (v := .pointer (some ⟨w.heap.size, 1, none⟩)) (w' := X) (by unfold execOp; go_simp) ?_
        exact hI.read (by omega) (by omega) rfl
      · have hb := hI.bel
        have h0 : L 0 = true := done_of hw 0 (by kernel_rfl)
        have e33 : b.tmps[33]?.getD undef = .pointer (some ⟨w.heap.size, 1, none⟩) := (hf.new 0 33 rfl h0 (by simp)).trans (hI.vals 0 (by omega) (by omega) h0)
        have qQ1 := (hb.cell (cell_lt Q1.out)).trans Q1.out
        refine wp_of_run (v := .slice Ap s.pts.length cp) (w' := X) (by unfold execOp; go_simp) ?_
        exact hI.read (by omega) (by omega) rfl
      · have hb := hI.bel
        have e1 := hf.old 1 (by kernel_rfl)
        refine wp_of_run (v := .slice (some ⟨gw, 0, none⟩) ws.length cw) (w' := X) (by unfold execOp; go_simp) ?_
        exact hI.read (by omega) (by omega) rfl
      · have hb := hI.bel
        have h2 : L 2 = true := done_of hw 2 (by kernel_rfl)
        have e35 : b.tmps[35]?.getD undef = .slice (some ⟨gw, 0, none⟩) ws.length cw := (hf.new 2 35 rfl h2 (by simp)).trans (hI.vals 2 (by omega) (by omega) h2)
        refine wp_of_run (v := .pointer (some ⟨gw, 1, none⟩)) (w' := X) (by unfold execOp; go_simp) ?_
        exact hI.read (by omega) (by omega) rfl
      · have hb := hI.bel
        have h3 : L 3 = true := done_of hw 3 (by kernel_rfl)
        have e36 : b.tmps[36]?.getD undef = .pointer (some ⟨gw, 1, none⟩) := (hf.new 3 36 rfl h3 (by simp)).trans (hI.vals 3 (by omega) (by omega) h3)
        have qX1 := (hb.cell (cell_lt X1.out)).trans X1.out
        refine wp_of_run (v := .string x1) (w' := X) (by unfold execOp; go_simp) ?_
        exact hI.read (by omega) (by omega) rfl
      · have hb := hI.bel
        have h1 : L 1 = true := done_of hw 1 (by kernel_rfl)
        have e34 : b.tmps[34]?.getD undef = .slice Ap s.pts.length cp := (hf.new 1 34 rfl h1 (by simp)).trans (hI.vals 1 (by omega) (by omega) h1)
        have h4 : L 4 = true := done_of hw 4 (by kernel_rfl)
        have e37 : b.tmps[37]?.getD undef = .string x1 := (hf.new 4 37 rfl h4 (by simp)).trans (hI.vals 4 (by omega) (by omega) h4)
        refine wp_of_call (f := 93) (args := #[.slice Ap s.pts.length cp, .string x1]) (run_call_clo (.func 93) _ _ rfl (c := #[]) rfl renter93 (by simp [eval_tmp e34, eval_tmp e37])) ?_
        refine (HP1.out X (Hb.out.trans (hb.mono Hb.out.size))).mono ?_
        rintro e wz ⟨rfl, hz⟩
        subst hz
        exact ⟨_, rfl, hI.read (by omega) (by omega) rfl⟩
      · have hb := hI.bel
        have h5 : L 5 = true := done_of hw 5 (by kernel_rfl)
        have e38 : b.tmps[38]?.getD undef = .int .i64 pa := (hf.new 5 38 rfl h5 (by simp)).trans (hI.vals 5 (by omega) (by omega) h5)
        refine wp_of_run (v := .agg #[.int .i64 0, .int .i64 pa, .int .i64 0, .int .i64 0, .int .i64 0]) (w' := X) (by unfold execOp; go_simp) ?_
        exact hI.read (by omega) (by omega) rfl
      · have hb := hI.bel
        have n8 : L 8 = false := not_yet hcl 8 hL rfl (by kernel_rfl)
        refine wp_of_run (v := .pointer (some ⟨X.heap.size, 0, none⟩)) (w' := X.alloc (.cells #[.int .i64 0, .int .i64 0, .int .i64 0, .int .i64 0, .int .i64 0] 69)) (by unfold execOp; go_simp) ?_
        exact hI.alloc (by omega) n8
      · have hb := hI.bel
        have h7 : L 7 = true := done_of hw 7 (by kernel_rfl)
        have e6 : b.tmps[6]?.getD undef = vs 7 := hf.new 7 6 rfl h7 (by simp)
        have h6 : L 6 = true := done_of hw 6 (by kernel_rfl)
        have e39 : b.tmps[39]?.getD undef = .agg #[.int .i64 0, .int .i64 pa, .int .i64 0, .int .i64 0, .int .i64 0] := (hf.new 6 39 rfl h6 (by simp)).trans (hI.vals 6 (by omega) (by omega) h6)
        obtain ⟨g, q7, hg, hx⟩ := hI.unstored h7 hL
        rw [q7] at e6
        refine wp_store_row 69 (.tmp 6) (.tmp 39) rfl g #[.int .i64 0, .int .i64 pa, .int .i64 0, .int .i64 0, .int .i64 0] (eval_tmp e6) (eval_tmp e39) 69 _ hx (by kernel_rfl) rfl (by simp [Value.oneCell']) ?_
        exact ⟨_, rfl, hI.store (by omega) q7 hg hx⟩
    · intro vs X hI
      obtain ⟨gx, e6, hgx, rx⟩ := hI.al rfl
      replace rx : X.heap[gx]? = some (.cells #[.int .i64 0, .int .i64 pa, .int .i64 0, .int .i64 0, .int .i64 0] 69) := rx
      have hbX := hI.bel
      clear hI
      simp [fill, slotOf, Act.put]
      simp only [Exit.inBlock, Exit.then]
      rw [e6]
      clear e6
      generalize vs 0 = yg0
      generalize vs 1 = yg1
      generalize vs 2 = yg2
      generalize vs 3 = yg3
      generalize vs 4 = yg4
      generalize vs 5 = yg5
      generalize vs 6 = yg6
      generalize vs 7 = yg7
      generalize vs 8 = yg8
      obtain ⟨wx, rfl⟩ : ∃ wx : World, wx = X := ⟨_, rfl⟩
      replace hbx := hbx.trans (hbX.mono hbx.size)
      clear C0 C1 C2 hb X0 hbX Q1 HP1 Hb X1
      obtain ⟨C0, C1, C2, R1, R4, hb⟩ := HC.out _ hbx
      have X0 := HX0.out _ hb
      have Hr4x := Lib.hid R4
      have Hr1x := Lib.hid R1
      clear R1 R4
      clear rx
      go_wp2_with (refine wpList_store_row rfl 25 (.tmp 4) (.tmp 64) rfl (w.heap.size + 1) #[.int .i64 s.iv, .slice Ap s.pts.length cp, .slice An s.notes.length cn] rfl rfl 25 _ Hr4x.out (by kernel_rfl) rfl (by simp [Value.oneCell']) ?_)
      have k4 := setRow_heap wx (w.heap.size + 1) _ #[.int .i64 s.iv, .slice Ap s.pts.length cp, .slice An s.notes.length cn] 25 (0, 0) Hr4x.out
      exact bodyPost_ret (results88 k4 rfl rfl) rfl (rowQ_none HR.out (hb.trans (setRow_below _ (by omega))))
set_option maxRecDepth 100000 in
set_option maxHeartbeats 4000000 in
theorem row_wSpot_bad {B Bw : Nat} {w : World} {Ap An : Option Addr} {cp cn gw cw : Nat} {s : ShR} {ws : List ByteArray} (h : RowIn B Bw w Ap An cp cn gw cw s ws) (hl : 3 ≤ ws.length) (hx : wd ws 0 = wSpot) (hn : ws.length ≠ 4) : Calls Tryz.prog 88 #[.agg #[.int .i64 s.iv, .slice Ap s.pts.length cp, .slice An s.notes.length cn], .slice (some ⟨gw, 0, none⟩) ws.length cw] w fun e w' => RowQ s ws w e w' := by
  have hin := Lib.hid h
  obtain ⟨vp', vn', ehs, hp, hno⟩ := h.sh
  have hB := h.hB
  have hone := h.one
  simp at ehs
  obtain ⟨rfl, rfl⟩ := ehs
  have hcw : ws.length ≤ cw := by obtain ⟨A0, c0, e0, h1, _⟩ := h.wsr; cases e0; exact h1
  obtain ⟨W1, hW1, r1, z1, b1⟩ := box_any w #[.int .i64 s.iv, .slice Ap s.pts.length cp, .slice An s.notes.length cn] 25
  obtain ⟨W2, hW2, r2, z2, b2⟩ := box_any W1 #[.int .i64 0, .slice none 0 0, .slice none 0 0] 25
  have b12 := b1.trans (b2.mono b1.size)
  have q1 := (b2.block _ (by omega)).trans r1
  rw [z1] at r2
  have HBY := Lib.hid b12
  have HZ := Lib.hid (show W2.heap.size = w.heap.size + 2 by omega)
  have HC : Hid (∀ Z : World, Below W2.heap.size W2 Z → Z.cell? ⟨w.heap.size, 0, none⟩ = some (.int .i64 s.iv) ∧ Z.cell? ⟨w.heap.size, 1, none⟩ = some (.slice Ap s.pts.length cp) ∧ Z.cell? ⟨w.heap.size, 2, none⟩ = some (.slice An s.notes.length cn) ∧
      Z.heap[w.heap.size]? = some (.cells #[.int .i64 s.iv, .slice Ap s.pts.length cp, .slice An s.notes.length cn] 25) ∧ Z.heap[w.heap.size + 1]? = some (.cells #[.int .i64 0, .slice none 0 0, .slice none 0 0] 25) ∧ Below w.heap.size w Z) :=
    Lib.hid fun Z h => by
      have j1 := (h.block _ (lt_of_block q1)).trans q1
      have j2 := (h.block _ (lt_of_block r2)).trans r2
      exact ⟨cellOf j1 0 rfl, cellOf j1 1 rfl, cellOf j1 2 rfl, j1, j2, HBY.out.trans (h.mono HBY.out.size)⟩
  have HW : Hid (∀ (Z : World), Below w.heap.size w Z → ∀ i, i < ws.length → Z.cell? ⟨gw, i, none⟩ = some (.string (wd ws i))) := Lib.hid fun Z hZ i hi => word_at (hin.out.wsr.below (hZ.mono hin.out.hBw)) hi
  have HPl : Hid (∀ (Z : World), Below w.heap.size w Z → ∀ x, Calls Tryz.prog 93 #[.slice Ap s.pts.length cp, .string x] Z fun e w' => e = .returned (.int .i64 (plcF s.pts x)) ∧ Z = w') := Lib.hid fun Z hZ x => (place_any x (hp.below (hZ.mono hB))).mono fun e w' ⟨h1, h2⟩ => ⟨h1, h2.symm⟩
  have HPp : Hid (∀ (Z : World), Below w.heap.size w Z → Rd StrAt 1 B Z (.slice Ap s.pts.length cp) s.pts) := Lib.hid fun Z hZ => hp.below (hZ.mono hB)
  have HNn : Hid (∀ (Z : World), Below w.heap.size w Z → Rd NoteAt 5 B Z (.slice An s.notes.length cn) s.notes) := Lib.hid fun Z hZ => hno.below (hZ.mono hB)
  have hbx : Below W2.heap.size W2 W2 := Below.refl _ _
  obtain ⟨C0, C1, C2, R1, R4, hb⟩ := HC.out _ hbx
  have X0 := HW.out _ hb 0 (by omega)
  have Hr1 := Lib.hid R1
  have Hr4 := Lib.hid R4
  clear h r1 r2 z1 z2 b1 b2 b12 q1 hp hno R1 R4
  have HR := Lib.hid (show rowF s ws = none by unfold rowF; rw [if_neg (fun e => by omega), if_neg (by omega), if_pos hx, if_neg hn])
  have hn3 : ¬ ((ws.length : Int) < 3) := by omega
  have hn2 : ((ws.length : Int) == 2) = false := by simp; omega
  have hc2 : ¬ cw = 2 := by omega
  have hk : (((ws.length - 2 : Nat) : Int) != 2) = true := by simp; omega
  have HX0 := Lib.hid (show ∀ (Z : World), Below w.heap.size w Z → Z.cell? ⟨gw, 0, none⟩ = some (.string ⟨#[115, 112, 111, 116]⟩) from fun Z hZ => by rw [HW.out Z hZ 0 (by omega), hx]; rfl)
  replace X0 := HX0.out _ hb
  clear hx
  go_enter Tryz.func88, Tryz.ntmps88
  go_upto_region 1 with (fail)
  rw [← hW1, ← hW2]
  clear hW1 hW2
  go_upto_region 6 with (fail)
  have X1 := Lib.hid (HW.out _ hb 1 (by omega))
  have HP1 := Lib.hid (show ∀ Z, Below w.heap.size w Z → Calls Tryz.prog 93 #[.slice Ap s.pts.length cp, .string (wd ws 1)] Z fun e w' => e = .returned (.int .i64 (plcF s.pts (wd ws 1))) ∧ Z = w' from fun Z hZ => HPl.out Z hZ _)
  have Hb := Lib.hid hb
  have Q1 := Lib.hid C1
  generalize plcF s.pts (wd ws 1) = pa at *
  generalize wd ws 1 = x1 at *
  have hl1 : ¬ ((ws.length : Int) ≤ 1) := by omega
  have hl2 : 1 < ws.length := by omega
  refine wp_region_ghost (AlI W2 (fun jj => ([.pointer (some ⟨w.heap.size, 1, none⟩), .slice Ap s.pts.length cp, .slice (some ⟨gw, 0, none⟩) ws.length cw, .pointer (some ⟨gw, 1, none⟩), .string x1, .int .i64 pa, .agg #[.int .i64 0, .int .i64 pa, .int .i64 0, .int .i64 0, .int .i64 0], undef, undef] : List Value).getD jj undef) 7 8 #[.int .i64 0, .int .i64 0, .int .i64 0, .int .i64 0, .int .i64 0] #[.int .i64 0, .int .i64 pa, .int .i64 0, .int .i64 0, .int .i64 0] 69) (by kernel_rfl) (by kernel_rfl) AlI.start ?_ ?_
  · refine ⟨?_, ?_, ?_, ?_, ?_, ?_, ?_, ?_, ?_, trivial⟩
    all_goals
      intro L vs X b hL hw hcl hI hf
    · have hb := hI.bel
      have e2 := hf.old 2 (by kernel_rfl)
      refine wp_of_run (v := .pointer (some ⟨w.heap.size, 1, none⟩)) (w' := X) (by unfold execOp; go_simp) ?_
      exact hI.read (by omega) (by omega) rfl
    · have hb := hI.bel
      have h0 : L 0 = true := done_of hw 0 (by kernel_rfl)
      have e33 : b.tmps[33]?.getD undef = .pointer (some ⟨w.heap.size, 1, none⟩) := (hf.new 0 33 rfl h0 (by simp)).trans (hI.vals 0 (by omega) (by omega) h0)
      have qQ1 := (hb.cell (cell_lt Q1.out)).trans Q1.out
      refine wp_of_run (v := .slice Ap s.pts.length cp) (w' := X) (by unfold execOp; go_simp) ?_
      exact hI.read (by omega) (by omega) rfl
    · have hb := hI.bel
      have e1 := hf.old 1 (by kernel_rfl)
      refine wp_of_run (v := .slice (some ⟨gw, 0, none⟩) ws.length cw) (w' := X) (by unfold execOp; go_simp) ?_
      exact hI.read (by omega) (by omega) rfl
    · have hb := hI.bel
      have h2 : L 2 = true := done_of hw 2 (by kernel_rfl)
      have e35 : b.tmps[35]?.getD undef = .slice (some ⟨gw, 0, none⟩) ws.length cw := (hf.new 2 35 rfl h2 (by simp)).trans (hI.vals 2 (by omega) (by omega) h2)
      refine wp_of_run (v := .pointer (some ⟨gw, 1, none⟩)) (w' := X) (by unfold execOp; go_simp) ?_
      exact hI.read (by omega) (by omega) rfl
    · have hb := hI.bel
      have h3 : L 3 = true := done_of hw 3 (by kernel_rfl)
      have e36 : b.tmps[36]?.getD undef = .pointer (some ⟨gw, 1, none⟩) := (hf.new 3 36 rfl h3 (by simp)).trans (hI.vals 3 (by omega) (by omega) h3)
      have qX1 := (hb.cell (cell_lt X1.out)).trans X1.out
      refine wp_of_run (v := .string x1) (w' := X) (by unfold execOp; go_simp) ?_
      exact hI.read (by omega) (by omega) rfl
    · have hb := hI.bel
      have h1 : L 1 = true := done_of hw 1 (by kernel_rfl)
      have e34 : b.tmps[34]?.getD undef = .slice Ap s.pts.length cp := (hf.new 1 34 rfl h1 (by simp)).trans (hI.vals 1 (by omega) (by omega) h1)
      have h4 : L 4 = true := done_of hw 4 (by kernel_rfl)
      have e37 : b.tmps[37]?.getD undef = .string x1 := (hf.new 4 37 rfl h4 (by simp)).trans (hI.vals 4 (by omega) (by omega) h4)
      refine wp_of_call (f := 93) (args := #[.slice Ap s.pts.length cp, .string x1]) (run_call_clo (.func 93) _ _ rfl (c := #[]) rfl renter93 (by simp [eval_tmp e34, eval_tmp e37])) ?_
      refine (HP1.out X (Hb.out.trans (hb.mono Hb.out.size))).mono ?_
      rintro e wz ⟨rfl, hz⟩
      subst hz
      exact ⟨_, rfl, hI.read (by omega) (by omega) rfl⟩
    · have hb := hI.bel
      have h5 : L 5 = true := done_of hw 5 (by kernel_rfl)
      have e38 : b.tmps[38]?.getD undef = .int .i64 pa := (hf.new 5 38 rfl h5 (by simp)).trans (hI.vals 5 (by omega) (by omega) h5)
      refine wp_of_run (v := .agg #[.int .i64 0, .int .i64 pa, .int .i64 0, .int .i64 0, .int .i64 0]) (w' := X) (by unfold execOp; go_simp) ?_
      exact hI.read (by omega) (by omega) rfl
    · have hb := hI.bel
      have n8 : L 8 = false := not_yet hcl 8 hL rfl (by kernel_rfl)
      refine wp_of_run (v := .pointer (some ⟨X.heap.size, 0, none⟩)) (w' := X.alloc (.cells #[.int .i64 0, .int .i64 0, .int .i64 0, .int .i64 0, .int .i64 0] 69)) (by unfold execOp; go_simp) ?_
      exact hI.alloc (by omega) n8
    · have hb := hI.bel
      have h7 : L 7 = true := done_of hw 7 (by kernel_rfl)
      have e6 : b.tmps[6]?.getD undef = vs 7 := hf.new 7 6 rfl h7 (by simp)
      have h6 : L 6 = true := done_of hw 6 (by kernel_rfl)
      have e39 : b.tmps[39]?.getD undef = .agg #[.int .i64 0, .int .i64 pa, .int .i64 0, .int .i64 0, .int .i64 0] := (hf.new 6 39 rfl h6 (by simp)).trans (hI.vals 6 (by omega) (by omega) h6)
      obtain ⟨g, q7, hg, hx⟩ := hI.unstored h7 hL
      rw [q7] at e6
      refine wp_store_row 69 (.tmp 6) (.tmp 39) rfl g #[.int .i64 0, .int .i64 pa, .int .i64 0, .int .i64 0, .int .i64 0] (eval_tmp e6) (eval_tmp e39) 69 _ hx (by kernel_rfl) rfl (by simp [Value.oneCell']) ?_
      exact ⟨_, rfl, hI.store (by omega) q7 hg hx⟩
  · intro vs X hI
    obtain ⟨gx, e6, hgx, rx⟩ := hI.al rfl
    replace rx : X.heap[gx]? = some (.cells #[.int .i64 0, .int .i64 pa, .int .i64 0, .int .i64 0, .int .i64 0] 69) := rx
    have hbX := hI.bel
    clear hI
    simp [fill, slotOf, Act.put]
    simp only [Exit.inBlock, Exit.then]
    rw [e6]
    clear e6
    generalize vs 0 = yg0
    generalize vs 1 = yg1
    generalize vs 2 = yg2
    generalize vs 3 = yg3
    generalize vs 4 = yg4
    generalize vs 5 = yg5
    generalize vs 6 = yg6
    generalize vs 7 = yg7
    generalize vs 8 = yg8
    obtain ⟨wx, rfl⟩ : ∃ wx : World, wx = X := ⟨_, rfl⟩
    replace hbx := hbx.trans (hbX.mono hbx.size)
    clear C0 C1 C2 hb X0 hbX Q1 HP1 Hb X1
    obtain ⟨C0, C1, C2, R1, R4, hb⟩ := HC.out _ hbx
    have X0 := HX0.out _ hb
    have Hr4x := Lib.hid R4
    have Hr1x := Lib.hid R1
    clear R1 R4
    have fz : wx.frozen? ⟨gx, 0, none⟩ = false := by simp [World.frozen?, rx]
    have gz := cellOf rx 0 rfl
    go_upto_region 21 with (fail)
    obtain ⟨Y, hY⟩ : ∃ Y, Y = wx.setCell ⟨gx, 0, none⟩ (.int .i64 1) := ⟨_, rfl⟩
    rw [← hY]
    have rY : Y.heap[gx]? = some (.cells #[.int .i64 1, .int .i64 pa, .int .i64 0, .int .i64 0, .int .i64 0] 69) := by rw [hY]; exact (heap_setCell_row rx _).trans rfl
    replace hbx : Below W2.heap.size W2 Y := by rw [hY]; exact hbx.setCell hgx _
    clear hY C0 C1 C2 hb X0
    obtain ⟨C0, C1, C2, R1, R4, hb⟩ := HC.out _ hbx
    have X0 := HX0.out _ hb
    have Hr4Y := Lib.hid R4
    have Hr1Y := Lib.hid R1
    clear R1 R4
    clear fz gz rx rY
    go_wp2_with (refine wpList_store_row rfl 25 (.tmp 4) (.tmp 81) rfl (w.heap.size + 1) #[.int .i64 s.iv, .slice Ap s.pts.length cp, .slice An s.notes.length cn] rfl rfl 25 _ Hr4Y.out (by kernel_rfl) rfl (by simp [Value.oneCell']) ?_)
    have k4 := setRow_heap Y (w.heap.size + 1) _ #[.int .i64 s.iv, .slice Ap s.pts.length cp, .slice An s.notes.length cn] 25 (0, 0) Hr4Y.out
    exact bodyPost_ret (results88 k4 rfl rfl) rfl (rowQ_none HR.out (hb.trans (setRow_below _ (by omega))))
set_option maxRecDepth 100000 in
set_option maxHeartbeats 4000000 in
theorem row_wContour_bad {B Bw : Nat} {w : World} {Ap An : Option Addr} {cp cn gw cw : Nat} {s : ShR} {ws : List ByteArray} (h : RowIn B Bw w Ap An cp cn gw cw s ws) (hl : 3 ≤ ws.length) (hx : wd ws 0 = wContour) (hn : ws.length ≠ 4) : Calls Tryz.prog 88 #[.agg #[.int .i64 s.iv, .slice Ap s.pts.length cp, .slice An s.notes.length cn], .slice (some ⟨gw, 0, none⟩) ws.length cw] w fun e w' => RowQ s ws w e w' := by
  have hin := Lib.hid h
  obtain ⟨vp', vn', ehs, hp, hno⟩ := h.sh
  have hB := h.hB
  have hone := h.one
  simp at ehs
  obtain ⟨rfl, rfl⟩ := ehs
  have hcw : ws.length ≤ cw := by obtain ⟨A0, c0, e0, h1, _⟩ := h.wsr; cases e0; exact h1
  obtain ⟨W1, hW1, r1, z1, b1⟩ := box_any w #[.int .i64 s.iv, .slice Ap s.pts.length cp, .slice An s.notes.length cn] 25
  obtain ⟨W2, hW2, r2, z2, b2⟩ := box_any W1 #[.int .i64 0, .slice none 0 0, .slice none 0 0] 25
  have b12 := b1.trans (b2.mono b1.size)
  have q1 := (b2.block _ (by omega)).trans r1
  rw [z1] at r2
  have HBY := Lib.hid b12
  have HZ := Lib.hid (show W2.heap.size = w.heap.size + 2 by omega)
  have HC : Hid (∀ Z : World, Below W2.heap.size W2 Z → Z.cell? ⟨w.heap.size, 0, none⟩ = some (.int .i64 s.iv) ∧ Z.cell? ⟨w.heap.size, 1, none⟩ = some (.slice Ap s.pts.length cp) ∧ Z.cell? ⟨w.heap.size, 2, none⟩ = some (.slice An s.notes.length cn) ∧
      Z.heap[w.heap.size]? = some (.cells #[.int .i64 s.iv, .slice Ap s.pts.length cp, .slice An s.notes.length cn] 25) ∧ Z.heap[w.heap.size + 1]? = some (.cells #[.int .i64 0, .slice none 0 0, .slice none 0 0] 25) ∧ Below w.heap.size w Z) :=
    Lib.hid fun Z h => by
      have j1 := (h.block _ (lt_of_block q1)).trans q1
      have j2 := (h.block _ (lt_of_block r2)).trans r2
      exact ⟨cellOf j1 0 rfl, cellOf j1 1 rfl, cellOf j1 2 rfl, j1, j2, HBY.out.trans (h.mono HBY.out.size)⟩
  have HW : Hid (∀ (Z : World), Below w.heap.size w Z → ∀ i, i < ws.length → Z.cell? ⟨gw, i, none⟩ = some (.string (wd ws i))) := Lib.hid fun Z hZ i hi => word_at (hin.out.wsr.below (hZ.mono hin.out.hBw)) hi
  have HPl : Hid (∀ (Z : World), Below w.heap.size w Z → ∀ x, Calls Tryz.prog 93 #[.slice Ap s.pts.length cp, .string x] Z fun e w' => e = .returned (.int .i64 (plcF s.pts x)) ∧ Z = w') := Lib.hid fun Z hZ x => (place_any x (hp.below (hZ.mono hB))).mono fun e w' ⟨h1, h2⟩ => ⟨h1, h2.symm⟩
  have HPp : Hid (∀ (Z : World), Below w.heap.size w Z → Rd StrAt 1 B Z (.slice Ap s.pts.length cp) s.pts) := Lib.hid fun Z hZ => hp.below (hZ.mono hB)
  have HNn : Hid (∀ (Z : World), Below w.heap.size w Z → Rd NoteAt 5 B Z (.slice An s.notes.length cn) s.notes) := Lib.hid fun Z hZ => hno.below (hZ.mono hB)
  have hbx : Below W2.heap.size W2 W2 := Below.refl _ _
  obtain ⟨C0, C1, C2, R1, R4, hb⟩ := HC.out _ hbx
  have X0 := HW.out _ hb 0 (by omega)
  have Hr1 := Lib.hid R1
  have Hr4 := Lib.hid R4
  clear h r1 r2 z1 z2 b1 b2 b12 q1 hp hno R1 R4
  have HR := Lib.hid (show rowF s ws = none by unfold rowF; rw [if_neg (fun e => by omega), if_neg (by omega), if_neg (by rw [hx]; decide), if_pos hx, if_neg hn])
  have hn3 : ¬ ((ws.length : Int) < 3) := by omega
  have hn2 : ((ws.length : Int) == 2) = false := by simp; omega
  have hc2 : ¬ cw = 2 := by omega
  have hk : (((ws.length - 2 : Nat) : Int) != 2) = true := by simp; omega
  have HX0 := Lib.hid (show ∀ (Z : World), Below w.heap.size w Z → Z.cell? ⟨gw, 0, none⟩ = some (.string ⟨#[99, 111, 110, 116, 111, 117, 114]⟩) from fun Z hZ => by rw [HW.out Z hZ 0 (by omega), hx]; rfl)
  replace X0 := HX0.out _ hb
  clear hx
  go_enter Tryz.func88, Tryz.ntmps88
  go_upto_region 1 with (fail)
  rw [← hW1, ← hW2]
  clear hW1 hW2
  go_upto_region 6 with (fail)
  have X1 := Lib.hid (HW.out _ hb 1 (by omega))
  have HP1 := Lib.hid (show ∀ Z, Below w.heap.size w Z → Calls Tryz.prog 93 #[.slice Ap s.pts.length cp, .string (wd ws 1)] Z fun e w' => e = .returned (.int .i64 (plcF s.pts (wd ws 1))) ∧ Z = w' from fun Z hZ => HPl.out Z hZ _)
  have Hb := Lib.hid hb
  have Q1 := Lib.hid C1
  generalize plcF s.pts (wd ws 1) = pa at *
  generalize wd ws 1 = x1 at *
  have hl1 : ¬ ((ws.length : Int) ≤ 1) := by omega
  have hl2 : 1 < ws.length := by omega
  refine wp_region_ghost (AlI W2 (fun jj => ([.pointer (some ⟨w.heap.size, 1, none⟩), .slice Ap s.pts.length cp, .slice (some ⟨gw, 0, none⟩) ws.length cw, .pointer (some ⟨gw, 1, none⟩), .string x1, .int .i64 pa, .agg #[.int .i64 0, .int .i64 pa, .int .i64 0, .int .i64 0, .int .i64 0], undef, undef] : List Value).getD jj undef) 7 8 #[.int .i64 0, .int .i64 0, .int .i64 0, .int .i64 0, .int .i64 0] #[.int .i64 0, .int .i64 pa, .int .i64 0, .int .i64 0, .int .i64 0] 69) (by kernel_rfl) (by kernel_rfl) AlI.start ?_ ?_
  · refine ⟨?_, ?_, ?_, ?_, ?_, ?_, ?_, ?_, ?_, trivial⟩
    all_goals
      intro L vs X b hL hw hcl hI hf
    · have hb := hI.bel
      have e2 := hf.old 2 (by kernel_rfl)
      refine wp_of_run (v := .pointer (some ⟨w.heap.size, 1, none⟩)) (w' := X) (by unfold execOp; go_simp) ?_
      exact hI.read (by omega) (by omega) rfl
    · have hb := hI.bel
      have h0 : L 0 = true := done_of hw 0 (by kernel_rfl)
      have e33 : b.tmps[33]?.getD undef = .pointer (some ⟨w.heap.size, 1, none⟩) := (hf.new 0 33 rfl h0 (by simp)).trans (hI.vals 0 (by omega) (by omega) h0)
      have qQ1 := (hb.cell (cell_lt Q1.out)).trans Q1.out
      refine wp_of_run (v := .slice Ap s.pts.length cp) (w' := X) (by unfold execOp; go_simp) ?_
      exact hI.read (by omega) (by omega) rfl
    · have hb := hI.bel
      have e1 := hf.old 1 (by kernel_rfl)
      refine wp_of_run (v := .slice (some ⟨gw, 0, none⟩) ws.length cw) (w' := X) (by unfold execOp; go_simp) ?_
      exact hI.read (by omega) (by omega) rfl
    · have hb := hI.bel
      have h2 : L 2 = true := done_of hw 2 (by kernel_rfl)
      have e35 : b.tmps[35]?.getD undef = .slice (some ⟨gw, 0, none⟩) ws.length cw := (hf.new 2 35 rfl h2 (by simp)).trans (hI.vals 2 (by omega) (by omega) h2)
      refine wp_of_run (v := .pointer (some ⟨gw, 1, none⟩)) (w' := X) (by unfold execOp; go_simp) ?_
      exact hI.read (by omega) (by omega) rfl
    · have hb := hI.bel
      have h3 : L 3 = true := done_of hw 3 (by kernel_rfl)
      have e36 : b.tmps[36]?.getD undef = .pointer (some ⟨gw, 1, none⟩) := (hf.new 3 36 rfl h3 (by simp)).trans (hI.vals 3 (by omega) (by omega) h3)
      have qX1 := (hb.cell (cell_lt X1.out)).trans X1.out
      refine wp_of_run (v := .string x1) (w' := X) (by unfold execOp; go_simp) ?_
      exact hI.read (by omega) (by omega) rfl
    · have hb := hI.bel
      have h1 : L 1 = true := done_of hw 1 (by kernel_rfl)
      have e34 : b.tmps[34]?.getD undef = .slice Ap s.pts.length cp := (hf.new 1 34 rfl h1 (by simp)).trans (hI.vals 1 (by omega) (by omega) h1)
      have h4 : L 4 = true := done_of hw 4 (by kernel_rfl)
      have e37 : b.tmps[37]?.getD undef = .string x1 := (hf.new 4 37 rfl h4 (by simp)).trans (hI.vals 4 (by omega) (by omega) h4)
      refine wp_of_call (f := 93) (args := #[.slice Ap s.pts.length cp, .string x1]) (run_call_clo (.func 93) _ _ rfl (c := #[]) rfl renter93 (by simp [eval_tmp e34, eval_tmp e37])) ?_
      refine (HP1.out X (Hb.out.trans (hb.mono Hb.out.size))).mono ?_
      rintro e wz ⟨rfl, hz⟩
      subst hz
      exact ⟨_, rfl, hI.read (by omega) (by omega) rfl⟩
    · have hb := hI.bel
      have h5 : L 5 = true := done_of hw 5 (by kernel_rfl)
      have e38 : b.tmps[38]?.getD undef = .int .i64 pa := (hf.new 5 38 rfl h5 (by simp)).trans (hI.vals 5 (by omega) (by omega) h5)
      refine wp_of_run (v := .agg #[.int .i64 0, .int .i64 pa, .int .i64 0, .int .i64 0, .int .i64 0]) (w' := X) (by unfold execOp; go_simp) ?_
      exact hI.read (by omega) (by omega) rfl
    · have hb := hI.bel
      have n8 : L 8 = false := not_yet hcl 8 hL rfl (by kernel_rfl)
      refine wp_of_run (v := .pointer (some ⟨X.heap.size, 0, none⟩)) (w' := X.alloc (.cells #[.int .i64 0, .int .i64 0, .int .i64 0, .int .i64 0, .int .i64 0] 69)) (by unfold execOp; go_simp) ?_
      exact hI.alloc (by omega) n8
    · have hb := hI.bel
      have h7 : L 7 = true := done_of hw 7 (by kernel_rfl)
      have e6 : b.tmps[6]?.getD undef = vs 7 := hf.new 7 6 rfl h7 (by simp)
      have h6 : L 6 = true := done_of hw 6 (by kernel_rfl)
      have e39 : b.tmps[39]?.getD undef = .agg #[.int .i64 0, .int .i64 pa, .int .i64 0, .int .i64 0, .int .i64 0] := (hf.new 6 39 rfl h6 (by simp)).trans (hI.vals 6 (by omega) (by omega) h6)
      obtain ⟨g, q7, hg, hx⟩ := hI.unstored h7 hL
      rw [q7] at e6
      refine wp_store_row 69 (.tmp 6) (.tmp 39) rfl g #[.int .i64 0, .int .i64 pa, .int .i64 0, .int .i64 0, .int .i64 0] (eval_tmp e6) (eval_tmp e39) 69 _ hx (by kernel_rfl) rfl (by simp [Value.oneCell']) ?_
      exact ⟨_, rfl, hI.store (by omega) q7 hg hx⟩
  · intro vs X hI
    obtain ⟨gx, e6, hgx, rx⟩ := hI.al rfl
    replace rx : X.heap[gx]? = some (.cells #[.int .i64 0, .int .i64 pa, .int .i64 0, .int .i64 0, .int .i64 0] 69) := rx
    have hbX := hI.bel
    clear hI
    simp [fill, slotOf, Act.put]
    simp only [Exit.inBlock, Exit.then]
    rw [e6]
    clear e6
    generalize vs 0 = yg0
    generalize vs 1 = yg1
    generalize vs 2 = yg2
    generalize vs 3 = yg3
    generalize vs 4 = yg4
    generalize vs 5 = yg5
    generalize vs 6 = yg6
    generalize vs 7 = yg7
    generalize vs 8 = yg8
    obtain ⟨wx, rfl⟩ : ∃ wx : World, wx = X := ⟨_, rfl⟩
    replace hbx := hbx.trans (hbX.mono hbx.size)
    clear C0 C1 C2 hb X0 hbX Q1 HP1 Hb X1
    obtain ⟨C0, C1, C2, R1, R4, hb⟩ := HC.out _ hbx
    have X0 := HX0.out _ hb
    have Hr4x := Lib.hid R4
    have Hr1x := Lib.hid R1
    clear R1 R4
    have fz : wx.frozen? ⟨gx, 0, none⟩ = false := by simp [World.frozen?, rx]
    have gz := cellOf rx 0 rfl
    go_upto_region 21 with (fail)
    obtain ⟨Y, hY⟩ : ∃ Y, Y = wx.setCell ⟨gx, 0, none⟩ (.int .i64 2) := ⟨_, rfl⟩
    rw [← hY]
    have rY : Y.heap[gx]? = some (.cells #[.int .i64 2, .int .i64 pa, .int .i64 0, .int .i64 0, .int .i64 0] 69) := by rw [hY]; exact (heap_setCell_row rx _).trans rfl
    replace hbx : Below W2.heap.size W2 Y := by rw [hY]; exact hbx.setCell hgx _
    clear hY C0 C1 C2 hb X0
    obtain ⟨C0, C1, C2, R1, R4, hb⟩ := HC.out _ hbx
    have X0 := HX0.out _ hb
    have Hr4Y := Lib.hid R4
    have Hr1Y := Lib.hid R1
    clear R1 R4
    clear fz gz rx rY
    go_wp2_with (refine wpList_store_row rfl 25 (.tmp 4) (.tmp 81) rfl (w.heap.size + 1) #[.int .i64 s.iv, .slice Ap s.pts.length cp, .slice An s.notes.length cn] rfl rfl 25 _ Hr4Y.out (by kernel_rfl) rfl (by simp [Value.oneCell']) ?_)
    have k4 := setRow_heap Y (w.heap.size + 1) _ #[.int .i64 s.iv, .slice Ap s.pts.length cp, .slice An s.notes.length cn] 25 (0, 0) Hr4Y.out
    exact bodyPost_ret (results88 k4 rfl rfl) rfl (rowQ_none HR.out (hb.trans (setRow_below _ (by omega))))
set_option maxRecDepth 100000 in
set_option maxHeartbeats 4000000 in
theorem row_wLake_bad {B Bw : Nat} {w : World} {Ap An : Option Addr} {cp cn gw cw : Nat} {s : ShR} {ws : List ByteArray} (h : RowIn B Bw w Ap An cp cn gw cw s ws) (hl : 3 ≤ ws.length) (hx : wd ws 0 = wLake) (hn : ws.length ≠ 3) : Calls Tryz.prog 88 #[.agg #[.int .i64 s.iv, .slice Ap s.pts.length cp, .slice An s.notes.length cn], .slice (some ⟨gw, 0, none⟩) ws.length cw] w fun e w' => RowQ s ws w e w' := by
  have hin := Lib.hid h
  obtain ⟨vp', vn', ehs, hp, hno⟩ := h.sh
  have hB := h.hB
  have hone := h.one
  simp at ehs
  obtain ⟨rfl, rfl⟩ := ehs
  have hcw : ws.length ≤ cw := by obtain ⟨A0, c0, e0, h1, _⟩ := h.wsr; cases e0; exact h1
  obtain ⟨W1, hW1, r1, z1, b1⟩ := box_any w #[.int .i64 s.iv, .slice Ap s.pts.length cp, .slice An s.notes.length cn] 25
  obtain ⟨W2, hW2, r2, z2, b2⟩ := box_any W1 #[.int .i64 0, .slice none 0 0, .slice none 0 0] 25
  have b12 := b1.trans (b2.mono b1.size)
  have q1 := (b2.block _ (by omega)).trans r1
  rw [z1] at r2
  have HBY := Lib.hid b12
  have HZ := Lib.hid (show W2.heap.size = w.heap.size + 2 by omega)
  have HC : Hid (∀ Z : World, Below W2.heap.size W2 Z → Z.cell? ⟨w.heap.size, 0, none⟩ = some (.int .i64 s.iv) ∧ Z.cell? ⟨w.heap.size, 1, none⟩ = some (.slice Ap s.pts.length cp) ∧ Z.cell? ⟨w.heap.size, 2, none⟩ = some (.slice An s.notes.length cn) ∧
      Z.heap[w.heap.size]? = some (.cells #[.int .i64 s.iv, .slice Ap s.pts.length cp, .slice An s.notes.length cn] 25) ∧ Z.heap[w.heap.size + 1]? = some (.cells #[.int .i64 0, .slice none 0 0, .slice none 0 0] 25) ∧ Below w.heap.size w Z) :=
    Lib.hid fun Z h => by
      have j1 := (h.block _ (lt_of_block q1)).trans q1
      have j2 := (h.block _ (lt_of_block r2)).trans r2
      exact ⟨cellOf j1 0 rfl, cellOf j1 1 rfl, cellOf j1 2 rfl, j1, j2, HBY.out.trans (h.mono HBY.out.size)⟩
  have HW : Hid (∀ (Z : World), Below w.heap.size w Z → ∀ i, i < ws.length → Z.cell? ⟨gw, i, none⟩ = some (.string (wd ws i))) := Lib.hid fun Z hZ i hi => word_at (hin.out.wsr.below (hZ.mono hin.out.hBw)) hi
  have HPl : Hid (∀ (Z : World), Below w.heap.size w Z → ∀ x, Calls Tryz.prog 93 #[.slice Ap s.pts.length cp, .string x] Z fun e w' => e = .returned (.int .i64 (plcF s.pts x)) ∧ Z = w') := Lib.hid fun Z hZ x => (place_any x (hp.below (hZ.mono hB))).mono fun e w' ⟨h1, h2⟩ => ⟨h1, h2.symm⟩
  have HPp : Hid (∀ (Z : World), Below w.heap.size w Z → Rd StrAt 1 B Z (.slice Ap s.pts.length cp) s.pts) := Lib.hid fun Z hZ => hp.below (hZ.mono hB)
  have HNn : Hid (∀ (Z : World), Below w.heap.size w Z → Rd NoteAt 5 B Z (.slice An s.notes.length cn) s.notes) := Lib.hid fun Z hZ => hno.below (hZ.mono hB)
  have hbx : Below W2.heap.size W2 W2 := Below.refl _ _
  obtain ⟨C0, C1, C2, R1, R4, hb⟩ := HC.out _ hbx
  have X0 := HW.out _ hb 0 (by omega)
  have Hr1 := Lib.hid R1
  have Hr4 := Lib.hid R4
  clear h r1 r2 z1 z2 b1 b2 b12 q1 hp hno R1 R4
  have HR := Lib.hid (show rowF s ws = none by unfold rowF; rw [if_neg (fun e => by omega), if_neg (by omega), if_neg (by rw [hx]; decide), if_neg (by rw [hx]; decide), if_pos hx, if_neg hn])
  have hn3 : ¬ ((ws.length : Int) < 3) := by omega
  have hn2 : ((ws.length : Int) == 2) = false := by simp; omega
  have hc2 : ¬ cw = 2 := by omega
  have hk : (((ws.length - 3 : Nat) : Int) != 0) = true := by simp; omega
  have HX0 := Lib.hid (show ∀ (Z : World), Below w.heap.size w Z → Z.cell? ⟨gw, 0, none⟩ = some (.string ⟨#[108, 97, 107, 101]⟩) from fun Z hZ => by rw [HW.out Z hZ 0 (by omega), hx]; rfl)
  replace X0 := HX0.out _ hb
  clear hx
  go_enter Tryz.func88, Tryz.ntmps88
  go_upto_region 1 with (fail)
  rw [← hW1, ← hW2]
  clear hW1 hW2
  go_upto_region 6 with (fail)
  have X1 := Lib.hid (HW.out _ hb 1 (by omega))
  have HP1 := Lib.hid (show ∀ Z, Below w.heap.size w Z → Calls Tryz.prog 93 #[.slice Ap s.pts.length cp, .string (wd ws 1)] Z fun e w' => e = .returned (.int .i64 (plcF s.pts (wd ws 1))) ∧ Z = w' from fun Z hZ => HPl.out Z hZ _)
  have Hb := Lib.hid hb
  have Q1 := Lib.hid C1
  generalize plcF s.pts (wd ws 1) = pa at *
  generalize wd ws 1 = x1 at *
  have hl1 : ¬ ((ws.length : Int) ≤ 1) := by omega
  have hl2 : 1 < ws.length := by omega
  refine wp_region_ghost (AlI W2 (fun jj => ([.pointer (some ⟨w.heap.size, 1, none⟩), .slice Ap s.pts.length cp, .slice (some ⟨gw, 0, none⟩) ws.length cw, .pointer (some ⟨gw, 1, none⟩), .string x1, .int .i64 pa, .agg #[.int .i64 0, .int .i64 pa, .int .i64 0, .int .i64 0, .int .i64 0], undef, undef] : List Value).getD jj undef) 7 8 #[.int .i64 0, .int .i64 0, .int .i64 0, .int .i64 0, .int .i64 0] #[.int .i64 0, .int .i64 pa, .int .i64 0, .int .i64 0, .int .i64 0] 69) (by kernel_rfl) (by kernel_rfl) AlI.start ?_ ?_
  · refine ⟨?_, ?_, ?_, ?_, ?_, ?_, ?_, ?_, ?_, trivial⟩
    all_goals
      intro L vs X b hL hw hcl hI hf
    · have hb := hI.bel
      have e2 := hf.old 2 (by kernel_rfl)
      refine wp_of_run (v := .pointer (some ⟨w.heap.size, 1, none⟩)) (w' := X) (by unfold execOp; go_simp) ?_
      exact hI.read (by omega) (by omega) rfl
    · have hb := hI.bel
      have h0 : L 0 = true := done_of hw 0 (by kernel_rfl)
      have e33 : b.tmps[33]?.getD undef = .pointer (some ⟨w.heap.size, 1, none⟩) := (hf.new 0 33 rfl h0 (by simp)).trans (hI.vals 0 (by omega) (by omega) h0)
      have qQ1 := (hb.cell (cell_lt Q1.out)).trans Q1.out
      refine wp_of_run (v := .slice Ap s.pts.length cp) (w' := X) (by unfold execOp; go_simp) ?_
      exact hI.read (by omega) (by omega) rfl
    · have hb := hI.bel
      have e1 := hf.old 1 (by kernel_rfl)
      refine wp_of_run (v := .slice (some ⟨gw, 0, none⟩) ws.length cw) (w' := X) (by unfold execOp; go_simp) ?_
      exact hI.read (by omega) (by omega) rfl
    · have hb := hI.bel
      have h2 : L 2 = true := done_of hw 2 (by kernel_rfl)
      have e35 : b.tmps[35]?.getD undef = .slice (some ⟨gw, 0, none⟩) ws.length cw := (hf.new 2 35 rfl h2 (by simp)).trans (hI.vals 2 (by omega) (by omega) h2)
      refine wp_of_run (v := .pointer (some ⟨gw, 1, none⟩)) (w' := X) (by unfold execOp; go_simp) ?_
      exact hI.read (by omega) (by omega) rfl
    · have hb := hI.bel
      have h3 : L 3 = true := done_of hw 3 (by kernel_rfl)
      have e36 : b.tmps[36]?.getD undef = .pointer (some ⟨gw, 1, none⟩) := (hf.new 3 36 rfl h3 (by simp)).trans (hI.vals 3 (by omega) (by omega) h3)
      have qX1 := (hb.cell (cell_lt X1.out)).trans X1.out
      refine wp_of_run (v := .string x1) (w' := X) (by unfold execOp; go_simp) ?_
      exact hI.read (by omega) (by omega) rfl
    · have hb := hI.bel
      have h1 : L 1 = true := done_of hw 1 (by kernel_rfl)
      have e34 : b.tmps[34]?.getD undef = .slice Ap s.pts.length cp := (hf.new 1 34 rfl h1 (by simp)).trans (hI.vals 1 (by omega) (by omega) h1)
      have h4 : L 4 = true := done_of hw 4 (by kernel_rfl)
      have e37 : b.tmps[37]?.getD undef = .string x1 := (hf.new 4 37 rfl h4 (by simp)).trans (hI.vals 4 (by omega) (by omega) h4)
      refine wp_of_call (f := 93) (args := #[.slice Ap s.pts.length cp, .string x1]) (run_call_clo (.func 93) _ _ rfl (c := #[]) rfl renter93 (by simp [eval_tmp e34, eval_tmp e37])) ?_
      refine (HP1.out X (Hb.out.trans (hb.mono Hb.out.size))).mono ?_
      rintro e wz ⟨rfl, hz⟩
      subst hz
      exact ⟨_, rfl, hI.read (by omega) (by omega) rfl⟩
    · have hb := hI.bel
      have h5 : L 5 = true := done_of hw 5 (by kernel_rfl)
      have e38 : b.tmps[38]?.getD undef = .int .i64 pa := (hf.new 5 38 rfl h5 (by simp)).trans (hI.vals 5 (by omega) (by omega) h5)
      refine wp_of_run (v := .agg #[.int .i64 0, .int .i64 pa, .int .i64 0, .int .i64 0, .int .i64 0]) (w' := X) (by unfold execOp; go_simp) ?_
      exact hI.read (by omega) (by omega) rfl
    · have hb := hI.bel
      have n8 : L 8 = false := not_yet hcl 8 hL rfl (by kernel_rfl)
      refine wp_of_run (v := .pointer (some ⟨X.heap.size, 0, none⟩)) (w' := X.alloc (.cells #[.int .i64 0, .int .i64 0, .int .i64 0, .int .i64 0, .int .i64 0] 69)) (by unfold execOp; go_simp) ?_
      exact hI.alloc (by omega) n8
    · have hb := hI.bel
      have h7 : L 7 = true := done_of hw 7 (by kernel_rfl)
      have e6 : b.tmps[6]?.getD undef = vs 7 := hf.new 7 6 rfl h7 (by simp)
      have h6 : L 6 = true := done_of hw 6 (by kernel_rfl)
      have e39 : b.tmps[39]?.getD undef = .agg #[.int .i64 0, .int .i64 pa, .int .i64 0, .int .i64 0, .int .i64 0] := (hf.new 6 39 rfl h6 (by simp)).trans (hI.vals 6 (by omega) (by omega) h6)
      obtain ⟨g, q7, hg, hx⟩ := hI.unstored h7 hL
      rw [q7] at e6
      refine wp_store_row 69 (.tmp 6) (.tmp 39) rfl g #[.int .i64 0, .int .i64 pa, .int .i64 0, .int .i64 0, .int .i64 0] (eval_tmp e6) (eval_tmp e39) 69 _ hx (by kernel_rfl) rfl (by simp [Value.oneCell']) ?_
      exact ⟨_, rfl, hI.store (by omega) q7 hg hx⟩
  · intro vs X hI
    obtain ⟨gx, e6, hgx, rx⟩ := hI.al rfl
    replace rx : X.heap[gx]? = some (.cells #[.int .i64 0, .int .i64 pa, .int .i64 0, .int .i64 0, .int .i64 0] 69) := rx
    have hbX := hI.bel
    clear hI
    simp [fill, slotOf, Act.put]
    simp only [Exit.inBlock, Exit.then]
    rw [e6]
    clear e6
    generalize vs 0 = yg0
    generalize vs 1 = yg1
    generalize vs 2 = yg2
    generalize vs 3 = yg3
    generalize vs 4 = yg4
    generalize vs 5 = yg5
    generalize vs 6 = yg6
    generalize vs 7 = yg7
    generalize vs 8 = yg8
    obtain ⟨wx, rfl⟩ : ∃ wx : World, wx = X := ⟨_, rfl⟩
    replace hbx := hbx.trans (hbX.mono hbx.size)
    clear C0 C1 C2 hb X0 hbX Q1 HP1 Hb X1
    obtain ⟨C0, C1, C2, R1, R4, hb⟩ := HC.out _ hbx
    have X0 := HX0.out _ hb
    have Hr4x := Lib.hid R4
    have Hr1x := Lib.hid R1
    clear R1 R4
    obtain ⟨A9, hA9⟩ : ∃ A9, A9 = (if cw = 3 then (some ⟨gw, 0, none⟩ : Option Addr) else (some ⟨gw, 0, none⟩ : Option Addr).map (·.add (3 * 1))) := ⟨_, rfl⟩
    have HA9 := Lib.hid hA9
    clear hA9
    go_upto_region 9 with (fail)
    have X2 := Lib.hid (HW.out _ hb 2 (by omega))
    have HP2 := Lib.hid (show ∀ Z, Below w.heap.size w Z → Calls Tryz.prog 93 #[.slice Ap s.pts.length cp, .string (wd ws 2)] Z fun e w' => e = .returned (.int .i64 (plcF s.pts (wd ws 2))) ∧ Z = w' from fun Z hZ => HPl.out Z hZ _)
    have Hb := Lib.hid hb
    have Q1 := Lib.hid C1
    generalize plcF s.pts (wd ws 2) = pb at *
    generalize wd ws 2 = x2 at *
    have HRx := Lib.hid rx
    have hl3 : ¬ ((ws.length : Int) ≤ 2) := by omega
    have hsl := fun X : World => run_slice_lo22 (A := some ⟨gw, 0, none⟩) (k := ws.length) (c := cw) (a := 3) (by omega) X
    refine wp_region_ghost (StI wx ⟨gx, 2, none⟩ (.int .i64 pb) 9 (fun jj => ([.pointer (some ⟨w.heap.size, 1, none⟩), .slice Ap s.pts.length cp, .slice (some ⟨gw, 0, none⟩) ws.length cw, .pointer (some ⟨gw, 2, none⟩), .string x2, .int .i64 pb, .slice (some ⟨gw, 0, none⟩) ws.length cw, .slice A9 (ws.length - 3) (cw - 3), .pointer (some ⟨gx, 2, none⟩), undef, .slice A9 (ws.length - 3) (cw - 3)] : List Value).getD jj undef)) (by kernel_rfl) (by kernel_rfl) StI.start ?_ ?_
    · refine ⟨?_, ?_, ?_, ?_, ?_, ?_, ?_, ?_, ?_, ?_, ?_, trivial⟩
      all_goals
        intro L vs X b hL hw hcl hI hf
      · have e2 := hf.old 2 (by kernel_rfl)
        refine wp_of_run (v := .pointer (some ⟨w.heap.size, 1, none⟩)) (w' := X) (by unfold execOp; go_simp) ?_
        exact hI.read (by omega) rfl
      · have h0 : L 0 = true := done_of hw 0 (by kernel_rfl)
        have e52 : b.tmps[52]?.getD undef = .pointer (some ⟨w.heap.size, 1, none⟩) := (hf.new 0 52 rfl h0 (by simp)).trans (hI.vals 0 (by omega) h0)
        have n9 : L 9 = false := not_yet hcl 9 hL rfl (by kernel_rfl)
        have hw0 := hI.unst n9
        subst hw0
        have q0 := ((Below.refl _ _).drew.cell (cell_lt Q1.out)).trans Q1.out
        refine wp_of_run (v := .slice Ap s.pts.length cp) (w' := World.drew wx) (by unfold execOp; go_simp) ?_
        exact hI.read (by omega) rfl
      · have e1 := hf.old 1 (by kernel_rfl)
        refine wp_of_run (v := .slice (some ⟨gw, 0, none⟩) ws.length cw) (w' := X) (by unfold execOp; go_simp) ?_
        exact hI.read (by omega) rfl
      · have h2 : L 2 = true := done_of hw 2 (by kernel_rfl)
        have e54 : b.tmps[54]?.getD undef = .slice (some ⟨gw, 0, none⟩) ws.length cw := (hf.new 2 54 rfl h2 (by simp)).trans (hI.vals 2 (by omega) h2)
        refine wp_of_run (v := .pointer (some ⟨gw, 2, none⟩)) (w' := X) (by unfold execOp; go_simp) ?_
        exact hI.read (by omega) rfl
      · have h3 : L 3 = true := done_of hw 3 (by kernel_rfl)
        have e55 : b.tmps[55]?.getD undef = .pointer (some ⟨gw, 2, none⟩) := (hf.new 3 55 rfl h3 (by simp)).trans (hI.vals 3 (by omega) h3)
        have n9 : L 9 = false := not_yet hcl 9 hL rfl (by kernel_rfl)
        have hw0 := hI.unst n9
        subst hw0
        have q0 := ((Below.refl _ _).drew.cell (cell_lt X2.out)).trans X2.out
        refine wp_of_run (v := .string x2) (w' := World.drew wx) (by unfold execOp; go_simp) ?_
        exact hI.read (by omega) rfl
      · have h1 : L 1 = true := done_of hw 1 (by kernel_rfl)
        have e53 : b.tmps[53]?.getD undef = .slice Ap s.pts.length cp := (hf.new 1 53 rfl h1 (by simp)).trans (hI.vals 1 (by omega) h1)
        have h4 : L 4 = true := done_of hw 4 (by kernel_rfl)
        have e56 : b.tmps[56]?.getD undef = .string x2 := (hf.new 4 56 rfl h4 (by simp)).trans (hI.vals 4 (by omega) h4)
        have n9 : L 9 = false := not_yet hcl 9 hL rfl (by kernel_rfl)
        have hw0 := hI.unst n9
        subst hw0
        refine wp_of_call (f := 93) (args := #[.slice Ap s.pts.length cp, .string x2]) (run_call_clo (.func 93) _ _ rfl (c := #[]) rfl renter93 (by simp [eval_tmp e53, eval_tmp e56])) ?_
        refine (HP2.out _ (Hb.out.trans ((Below.refl _ _).drew))).mono ?_
        rintro e wz ⟨rfl, hz⟩
        subst hz
        exact ⟨_, rfl, hI.read (by omega) rfl⟩
      · have e1 := hf.old 1 (by kernel_rfl)
        refine wp_of_run (v := .slice (some ⟨gw, 0, none⟩) ws.length cw) (w' := X) (by unfold execOp; go_simp) ?_
        exact hI.read (by omega) rfl
      · have h6 : L 6 = true := done_of hw 6 (by kernel_rfl)
        have e58 : b.tmps[58]?.getD undef = .slice (some ⟨gw, 0, none⟩) ws.length cw := (hf.new 6 58 rfl h6 (by simp)).trans (hI.vals 6 (by omega) h6)
        refine wp_of_run (v := .slice A9 (ws.length - 3) (cw - 3)) (w' := X) (run_exec_sliceR 22 (.tmp 58) (some (.const (.int .i64 3))) none none rfl (vx := .slice (some ⟨gw, 0, none⟩) ws.length cw) (vlo := some (.int .i64 3)) (vhi := none) (vmx := none) (eval_tmp e58) rfl rfl rfl (by rw [HA9.out]; exact hsl X)) ?_
        exact hI.read (by omega) rfl
      · have e6 := hf.old 6 (by kernel_rfl)
        refine wp_of_run (v := .pointer (some ⟨gx, 2, none⟩)) (w' := X) (by unfold execOp; go_simp) ?_
        exact hI.read (by omega) rfl
      · have h8 : L 8 = true := done_of hw 8 (by kernel_rfl)
        have e60 : b.tmps[60]?.getD undef = .pointer (some ⟨gx, 2, none⟩) := (hf.new 8 60 rfl h8 (by simp)).trans (hI.vals 8 (by omega) h8)
        have h5 : L 5 = true := done_of hw 5 (by kernel_rfl)
        have e57 : b.tmps[57]?.getD undef = .int .i64 pb := (hf.new 5 57 rfl h5 (by simp)).trans (hI.vals 5 (by omega) h5)
        have hw0 := hI.unst hL
        subst hw0
        have rx2 := ((Below.refl _ _).drew.block _ (lt_of_block HRx.out)).trans HRx.out
        have q0 := cellOf rx2 2 rfl
        have fx : (World.drew wx).frozen? ⟨gx, 2, none⟩ = false := by simp [World.frozen?, rx2]
        refine wp_of_skip (w' := (World.drew wx).setCell ⟨gx, 2, none⟩ (.int .i64 pb)) (by unfold execOp; go_simp) ?_
        exact hI.store
      · have h7 : L 7 = true := done_of hw 7 (by kernel_rfl)
        have e59 : b.tmps[59]?.getD undef = .slice A9 (ws.length - 3) (cw - 3) := (hf.new 7 59 rfl h7 (by simp)).trans (hI.vals 7 (by omega) h7)
        refine wp_of_run (v := .slice A9 (ws.length - 3) (cw - 3)) (w' := X) (by unfold execOp; go_simp) ?_
        exact hI.read (by omega) rfl
    · intro vs X hI
      have v10 := hI.vals 10 (by omega) rfl
      have hX := hI.done rfl
      clear hI
      simp [fill, slotOf, Act.put]
      simp only [Exit.inBlock, Exit.then]
      rw [v10]
      simp only [List.getD_cons_succ, List.getD_cons_zero]
      clear v10
      generalize vs 0 = yh0
      generalize vs 1 = yh1
      generalize vs 2 = yh2
      generalize vs 3 = yh3
      generalize vs 4 = yh4
      generalize vs 5 = yh5
      generalize vs 6 = yh6
      generalize vs 7 = yh7
      generalize vs 8 = yh8
      generalize vs 9 = yh9
      generalize vs 10 = yh10
      replace hbx : Below W2.heap.size W2 X := by rw [hX]; exact hbx.drew.setCell hgx _
      have rx : X.heap[gx]? = some (.cells #[.int .i64 0, .int .i64 pa, .int .i64 pb, .int .i64 0, .int .i64 0] 69) := by rw [hX]; exact (heap_setCell_row (w := World.drew wx) HRx.out _).trans rfl
      clear hX C0 C1 C2 hb X0 Q1 X2 HP2 Hb hsl HRx Hr4x Hr1x
      obtain ⟨wx, rfl⟩ : ∃ wx : World, wx = X := ⟨_, rfl⟩
      obtain ⟨C0, C1, C2, R1, R4, hb⟩ := HC.out _ hbx
      have X0 := HX0.out _ hb
      have Hr4x := Lib.hid R4
      have Hr1x := Lib.hid R1
      clear R1 R4
      have fz : wx.frozen? ⟨gx, 0, none⟩ = false := by simp [World.frozen?, rx]
      have gz := cellOf rx 0 rfl
      go_upto_region 21 with (fail)
      obtain ⟨Y, hY⟩ : ∃ Y, Y = wx.setCell ⟨gx, 0, none⟩ (.int .i64 3) := ⟨_, rfl⟩
      rw [← hY]
      have rY : Y.heap[gx]? = some (.cells #[.int .i64 3, .int .i64 pa, .int .i64 pb, .int .i64 0, .int .i64 0] 69) := by rw [hY]; exact (heap_setCell_row rx _).trans rfl
      replace hbx : Below W2.heap.size W2 Y := by rw [hY]; exact hbx.setCell hgx _
      clear hY C0 C1 C2 hb X0
      obtain ⟨C0, C1, C2, R1, R4, hb⟩ := HC.out _ hbx
      have X0 := HX0.out _ hb
      have Hr4Y := Lib.hid R4
      have Hr1Y := Lib.hid R1
      clear R1 R4
      clear fz gz rx rY
      go_wp2_with (refine wpList_store_row rfl 25 (.tmp 4) (.tmp 81) rfl (w.heap.size + 1) #[.int .i64 s.iv, .slice Ap s.pts.length cp, .slice An s.notes.length cn] rfl rfl 25 _ Hr4Y.out (by kernel_rfl) rfl (by simp [Value.oneCell']) ?_)
      have k4 := setRow_heap Y (w.heap.size + 1) _ #[.int .i64 s.iv, .slice Ap s.pts.length cp, .slice An s.notes.length cn] 25 (0, 0) Hr4Y.out
      exact bodyPost_ret (results88 k4 rfl rfl) rfl (rowQ_none HR.out (hb.trans (setRow_below _ (by omega))))
set_option maxRecDepth 100000 in
set_option maxHeartbeats 4000000 in
theorem row_wSlope_bad {B Bw : Nat} {w : World} {Ap An : Option Addr} {cp cn gw cw : Nat} {s : ShR} {ws : List ByteArray} (h : RowIn B Bw w Ap An cp cn gw cw s ws) (hl : 3 ≤ ws.length) (hx : wd ws 0 = wSlope) (hn : ws.length ≠ 5) : Calls Tryz.prog 88 #[.agg #[.int .i64 s.iv, .slice Ap s.pts.length cp, .slice An s.notes.length cn], .slice (some ⟨gw, 0, none⟩) ws.length cw] w fun e w' => RowQ s ws w e w' := by
  have hin := Lib.hid h
  obtain ⟨vp', vn', ehs, hp, hno⟩ := h.sh
  have hB := h.hB
  have hone := h.one
  simp at ehs
  obtain ⟨rfl, rfl⟩ := ehs
  have hcw : ws.length ≤ cw := by obtain ⟨A0, c0, e0, h1, _⟩ := h.wsr; cases e0; exact h1
  obtain ⟨W1, hW1, r1, z1, b1⟩ := box_any w #[.int .i64 s.iv, .slice Ap s.pts.length cp, .slice An s.notes.length cn] 25
  obtain ⟨W2, hW2, r2, z2, b2⟩ := box_any W1 #[.int .i64 0, .slice none 0 0, .slice none 0 0] 25
  have b12 := b1.trans (b2.mono b1.size)
  have q1 := (b2.block _ (by omega)).trans r1
  rw [z1] at r2
  have HBY := Lib.hid b12
  have HZ := Lib.hid (show W2.heap.size = w.heap.size + 2 by omega)
  have HC : Hid (∀ Z : World, Below W2.heap.size W2 Z → Z.cell? ⟨w.heap.size, 0, none⟩ = some (.int .i64 s.iv) ∧ Z.cell? ⟨w.heap.size, 1, none⟩ = some (.slice Ap s.pts.length cp) ∧ Z.cell? ⟨w.heap.size, 2, none⟩ = some (.slice An s.notes.length cn) ∧
      Z.heap[w.heap.size]? = some (.cells #[.int .i64 s.iv, .slice Ap s.pts.length cp, .slice An s.notes.length cn] 25) ∧ Z.heap[w.heap.size + 1]? = some (.cells #[.int .i64 0, .slice none 0 0, .slice none 0 0] 25) ∧ Below w.heap.size w Z) :=
    Lib.hid fun Z h => by
      have j1 := (h.block _ (lt_of_block q1)).trans q1
      have j2 := (h.block _ (lt_of_block r2)).trans r2
      exact ⟨cellOf j1 0 rfl, cellOf j1 1 rfl, cellOf j1 2 rfl, j1, j2, HBY.out.trans (h.mono HBY.out.size)⟩
  have HW : Hid (∀ (Z : World), Below w.heap.size w Z → ∀ i, i < ws.length → Z.cell? ⟨gw, i, none⟩ = some (.string (wd ws i))) := Lib.hid fun Z hZ i hi => word_at (hin.out.wsr.below (hZ.mono hin.out.hBw)) hi
  have HPl : Hid (∀ (Z : World), Below w.heap.size w Z → ∀ x, Calls Tryz.prog 93 #[.slice Ap s.pts.length cp, .string x] Z fun e w' => e = .returned (.int .i64 (plcF s.pts x)) ∧ Z = w') := Lib.hid fun Z hZ x => (place_any x (hp.below (hZ.mono hB))).mono fun e w' ⟨h1, h2⟩ => ⟨h1, h2.symm⟩
  have HPp : Hid (∀ (Z : World), Below w.heap.size w Z → Rd StrAt 1 B Z (.slice Ap s.pts.length cp) s.pts) := Lib.hid fun Z hZ => hp.below (hZ.mono hB)
  have HNn : Hid (∀ (Z : World), Below w.heap.size w Z → Rd NoteAt 5 B Z (.slice An s.notes.length cn) s.notes) := Lib.hid fun Z hZ => hno.below (hZ.mono hB)
  have hbx : Below W2.heap.size W2 W2 := Below.refl _ _
  obtain ⟨C0, C1, C2, R1, R4, hb⟩ := HC.out _ hbx
  have X0 := HW.out _ hb 0 (by omega)
  have Hr1 := Lib.hid R1
  have Hr4 := Lib.hid R4
  clear h r1 r2 z1 z2 b1 b2 b12 q1 hp hno R1 R4
  have HR := Lib.hid (show rowF s ws = none by unfold rowF; rw [if_neg (fun e => by omega), if_neg (by omega), if_neg (by rw [hx]; decide), if_neg (by rw [hx]; decide), if_neg (by rw [hx]; decide), if_pos hx, if_neg hn])
  have hn3 : ¬ ((ws.length : Int) < 3) := by omega
  have hn2 : ((ws.length : Int) == 2) = false := by simp; omega
  have hc2 : ¬ cw = 2 := by omega
  have hk : (((ws.length - 3 : Nat) : Int) != 2) = true := by simp; omega
  have HX0 := Lib.hid (show ∀ (Z : World), Below w.heap.size w Z → Z.cell? ⟨gw, 0, none⟩ = some (.string ⟨#[115, 108, 111, 112, 101]⟩) from fun Z hZ => by rw [HW.out Z hZ 0 (by omega), hx]; rfl)
  replace X0 := HX0.out _ hb
  clear hx
  go_enter Tryz.func88, Tryz.ntmps88
  go_upto_region 1 with (fail)
  rw [← hW1, ← hW2]
  clear hW1 hW2
  go_upto_region 6 with (fail)
  have X1 := Lib.hid (HW.out _ hb 1 (by omega))
  have HP1 := Lib.hid (show ∀ Z, Below w.heap.size w Z → Calls Tryz.prog 93 #[.slice Ap s.pts.length cp, .string (wd ws 1)] Z fun e w' => e = .returned (.int .i64 (plcF s.pts (wd ws 1))) ∧ Z = w' from fun Z hZ => HPl.out Z hZ _)
  have Hb := Lib.hid hb
  have Q1 := Lib.hid C1
  generalize plcF s.pts (wd ws 1) = pa at *
  generalize wd ws 1 = x1 at *
  have hl1 : ¬ ((ws.length : Int) ≤ 1) := by omega
  have hl2 : 1 < ws.length := by omega
  refine wp_region_ghost (AlI W2 (fun jj => ([.pointer (some ⟨w.heap.size, 1, none⟩), .slice Ap s.pts.length cp, .slice (some ⟨gw, 0, none⟩) ws.length cw, .pointer (some ⟨gw, 1, none⟩), .string x1, .int .i64 pa, .agg #[.int .i64 0, .int .i64 pa, .int .i64 0, .int .i64 0, .int .i64 0], undef, undef] : List Value).getD jj undef) 7 8 #[.int .i64 0, .int .i64 0, .int .i64 0, .int .i64 0, .int .i64 0] #[.int .i64 0, .int .i64 pa, .int .i64 0, .int .i64 0, .int .i64 0] 69) (by kernel_rfl) (by kernel_rfl) AlI.start ?_ ?_
  · refine ⟨?_, ?_, ?_, ?_, ?_, ?_, ?_, ?_, ?_, trivial⟩
    all_goals
      intro L vs X b hL hw hcl hI hf
    · have hb := hI.bel
      have e2 := hf.old 2 (by kernel_rfl)
      refine wp_of_run (v := .pointer (some ⟨w.heap.size, 1, none⟩)) (w' := X) (by unfold execOp; go_simp) ?_
      exact hI.read (by omega) (by omega) rfl
    · have hb := hI.bel
      have h0 : L 0 = true := done_of hw 0 (by kernel_rfl)
      have e33 : b.tmps[33]?.getD undef = .pointer (some ⟨w.heap.size, 1, none⟩) := (hf.new 0 33 rfl h0 (by simp)).trans (hI.vals 0 (by omega) (by omega) h0)
      have qQ1 := (hb.cell (cell_lt Q1.out)).trans Q1.out
      refine wp_of_run (v := .slice Ap s.pts.length cp) (w' := X) (by unfold execOp; go_simp) ?_
      exact hI.read (by omega) (by omega) rfl
    · have hb := hI.bel
      have e1 := hf.old 1 (by kernel_rfl)
      refine wp_of_run (v := .slice (some ⟨gw, 0, none⟩) ws.length cw) (w' := X) (by unfold execOp; go_simp) ?_
      exact hI.read (by omega) (by omega) rfl
    · have hb := hI.bel
      have h2 : L 2 = true := done_of hw 2 (by kernel_rfl)
      have e35 : b.tmps[35]?.getD undef = .slice (some ⟨gw, 0, none⟩) ws.length cw := (hf.new 2 35 rfl h2 (by simp)).trans (hI.vals 2 (by omega) (by omega) h2)
      refine wp_of_run (v := .pointer (some ⟨gw, 1, none⟩)) (w' := X) (by unfold execOp; go_simp) ?_
      exact hI.read (by omega) (by omega) rfl
    · have hb := hI.bel
      have h3 : L 3 = true := done_of hw 3 (by kernel_rfl)
      have e36 : b.tmps[36]?.getD undef = .pointer (some ⟨gw, 1, none⟩) := (hf.new 3 36 rfl h3 (by simp)).trans (hI.vals 3 (by omega) (by omega) h3)
      have qX1 := (hb.cell (cell_lt X1.out)).trans X1.out
      refine wp_of_run (v := .string x1) (w' := X) (by unfold execOp; go_simp) ?_
      exact hI.read (by omega) (by omega) rfl
    · have hb := hI.bel
      have h1 : L 1 = true := done_of hw 1 (by kernel_rfl)
      have e34 : b.tmps[34]?.getD undef = .slice Ap s.pts.length cp := (hf.new 1 34 rfl h1 (by simp)).trans (hI.vals 1 (by omega) (by omega) h1)
      have h4 : L 4 = true := done_of hw 4 (by kernel_rfl)
      have e37 : b.tmps[37]?.getD undef = .string x1 := (hf.new 4 37 rfl h4 (by simp)).trans (hI.vals 4 (by omega) (by omega) h4)
      refine wp_of_call (f := 93) (args := #[.slice Ap s.pts.length cp, .string x1]) (run_call_clo (.func 93) _ _ rfl (c := #[]) rfl renter93 (by simp [eval_tmp e34, eval_tmp e37])) ?_
      refine (HP1.out X (Hb.out.trans (hb.mono Hb.out.size))).mono ?_
      rintro e wz ⟨rfl, hz⟩
      subst hz
      exact ⟨_, rfl, hI.read (by omega) (by omega) rfl⟩
    · have hb := hI.bel
      have h5 : L 5 = true := done_of hw 5 (by kernel_rfl)
      have e38 : b.tmps[38]?.getD undef = .int .i64 pa := (hf.new 5 38 rfl h5 (by simp)).trans (hI.vals 5 (by omega) (by omega) h5)
      refine wp_of_run (v := .agg #[.int .i64 0, .int .i64 pa, .int .i64 0, .int .i64 0, .int .i64 0]) (w' := X) (by unfold execOp; go_simp) ?_
      exact hI.read (by omega) (by omega) rfl
    · have hb := hI.bel
      have n8 : L 8 = false := not_yet hcl 8 hL rfl (by kernel_rfl)
      refine wp_of_run (v := .pointer (some ⟨X.heap.size, 0, none⟩)) (w' := X.alloc (.cells #[.int .i64 0, .int .i64 0, .int .i64 0, .int .i64 0, .int .i64 0] 69)) (by unfold execOp; go_simp) ?_
      exact hI.alloc (by omega) n8
    · have hb := hI.bel
      have h7 : L 7 = true := done_of hw 7 (by kernel_rfl)
      have e6 : b.tmps[6]?.getD undef = vs 7 := hf.new 7 6 rfl h7 (by simp)
      have h6 : L 6 = true := done_of hw 6 (by kernel_rfl)
      have e39 : b.tmps[39]?.getD undef = .agg #[.int .i64 0, .int .i64 pa, .int .i64 0, .int .i64 0, .int .i64 0] := (hf.new 6 39 rfl h6 (by simp)).trans (hI.vals 6 (by omega) (by omega) h6)
      obtain ⟨g, q7, hg, hx⟩ := hI.unstored h7 hL
      rw [q7] at e6
      refine wp_store_row 69 (.tmp 6) (.tmp 39) rfl g #[.int .i64 0, .int .i64 pa, .int .i64 0, .int .i64 0, .int .i64 0] (eval_tmp e6) (eval_tmp e39) 69 _ hx (by kernel_rfl) rfl (by simp [Value.oneCell']) ?_
      exact ⟨_, rfl, hI.store (by omega) q7 hg hx⟩
  · intro vs X hI
    obtain ⟨gx, e6, hgx, rx⟩ := hI.al rfl
    replace rx : X.heap[gx]? = some (.cells #[.int .i64 0, .int .i64 pa, .int .i64 0, .int .i64 0, .int .i64 0] 69) := rx
    have hbX := hI.bel
    clear hI
    simp [fill, slotOf, Act.put]
    simp only [Exit.inBlock, Exit.then]
    rw [e6]
    clear e6
    generalize vs 0 = yg0
    generalize vs 1 = yg1
    generalize vs 2 = yg2
    generalize vs 3 = yg3
    generalize vs 4 = yg4
    generalize vs 5 = yg5
    generalize vs 6 = yg6
    generalize vs 7 = yg7
    generalize vs 8 = yg8
    obtain ⟨wx, rfl⟩ : ∃ wx : World, wx = X := ⟨_, rfl⟩
    replace hbx := hbx.trans (hbX.mono hbx.size)
    clear C0 C1 C2 hb X0 hbX Q1 HP1 Hb X1
    obtain ⟨C0, C1, C2, R1, R4, hb⟩ := HC.out _ hbx
    have X0 := HX0.out _ hb
    have Hr4x := Lib.hid R4
    have Hr1x := Lib.hid R1
    clear R1 R4
    obtain ⟨A9, hA9⟩ : ∃ A9, A9 = (if cw = 3 then (some ⟨gw, 0, none⟩ : Option Addr) else (some ⟨gw, 0, none⟩ : Option Addr).map (·.add (3 * 1))) := ⟨_, rfl⟩
    have HA9 := Lib.hid hA9
    clear hA9
    go_upto_region 9 with (fail)
    have X2 := Lib.hid (HW.out _ hb 2 (by omega))
    have HP2 := Lib.hid (show ∀ Z, Below w.heap.size w Z → Calls Tryz.prog 93 #[.slice Ap s.pts.length cp, .string (wd ws 2)] Z fun e w' => e = .returned (.int .i64 (plcF s.pts (wd ws 2))) ∧ Z = w' from fun Z hZ => HPl.out Z hZ _)
    have Hb := Lib.hid hb
    have Q1 := Lib.hid C1
    generalize plcF s.pts (wd ws 2) = pb at *
    generalize wd ws 2 = x2 at *
    have HRx := Lib.hid rx
    have hl3 : ¬ ((ws.length : Int) ≤ 2) := by omega
    have hsl := fun X : World => run_slice_lo22 (A := some ⟨gw, 0, none⟩) (k := ws.length) (c := cw) (a := 3) (by omega) X
    refine wp_region_ghost (StI wx ⟨gx, 2, none⟩ (.int .i64 pb) 9 (fun jj => ([.pointer (some ⟨w.heap.size, 1, none⟩), .slice Ap s.pts.length cp, .slice (some ⟨gw, 0, none⟩) ws.length cw, .pointer (some ⟨gw, 2, none⟩), .string x2, .int .i64 pb, .slice (some ⟨gw, 0, none⟩) ws.length cw, .slice A9 (ws.length - 3) (cw - 3), .pointer (some ⟨gx, 2, none⟩), undef, .slice A9 (ws.length - 3) (cw - 3)] : List Value).getD jj undef)) (by kernel_rfl) (by kernel_rfl) StI.start ?_ ?_
    · refine ⟨?_, ?_, ?_, ?_, ?_, ?_, ?_, ?_, ?_, ?_, ?_, trivial⟩
      all_goals
        intro L vs X b hL hw hcl hI hf
      · have e2 := hf.old 2 (by kernel_rfl)
        refine wp_of_run (v := .pointer (some ⟨w.heap.size, 1, none⟩)) (w' := X) (by unfold execOp; go_simp) ?_
        exact hI.read (by omega) rfl
      · have h0 : L 0 = true := done_of hw 0 (by kernel_rfl)
        have e52 : b.tmps[52]?.getD undef = .pointer (some ⟨w.heap.size, 1, none⟩) := (hf.new 0 52 rfl h0 (by simp)).trans (hI.vals 0 (by omega) h0)
        have n9 : L 9 = false := not_yet hcl 9 hL rfl (by kernel_rfl)
        have hw0 := hI.unst n9
        subst hw0
        have q0 := ((Below.refl _ _).drew.cell (cell_lt Q1.out)).trans Q1.out
        refine wp_of_run (v := .slice Ap s.pts.length cp) (w' := World.drew wx) (by unfold execOp; go_simp) ?_
        exact hI.read (by omega) rfl
      · have e1 := hf.old 1 (by kernel_rfl)
        refine wp_of_run (v := .slice (some ⟨gw, 0, none⟩) ws.length cw) (w' := X) (by unfold execOp; go_simp) ?_
        exact hI.read (by omega) rfl
      · have h2 : L 2 = true := done_of hw 2 (by kernel_rfl)
        have e54 : b.tmps[54]?.getD undef = .slice (some ⟨gw, 0, none⟩) ws.length cw := (hf.new 2 54 rfl h2 (by simp)).trans (hI.vals 2 (by omega) h2)
        refine wp_of_run (v := .pointer (some ⟨gw, 2, none⟩)) (w' := X) (by unfold execOp; go_simp) ?_
        exact hI.read (by omega) rfl
      · have h3 : L 3 = true := done_of hw 3 (by kernel_rfl)
        have e55 : b.tmps[55]?.getD undef = .pointer (some ⟨gw, 2, none⟩) := (hf.new 3 55 rfl h3 (by simp)).trans (hI.vals 3 (by omega) h3)
        have n9 : L 9 = false := not_yet hcl 9 hL rfl (by kernel_rfl)
        have hw0 := hI.unst n9
        subst hw0
        have q0 := ((Below.refl _ _).drew.cell (cell_lt X2.out)).trans X2.out
        refine wp_of_run (v := .string x2) (w' := World.drew wx) (by unfold execOp; go_simp) ?_
        exact hI.read (by omega) rfl
      · have h1 : L 1 = true := done_of hw 1 (by kernel_rfl)
        have e53 : b.tmps[53]?.getD undef = .slice Ap s.pts.length cp := (hf.new 1 53 rfl h1 (by simp)).trans (hI.vals 1 (by omega) h1)
        have h4 : L 4 = true := done_of hw 4 (by kernel_rfl)
        have e56 : b.tmps[56]?.getD undef = .string x2 := (hf.new 4 56 rfl h4 (by simp)).trans (hI.vals 4 (by omega) h4)
        have n9 : L 9 = false := not_yet hcl 9 hL rfl (by kernel_rfl)
        have hw0 := hI.unst n9
        subst hw0
        refine wp_of_call (f := 93) (args := #[.slice Ap s.pts.length cp, .string x2]) (run_call_clo (.func 93) _ _ rfl (c := #[]) rfl renter93 (by simp [eval_tmp e53, eval_tmp e56])) ?_
        refine (HP2.out _ (Hb.out.trans ((Below.refl _ _).drew))).mono ?_
        rintro e wz ⟨rfl, hz⟩
        subst hz
        exact ⟨_, rfl, hI.read (by omega) rfl⟩
      · have e1 := hf.old 1 (by kernel_rfl)
        refine wp_of_run (v := .slice (some ⟨gw, 0, none⟩) ws.length cw) (w' := X) (by unfold execOp; go_simp) ?_
        exact hI.read (by omega) rfl
      · have h6 : L 6 = true := done_of hw 6 (by kernel_rfl)
        have e58 : b.tmps[58]?.getD undef = .slice (some ⟨gw, 0, none⟩) ws.length cw := (hf.new 6 58 rfl h6 (by simp)).trans (hI.vals 6 (by omega) h6)
        refine wp_of_run (v := .slice A9 (ws.length - 3) (cw - 3)) (w' := X) (run_exec_sliceR 22 (.tmp 58) (some (.const (.int .i64 3))) none none rfl (vx := .slice (some ⟨gw, 0, none⟩) ws.length cw) (vlo := some (.int .i64 3)) (vhi := none) (vmx := none) (eval_tmp e58) rfl rfl rfl (by rw [HA9.out]; exact hsl X)) ?_
        exact hI.read (by omega) rfl
      · have e6 := hf.old 6 (by kernel_rfl)
        refine wp_of_run (v := .pointer (some ⟨gx, 2, none⟩)) (w' := X) (by unfold execOp; go_simp) ?_
        exact hI.read (by omega) rfl
      · have h8 : L 8 = true := done_of hw 8 (by kernel_rfl)
        have e60 : b.tmps[60]?.getD undef = .pointer (some ⟨gx, 2, none⟩) := (hf.new 8 60 rfl h8 (by simp)).trans (hI.vals 8 (by omega) h8)
        have h5 : L 5 = true := done_of hw 5 (by kernel_rfl)
        have e57 : b.tmps[57]?.getD undef = .int .i64 pb := (hf.new 5 57 rfl h5 (by simp)).trans (hI.vals 5 (by omega) h5)
        have hw0 := hI.unst hL
        subst hw0
        have rx2 := ((Below.refl _ _).drew.block _ (lt_of_block HRx.out)).trans HRx.out
        have q0 := cellOf rx2 2 rfl
        have fx : (World.drew wx).frozen? ⟨gx, 2, none⟩ = false := by simp [World.frozen?, rx2]
        refine wp_of_skip (w' := (World.drew wx).setCell ⟨gx, 2, none⟩ (.int .i64 pb)) (by unfold execOp; go_simp) ?_
        exact hI.store
      · have h7 : L 7 = true := done_of hw 7 (by kernel_rfl)
        have e59 : b.tmps[59]?.getD undef = .slice A9 (ws.length - 3) (cw - 3) := (hf.new 7 59 rfl h7 (by simp)).trans (hI.vals 7 (by omega) h7)
        refine wp_of_run (v := .slice A9 (ws.length - 3) (cw - 3)) (w' := X) (by unfold execOp; go_simp) ?_
        exact hI.read (by omega) rfl
    · intro vs X hI
      have v10 := hI.vals 10 (by omega) rfl
      have hX := hI.done rfl
      clear hI
      simp [fill, slotOf, Act.put]
      simp only [Exit.inBlock, Exit.then]
      rw [v10]
      simp only [List.getD_cons_succ, List.getD_cons_zero]
      clear v10
      generalize vs 0 = yh0
      generalize vs 1 = yh1
      generalize vs 2 = yh2
      generalize vs 3 = yh3
      generalize vs 4 = yh4
      generalize vs 5 = yh5
      generalize vs 6 = yh6
      generalize vs 7 = yh7
      generalize vs 8 = yh8
      generalize vs 9 = yh9
      generalize vs 10 = yh10
      replace hbx : Below W2.heap.size W2 X := by rw [hX]; exact hbx.drew.setCell hgx _
      have rx : X.heap[gx]? = some (.cells #[.int .i64 0, .int .i64 pa, .int .i64 pb, .int .i64 0, .int .i64 0] 69) := by rw [hX]; exact (heap_setCell_row (w := World.drew wx) HRx.out _).trans rfl
      clear hX C0 C1 C2 hb X0 Q1 X2 HP2 Hb hsl HRx Hr4x Hr1x
      obtain ⟨wx, rfl⟩ : ∃ wx : World, wx = X := ⟨_, rfl⟩
      obtain ⟨C0, C1, C2, R1, R4, hb⟩ := HC.out _ hbx
      have X0 := HX0.out _ hb
      have Hr4x := Lib.hid R4
      have Hr1x := Lib.hid R1
      clear R1 R4
      have fz : wx.frozen? ⟨gx, 0, none⟩ = false := by simp [World.frozen?, rx]
      have gz := cellOf rx 0 rfl
      go_upto_region 21 with (fail)
      obtain ⟨Y, hY⟩ : ∃ Y, Y = wx.setCell ⟨gx, 0, none⟩ (.int .i64 4) := ⟨_, rfl⟩
      rw [← hY]
      have rY : Y.heap[gx]? = some (.cells #[.int .i64 4, .int .i64 pa, .int .i64 pb, .int .i64 0, .int .i64 0] 69) := by rw [hY]; exact (heap_setCell_row rx _).trans rfl
      replace hbx : Below W2.heap.size W2 Y := by rw [hY]; exact hbx.setCell hgx _
      clear hY C0 C1 C2 hb X0
      obtain ⟨C0, C1, C2, R1, R4, hb⟩ := HC.out _ hbx
      have X0 := HX0.out _ hb
      have Hr4Y := Lib.hid R4
      have Hr1Y := Lib.hid R1
      clear R1 R4
      clear fz gz rx rY
      go_wp2_with (refine wpList_store_row rfl 25 (.tmp 4) (.tmp 81) rfl (w.heap.size + 1) #[.int .i64 s.iv, .slice Ap s.pts.length cp, .slice An s.notes.length cn] rfl rfl 25 _ Hr4Y.out (by kernel_rfl) rfl (by simp [Value.oneCell']) ?_)
      have k4 := setRow_heap Y (w.heap.size + 1) _ #[.int .i64 s.iv, .slice Ap s.pts.length cp, .slice An s.notes.length cn] 25 (0, 0) Hr4Y.out
      exact bodyPost_ret (results88 k4 rfl rfl) rfl (rowQ_none HR.out (hb.trans (setRow_below _ (by omega))))
end Go.Proofs.YtajdgdelhlfniaaGreatDoor
