/- Parts of the proof of TpP: Txt2, Txt3. -/
import Derived.Test.YthnimhnlnddnoaaGreatDoorH4
import Derived.Test.YthnimhnlnddnoaaGreatDoorH13
import Derived.Test.YthnimhnlnddnoaaGreatDoorH7
import Derived.WalkMore
import Derived.WalkKit
import Derived.Deep.Quiet
import Derived.Laws.ByValue
set_option linter.unusedSimpArgs false
set_option linter.unusedVariables false
set_option maxRecDepth 100000
set_option maxHeartbeats 8000000
namespace Go.Proofs.YthnimhnlnddnoaaGreatDoor
open Go.RowKit
theorem line_new {w : World} {B b : Nat} {l : List UInt8} (xs : List ByteArray) (cs : Array Value) (hcs : cs = (xs.map Value.string).toArray) (n : Nat) (hn : n = xs.length) (hbd : Bld B b l w)
  (hx : xs.length ≤ 100) (hlen : l.length + (lineB (xs.map (·.data.toList))).length ≤ 1000000) (hBw : B ≤ w.heap.size) :
  Calls Tryz.prog 99 #[.slice (some ⟨w.heap.size, 0, none⟩) n n, .pointer (some ⟨b, 0, none⟩)] (w.alloc (.cells cs 9)) fun e w' => e = .returned (.tuple #[]) ∧ Bld B b (l ++ lineB (xs.map (·.data.toList))) w' ∧ Below B w w' := by
 subst hcs hn
 refine (line_any (w := w.alloc (.cells (xs.map Value.string).toArray 9)) xs ⟨builder_below hbd.1 ((Below.refl _ _).alloc (Nat.le_refl _) _), hbd.2⟩ (fun j x hj => ?_) (by simp) (Nat.le_refl _) hx hlen (by simp; omega)).mono ?_
 ·refine (cell_of_row _ _ (0 + j) _ _ _ (heap_alloc_new w _)).trans ?_
  simp [hj]
 ·rintro e w' ⟨rfl, hb, hk⟩
  exact ⟨rfl, hb, ((Below.refl B w).alloc hBw _).trans hk⟩
theorem lineB_len {ws : List (List UInt8)} {m : Nat} (h : ∀ x ∈ ws, x.length ≤ m) : (lineB ws).length ≤ ws.length * (m + 1) + 1 := by
 unfold lineB
 rw [List.length_append]
 have : (Lib.join ws [32]).length ≤ ws.length * (m + 1) := by
  cases ws with
  | nil => simp [Lib.join_nil]
  | cons x r =>
   rw [Lib.join_cons, List.length_append]
   have h1 : (Lib.joinTail [32] r).length ≤ r.length * (m + 1) := by
    have h2 : ∀ y ∈ r, y.length ≤ m := fun y hy => h y (List.mem_cons_of_mem _ hy)
    clear h
    unfold Lib.joinTail
    induction r with
    | nil => simp
    | cons y r ih =>
     simp only [List.map_cons, List.flatten_cons, List.length_append, List.length_cons, List.length_nil]
     have := h2 y (List.mem_cons_self ..)
     have := ih (fun z hz => h2 z (List.mem_cons_of_mem _ hz))
     rw [Nat.add_mul]
     omega
   have := h x (List.mem_cons_self ..)
   rw [List.length_cons, Nat.add_mul]
   omega
 simp only [List.length_cons, List.length_nil]
 omega
theorem flatB_len {α : Type} {l : List α} {f : α → List UInt8} {m : Nat} (h : ∀ x ∈ l, (f x).length ≤ m) : (l.flatMap f).length ≤ l.length * m := by
 induction l with
 | nil => simp
 | cons x r ih =>
  rw [List.flatMap_cons, List.length_append, List.length_cons, Nat.add_mul]
  have := h x (List.mem_cons_self ..)
  have := ih (fun y hy => h y (List.mem_cons_of_mem _ hy))
  omega
def itB (n : Int) : ByteArray := ⟨(Lib.itoa n).toArray⟩
def ptAt (s : ShR) (i : Int) : ByteArray := s.pts[i.toNat]?.getD ByteArray.empty
def wSheet : ByteArray := ⟨#[115, 104, 101, 101, 116]⟩
def wPoint : ByteArray := ⟨#[112, 111, 105, 110, 116]⟩
def wSpot : ByteArray := ⟨#[115, 112, 111, 116]⟩
def wContour : ByteArray := ⟨#[99, 111, 110, 116, 111, 117, 114]⟩
def wLake : ByteArray := ⟨#[108, 97, 107, 101]⟩
def wSlope : ByteArray := ⟨#[115, 108, 111, 112, 101]⟩
def noteW (s : ShR) (x : NoteR) : List ByteArray :=
 if x.kind = 1 then [wSpot, ptAt s x.a, itB x.lo, itB x.hi]
 else if x.kind = 2 then [wContour, ptAt s x.a, itB x.lo, itB x.hi]
 else if x.kind = 3 then [wLake, ptAt s x.a, ptAt s x.b]
 else [wSlope, ptAt s x.a, ptAt s x.b, itB x.lo, itB x.hi]
def lineW (ws : List ByteArray) : List UInt8 := lineB (ws.map (·.data.toList))
def headB (s : ShR) : List UInt8 := lineW [wSheet, itB s.iv]
def ptsB (l : List ByteArray) : List UInt8 := l.flatMap fun p => lineW [wPoint, p]
def notesB (s : ShR) (l : List NoteR) : List UInt8 := l.flatMap fun x => lineW (noteW s x)
def textB (s : ShR) : List UInt8 := headB s ++ ptsB s.pts ++ notesB s s.notes
theorem ptsB_snoc {l : List ByteArray} {k : Nat} (hk : k < l.length) : ptsB (l.take (k + 1)) = ptsB (l.take k) ++ lineW [wPoint, l[k]?.getD ByteArray.empty] := by
 rw [List.take_add_one, List.getElem?_eq_getElem hk]
 unfold ptsB
 rw [List.flatMap_append]
 simp
theorem notesB_snoc {s : ShR} {l : List NoteR} {k : Nat} (hk : k < l.length) : notesB s (l.take (k + 1)) = notesB s (l.take k) ++ lineW (noteW s (l[k]?.getD default)) := by
 rw [List.take_add_one, List.getElem?_eq_getElem hk]
 unfold notesB
 rw [List.flatMap_append]
 simp
theorem itB_len {n : Int} (h0 : -9223372036854775808 ≤ n) (h1 : n ≤ 9223372036854775807) : (itB n).data.toList.length ≤ 21 := by
 unfold itB
 simpa using Lib.itoa_length_le n h0 h1
theorem name_len {p : ByteArray} (h : nameB p = true) : p.data.toList.length ≤ 21 := by
 unfold nameB nameL at h
 split at h
 ·rename_i e
  rw [e]
  simp
 ·rw [Bool.and_eq_true, decide_eq_true_eq] at h
  exact Nat.le_trans h.2 (by omega)
theorem ptAt_len {s : ShR} (hg : Good s) (i : Int) : (ptAt s i).data.toList.length ≤ 21 := by
 unfold ptAt
 cases h : s.pts[i.toNat]? with
 | none => simp
 | some p => exact name_len (hg.names p (List.mem_of_getElem? h))
theorem lineW_len {ws : List ByteArray} (hn : ws.length ≤ 5) (h : ∀ x ∈ ws, x.data.toList.length ≤ 21) : (lineW ws).length ≤ 200 := by
 have := lineB_len (ws := ws.map (·.data.toList)) (m := 21) (fun x hx => by
  obtain ⟨y, hy, rfl⟩ := List.mem_map.1 hx
  exact h y hy)
 unfold lineW
 rw [List.length_map] at this
 have : ws.length * 22 ≤ 5 * 22 := Nat.mul_le_mul_right _ hn
 omega
theorem noteOK_int {np : Nat} {iv : Int} {x : NoteR} (h : NoteOK np iv x) (hiv : 1 ≤ iv) : (-9000 ≤ x.lo ∧ x.lo ≤ 9000) ∧ -9000 ≤ x.hi ∧ x.hi ≤ 9000 := by
 have hle := h.le
 rcases (show x.kind = 1 ∨ x.kind = 2 ∨ x.kind = 3 ∨ x.kind = 4 by have := h.kind; omega) with k | k | k | k
 ·have := h.spot k; omega
 ·obtain ⟨h1, h2, h3⟩ := h.band k
  have : x.hi * 1 ≤ x.hi * iv := Int.mul_le_mul_of_nonneg_left hiv (by omega)
  omega
 ·have := h.lake k; omega
 ·have := h.slope k; omega
theorem noteW_len {s : ShR} (hg : Good s) {x : NoteR} (hx : x ∈ s.notes) : (lineW (noteW s x)).length ≤ 200 := by
 obtain ⟨⟨h1, h2⟩, h3, h4⟩ := noteOK_int (hg.notes x hx) hg.iv.1
 have p1 := ptAt_len hg x.a
 have p2 := ptAt_len hg x.b
 have l1 := itB_len (n := x.lo) (by omega) (by omega)
 have l2 := itB_len (n := x.hi) (by omega) (by omega)
 unfold noteW
 split
 ·exact lineW_len (by simp) (by simp only [List.mem_cons, List.not_mem_nil, or_false]; rintro y (rfl | rfl | rfl | rfl) <;> first | assumption | decide)
 ·split
  ·exact lineW_len (by simp) (by simp only [List.mem_cons, List.not_mem_nil, or_false]; rintro y (rfl | rfl | rfl | rfl) <;> first | assumption | decide)
  ·split
   ·exact lineW_len (by simp) (by simp only [List.mem_cons, List.not_mem_nil, or_false]; rintro y (rfl | rfl | rfl) <;> first | assumption | decide)
   ·exact lineW_len (by simp) (by simp only [List.mem_cons, List.not_mem_nil, or_false]; rintro y (rfl | rfl | rfl | rfl | rfl) <;> first | assumption | decide)
theorem headB_len {s : ShR} (hg : Good s) : (headB s).length ≤ 200 :=
 lineW_len (by simp) (by
  have l1 := itB_len (n := s.iv) (by have := hg.iv; omega) (by have := hg.iv; omega)
  simp only [List.mem_cons, List.not_mem_nil, or_false]
  rintro y (rfl | rfl) <;> first | assumption | decide)
theorem ptsB_len {s : ShR} (hg : Good s) {l : List ByteArray} (hl : ∀ p ∈ l, p ∈ s.pts) : (ptsB l).length ≤ l.length * 200 :=
 flatB_len fun p hp => lineW_len (by simp) (by
  have l1 := name_len (hg.names p (hl p hp))
  simp only [List.mem_cons, List.not_mem_nil, or_false]
  rintro y (rfl | rfl) <;> first | assumption | decide)
theorem notesB_len {s : ShR} (hg : Good s) {l : List NoteR} (hl : ∀ p ∈ l, p ∈ s.notes) : (notesB s l).length ≤ l.length * 200 :=
 flatB_len fun p hp => noteW_len hg (hl p hp)
end Go.Proofs.YthnimhnlnddnoaaGreatDoor
namespace Go.Proofs.YthnimhnlnddnoaaGreatDoor
open Go.RowKit
theorem run_alloc151 (w : World) : (Instr.alloc 159 true (.tuple #[])).run Tryz.prog w = .ok (.pointer (some ⟨w.heap.size, 0, none⟩)) (w.alloc (.cells #[.pointer none, .slice none 0 0] 159)) := by kernel_rfl
theorem wpList_alloc_bld {ops : Array Oper} {rest : List Oper} {o : Oper} {a : Act} {w : World} {Q : Exit → Act → World → Prop} (hgd : o.guard = none) (ho : o.op = .alloc 159)
  (h : wpList Tryz.prog ops Q rest (a.put o.dst (.pointer (some ⟨w.heap.size, 0, none⟩))) (w.alloc (.cells #[.pointer none, .slice none 0 0] 159))) : wpList Tryz.prog ops Q (o :: rest) a w := by
 refine wpList_plain hgd fun K hK => ?_
 unfold Oper.wp execOp
 rw [ho]
 simp only [Sem.run_bind, Sem.run_pure, run_alloc151, Result.andThen_ok]
 exact hK _ _ h
theorem run_bs2 (a b : ByteArray) (w : World) : (Instr.buildSlice 35 2 #[(0, .string a), (1, .string b)]).run Tryz.prog w = .ok (.slice (some ⟨w.heap.size, 0, none⟩) 2 2) (w.alloc (.cells #[.string a, .string b] 9)) := by kernel_rfl
theorem run_bs3 (a b c : ByteArray) (w : World) : (Instr.buildSlice 35 3 #[(0, .string a), (1, .string b), (2, .string c)]).run Tryz.prog w = .ok (.slice (some ⟨w.heap.size, 0, none⟩) 3 3) (w.alloc (.cells #[.string a, .string b, .string c] 9)) := by kernel_rfl
theorem run_bs4 (a b c d : ByteArray) (w : World) : (Instr.buildSlice 35 4 #[(0, .string a), (1, .string b), (2, .string c), (3, .string d)]).run Tryz.prog w = .ok (.slice (some ⟨w.heap.size, 0, none⟩) 4 4) (w.alloc (.cells #[.string a, .string b, .string c, .string d] 9)) := by kernel_rfl
theorem run_bs5 (a b c d e : ByteArray) (w : World) : (Instr.buildSlice 35 5 #[(0, .string a), (1, .string b), (2, .string c), (3, .string d), (4, .string e)]).run Tryz.prog w = .ok (.slice (some ⟨w.heap.size, 0, none⟩) 5 5) (w.alloc (.cells #[.string a, .string b, .string c, .string d, .string e] 9)) := by kernel_rfl
theorem wpList_bs {ops : Array Oper} {rest : List Oper} {o : Oper} {a : Act} {w : World} {Q : Exit → Act → World → Prop} (hgd : o.guard = none) (n : Nat) (parts : Array (Nat × Operand)) (ho : o.op = .buildSlice 35 n parts)
  {vs : Array (Nat × Value)} (hv : parts.toList.map (fun (i, x) => (i, a.eval x)) = vs.toList) {cs : Array Value} (hr : (Instr.buildSlice 35 n vs).run Tryz.prog w = .ok (.slice (some ⟨w.heap.size, 0, none⟩) n n) (w.alloc (.cells cs 9)))
  (h : wpList Tryz.prog ops Q rest (a.put o.dst (.slice (some ⟨w.heap.size, 0, none⟩) n n)) (w.alloc (.cells cs 9))) : wpList Tryz.prog ops Q (o :: rest) a w := by
 refine wpList_plain hgd fun K hK => ?_
 unfold Oper.wp execOp
 rw [ho]
 have hv : parts.map (fun (i, x) => (i, a.eval x)) = vs := by
  rw [← Array.toList_inj, Array.toList_map]
  exact hv
 simp only [Sem.run_bind, Sem.run_pure, hv, hr, Result.andThen_ok]
 exact hK _ _ h
theorem enter102 : ∀ args w, (callFunc 99 args).run Tryz.prog w = .ok (.enter 99 args) w := enters_of Tryz.func99 (by kernel_rfl) rfl
theorem line_note {w : World} {b j : Nat} {T0 : List UInt8} {s : ShR} {x : NoteR} (hg : Good s) (hx : x ∈ s.notes) (hj : j < s.notes.length) (hxj : s.notes[j]?.getD default = x) (hT : T0.length ≤ 1800) (ws : List ByteArray) (hw : noteW s x = ws) (cs : Array Value) (hcs : cs = (ws.map Value.string).toArray) (n : Nat) (hn : n = ws.length)
  (hbd : Bld b b (T0 ++ notesB s (s.notes.take j)) w) (hBw : b ≤ w.heap.size) :
  Calls Tryz.prog 99 #[.slice (some ⟨w.heap.size, 0, none⟩) n n, .pointer (some ⟨b, 0, none⟩)] (w.alloc (.cells cs 9)) fun e w' => e = .returned (.tuple #[]) ∧ Bld b b (T0 ++ notesB s (s.notes.take (j + 1))) w' ∧ Below b w w' := by
 subst hw
 have hl := notesB_len hg (l := s.notes.take j) (fun p hp => List.mem_of_mem_take hp)
 have h3 : (lineB ((noteW s x).map (·.data.toList))).length ≤ 200 := noteW_len hg hx
 have hln : (s.notes.take j).length ≤ 12 := by have := hg.nlen; simp; omega
 have hwl : (noteW s x).length ≤ 100 := by
  unfold noteW
  split
  ·simp
  ·split
   ·simp
   ·split <;> simp
 have := line_new (noteW s x) cs hcs n hn hbd hwl (by
  rw [List.length_append]
  have := Nat.mul_le_mul_right 200 hln
  omega) hBw
 rw [show lineB ((noteW s x).map (·.data.toList)) = lineW (noteW s x) from rfl, List.append_assoc, ← hxj, ← notesB_snoc hj] at this
 exact this
theorem text_any {B : Nat} {w : World} {v : Value} {s : ShR} (hs : RdSh B w v s) (hg : Good s) (hB : B ≤ w.heap.size) (hgl : Glob w) :
  Calls Tryz.prog 64 #[v] w fun e w' => e = .returned (.string ⟨(textB s).toArray⟩) ∧ Below w.heap.size w w' := by
 obtain ⟨vp, vn, rfl, hp, ho⟩ := id hs
 obtain ⟨Ap, cp, rfl, h3, h4, _⟩ := id hp
 obtain ⟨An, cn, rfl, h5, h6, _⟩ := id ho
 obtain ⟨W1, hW1, r1, z1, d1⟩ := box_any w #[.int .i64 s.iv, .slice Ap s.pts.length cp, .slice An s.notes.length cn] 38
 obtain ⟨W2, hW2, r2, z2, d2⟩ := box_any W1 #[.pointer none, .slice none 0 0] 159
 have d12 : Below w.heap.size w W2 := d1.trans (d2.mono d1.size)
 have k2 := (d2.block _ (lt_of_block r1)).trans r1
 have hpl8 := hg.plen.2
 have hnl12 := hg.nlen
 have HG := Lib.hid hg
 have hp2 := Lib.hid hp
 have ho2 := Lib.hid ho
 have Hb2 : Hid (Bld W1.heap.size W1.heap.size [] W2) := Lib.hid ⟨.inl ⟨Nat.le_refl _, _, r2, World.ownsRow_nil _ _ _ _, by simp [Value.ownBlock]⟩, by simp⟩
 have HD := Lib.hid d12
 have HS := Lib.hid hs
 have HGl := Lib.hid hgl
 have q0 := cellOf k2 0 rfl
 have q1 := cellOf k2 1 rfl
 have q2 := cellOf k2 2 rfl
 have HK2 := Lib.hid k2
 have hb1 : w.heap.size + 1 = W1.heap.size := z1.symm
 have hb2 : W2.heap.size = W1.heap.size + 1 := z2
 have hIt := itoa_any (w := W2) s.iv (by have := hg.iv; omega) (by have := hg.iv; omega) (hgl.below d12)
 rw [show (⟨(Lib.itoa s.iv).toArray⟩ : ByteArray) = itB s.iv from rfl] at hIt
 have HL1 : Hid (∀ w3, Below W2.heap.size W2 w3 → Calls Tryz.prog 99 #[.slice (some ⟨w3.heap.size, 0, none⟩) 2 2, .pointer (some ⟨W1.heap.size, 0, none⟩)] (w3.alloc (.cells #[.string ⟨#[115, 104, 101, 101, 116]⟩, .string (itB s.iv)] 9)) fun e w' => e = .returned (.tuple #[]) ∧ Bld W1.heap.size W1.heap.size (headB s) w' ∧ Below W1.heap.size w3 w') :=
  Lib.hid fun w3 hb3 => line_new (l := []) [wSheet, itB s.iv] #[.string wSheet, .string (itB s.iv)] rfl 2 rfl ⟨builder_below Hb2.out.1 hb3, Hb2.out.2⟩ (by simp) (Nat.le_trans (Nat.add_le_add_left (headB_len hg) _) (by simp)) (by have := hb3.size; omega)
 have HIt := Lib.hid hIt
 clear hIt
 generalize itB s.iv = S0 at *
 clear hg hs hp ho hgl r1 r2 d1 d2 d12 k2 h3 h4 h5 h6
 go_enter Tryz.func64, Tryz.ntmps64
 go_upto_region 1 with (fail)
 rw [← hW1]
 clear hW1
 go_upto_region 3 with (first | (refine wpList_alloc_bld rfl rfl ?_; rw [← hW2]; simp only [Act.put, List.setIfInBounds_toArray, List.set_cons_succ, List.set_cons_zero]) | (refine wpList_mkfn (v := .pointer (some ⟨W1.heap.size, 0, none⟩)) rfl _ _ rfl rfl ?_; simp only [Act.put, List.setIfInBounds_toArray, List.set_cons_succ, List.set_cons_zero]))
 clear hW2
 go_upto_region 4 with (first | (go_at_call 102; refine HIt.out.mono ?_; rintro e w3 ⟨rfl, hb3⟩; dsimp only) | (refine wpList_bs rfl 2 _ rfl (vs := #[(0, .string ⟨#[115, 104, 101, 101, 116]⟩), (1, .string S0)]) rfl (run_bs2 _ _ _) ?_; simp only [Act.put, List.setIfInBounds_toArray, List.set_cons_succ, List.set_cons_zero]) | (refine wpList_call_clo rfl _ _ _ rfl rfl enter102 (HL1.out _ hb3) rfl ?_; rintro w4 ⟨hd4, hb4⟩; simp only [Act.put, List.setIfInBounds_toArray, List.set_cons_succ, List.set_cons_zero]))
 have HB4 := Lib.hid (((hb3.mono (by omega)).trans hb4 : Below W1.heap.size W2 w4))
 have HD4 := Lib.hid hd4
 have k4 := (HB4.out.block w.heap.size (by omega)).trans HK2.out
 have q0 := cellOf k4 0 rfl
 have q1 := cellOf k4 1 rfl
 have q2 := cellOf k4 2 rfl
 clear hd4 hb4 hb3 HL1 HIt k4
 go_wp2
 go_loopw [21] (fun i wr => ∃ k : Nat, k ≤ s.pts.length ∧ i = .int .i64 k ∧ Below W1.heap.size W2 wr ∧ Bld W1.heap.size W1.heap.size (headB s ++ ptsB (s.pts.take k)) wr) (fun i _ => s.pts.length - (intOf i).toNat)
 case atStart => exact ⟨0, Nat.zero_le _, rfl, HB4.out, by simpa [ptsB] using HD4.out⟩
 case round =>
  obtain ⟨k, hk, rfl, hbr, hdr⟩ := hrel
  have hB2 := HD.out.trans (hbr.mono (show w.heap.size ≤ W1.heap.size by omega))
  have hzr := hbr.size
  by_cases hlt : k < s.pts.length
  ·obtain ⟨ad, rfl, _, hc⟩ := (hp2.out.below (hB2.mono hB)).str hlt
   have hmem : s.pts[k]?.getD ByteArray.empty ∈ s.pts := by rw [List.getElem?_eq_getElem hlt]; exact List.getElem_mem hlt
   have hl1 := headB_len HG.out
   have hl2 := ptsB_len HG.out (l := s.pts.take k) (fun p hp => List.mem_of_mem_take hp)
   have hl3 := lineW_len (ws := [wPoint, s.pts[k]?.getD ByteArray.empty]) (by simp) (by
    have l1 := name_len (HG.out.names _ hmem)
    simp only [List.mem_cons, List.not_mem_nil, or_false]
    rintro y (rfl | rfl) <;> first | assumption | decide)
   have hln : (s.pts.take k).length ≤ 8 := by have := HG.out.plen; simp; omega
   have hcl := line_new [wPoint, s.pts[k]?.getD ByteArray.empty] #[.string ⟨#[112, 111, 105, 110, 116]⟩, .string (s.pts[k]?.getD ByteArray.empty)] rfl 2 rfl hdr (by simp) (by
    rw [List.length_append]
    have : (lineB ([wPoint, s.pts[k]?.getD ByteArray.empty].map (·.data.toList))).length ≤ 200 := hl3
    have := Nat.mul_le_mul_right 200 hln
    omega) (by omega)
   rw [show lineB ([wPoint, s.pts[k]?.getD ByteArray.empty].map (·.data.toList)) = lineW [wPoint, s.pts[k]?.getD ByteArray.empty] from rfl, List.append_assoc, ← ptsB_snoc hlt] at hcl
   have HCl := Lib.hid hcl
   have HBr := Lib.hid hbr
   clear hcl hl1 hl2 hl3 hmem hln hbr hdr hB2
   generalize s.pts[k]?.getD ByteArray.empty = pk at *
   go_wp2_with (first | (refine wpList_bs rfl 2 _ rfl (vs := #[(0, .string ⟨#[112, 111, 105, 110, 116]⟩), (1, .string pk)]) rfl (run_bs2 _ _ _) ?_; simp only [Act.put, List.setIfInBounds_toArray, List.set_cons_succ, List.set_cons_zero]) | (refine wpList_call_clo rfl _ _ _ rfl rfl enter102 (v := .tuple #[]) (ws := #[.slice (some ⟨wr.heap.size, 0, none⟩) 2 2, .pointer (some ⟨W1.heap.size, 0, none⟩)]) (R := fun w' => Bld W1.heap.size W1.heap.size (headB s ++ ptsB (s.pts.take (k+1))) w' ∧ Below W1.heap.size wr w') HCl.out rfl ?_; rintro w6 ⟨hd6, hb6⟩; simp only [Act.put, List.setIfInBounds_toArray, List.set_cons_succ, List.set_cons_zero]))
   go_roundw
   case rel => exact ⟨k + 1, by omega, by go_num, HBr.out.trans hb6, hd6⟩
   case measure => simp [intOf]; omega
  ·obtain rfl : k = s.pts.length := by omega
   have kr := (hbr.block w.heap.size (by omega)).trans HK2.out
   have q0 := cellOf kr 0 rfl
   have q1 := cellOf kr 1 rfl
   have q2 := cellOf kr 2 rfl
   rw [List.take_length] at hdr
   have hpl := ptsB_len HG.out (l := s.pts) (fun p hp => hp)
   have hhl := headB_len HG.out
   have hhp : (headB s ++ ptsB s.pts).length ≤ 1800 := by
    have := HG.out.plen.2
    have := Nat.mul_le_mul_right 200 this
    rw [List.length_append]
    omega
   generalize hT0 : headB s ++ ptsB s.pts = T0 at *
   have HT := Lib.hid hhp
   have HBr := Lib.hid hbr
   have HDr := Lib.hid hdr
   clear hbr hdr hB2 hzr hpl hhl kr
   go_wp2
   obtain ⟨wo, rfl⟩ : ∃ wo : World, wo = wr := ⟨_, rfl⟩
   go_loopw [33] (fun i wi => ∃ j : Nat, j ≤ s.notes.length ∧ i = .int .i64 j ∧ Below W1.heap.size W2 wi ∧ Bld W1.heap.size W1.heap.size (T0 ++ notesB s (s.notes.take j)) wi) (fun i _ => s.notes.length - (intOf i).toNat)
   case atStart => exact ⟨0, Nat.zero_le _, rfl, HBr.out, by simpa [notesB] using HDr.out⟩
   case round =>
    obtain ⟨j, hj, rfl, hbi, hdi⟩ := hrel
    have hB2 := HD.out.trans (hbi.mono (show w.heap.size ≤ W1.heap.size by omega))
    have hzi := hbi.size
    have hzi' : W1.heap.size ≤ wr.heap.size := by omega
    by_cases hltj : j < s.notes.length
    ·obtain ⟨ad, rfl, _, n0, n1, n2, n3, n4⟩ := (ho2.out.below (hB2.mono hB)).note hltj
     have hmem : s.notes[j]?.getD default ∈ s.notes := by rw [List.getElem?_eq_getElem hltj]; exact List.getElem_mem hltj
     have hxj : s.notes[j]?.getD default = s.notes[j]?.getD default := rfl
     have hok := HG.out.notes _ hmem
     generalize hxe : s.notes[j]?.getD default = x at *
     obtain ⟨⟨v1, v2⟩, v3, v4⟩ := noteOK_int hok HG.out.iv.1
     have hkd := hok.kind
     have hka := hok.a
     have hkb := hok.b
     obtain ⟨W5, hW5, r5, z5, b5⟩ := box_any wr #[.int .i64 x.kind, .int .i64 x.a, .int .i64 x.b, .int .i64 x.lo, .int .i64 x.hi] 86
     go_upto_region 12 with (fail)
     rw [← hW5]
     have HMem := Lib.hid hmem
     have HXe := Lib.hid hxe
     have HBi := Lib.hid hbi
     have HDi := Lib.hid hdi
     have B5 := Lib.hid (hB2.trans (b5.mono (by omega)))
     have A3 := Aft.cell (cellOf r5 3 rfl)
     have A4 := Aft.cell (cellOf r5 4 rfl)
     have HG5 := Lib.hid (HGl.out.below B5.out)
     have HI1 : Hid (∀ y : Aft W5, Calls Tryz.prog 102 #[.int .i64 x.lo] y.1 fun e w' => e = .returned (.string (itB x.lo)) ∧ Below y.1.heap.size y.1 w') := Lib.hid fun y => itoa_any x.lo (by omega) (by omega) (HG5.out.below y.2)
     have HI2 : Hid (∀ y : Aft W5, Calls Tryz.prog 102 #[.int .i64 x.hi] y.1 fun e w' => e = .returned (.string (itB x.hi)) ∧ Below y.1.heap.size y.1 w') := Lib.hid fun y => itoa_any x.hi (by omega) (by omega) (HG5.out.below y.2)
     have HR5 := Lib.hid r5
     have HZ5 := Lib.hid z5
     have Hb5 := Lib.hid b5
     clear hmem hok hxe hbi hdi hB2 hW5 r5 z5 b5 n0 n1 n2 n3 n4 q0 q1 q2 hxj
     refine wp_region_aft (by kernel_rfl) (by kernel_rfl) ?_
     repeat (first | go_big_quiet_step ((first | (go_at_call 102; exact Aft.call (HI1.out _)) | (go_at_call 102; exact Aft.call (HI2.out _)))) | quiet_step ((first | (go_at_call 102; exact Aft.call (HI1.out _)) | (go_at_call 102; exact Aft.call (HI2.out _)))))
     refine wpQuiet_nil ?_
     rintro wx ⟨⟨_, hbx⟩, rfl⟩
     have hb5x := Hb5.out.trans (hbx.mono Hb5.out.size)
     have HBx := Lib.hid (HBi.out.trans (hb5x.mono hzi'))
     have HZx : Hid (W1.heap.size ≤ wx.heap.size) := Lib.hid (by have := HBx.out.size; omega)
     have kx := (HBx.out.block w.heap.size (by omega)).trans HK2.out
     have nx := (hbx.block _ (lt_of_block HR5.out)).trans HR5.out
     have HDx : Hid (Bld W1.heap.size W1.heap.size (T0 ++ notesB s (s.notes.take j)) wx) := Lib.hid ⟨builder_below HDi.out.1 hb5x, HDi.out.2⟩
     have hpx := hp2.out.below ((HD.out.trans (HBx.out.mono (by omega))).mono hB)
     obtain ⟨ia, hia⟩ : ∃ n : Nat, x.a = n := ⟨x.a.toNat, by omega⟩
     obtain ⟨ib, hib⟩ : ∃ n : Nat, x.b = n := ⟨x.b.toNat, by omega⟩
     have hal : ia < s.pts.length := by omega
     have hbl : ib < s.pts.length := by omega
     obtain ⟨ap, rfl, _, hca⟩ := hpx.str hal
     obtain ⟨ap', hap, _, hcb⟩ := hpx.str hbl
     obtain rfl : ap = ap' := Option.some.inj hap
     have hpa : ptAt s x.a = s.pts[ia]?.getD ByteArray.empty := by unfold ptAt; rw [hia]; rfl
     have hpb : ptAt s x.b = s.pts[ib]?.getD ByteArray.empty := by unfold ptAt; rw [hib]; rfl
     simp only [hia, hib] at nx
     have e0 := cellOf nx 0 rfl
     have e1 := cellOf nx 1 rfl
     have e2 := cellOf nx 2 rfl
     have e3 := cellOf nx 3 rfl
     have e4 := cellOf nx 4 rfl
     clear hb5x hpx A3 A4 hap hbx
     rcases (show x.kind = 1 ∨ x.kind = 2 ∨ x.kind = 3 ∨ x.kind = 4 by omega) with h | h | h | h
     focus
      have HN1 := Lib.hid (read_is x wx 1 171 h (.inl ⟨rfl, rfl⟩))
      have ht0 := fun (k a b lo hi : Int) (w : World) => ta131_131 k a b lo hi w
      unfold noteV at HN1
      simp only [hia, hib] at HN1
      have HL : Hid (∀ wy, Below wx.heap.size wx wy → Calls Tryz.prog 99 #[.slice (some ⟨wy.heap.size, 0, none⟩) 4 4, .pointer (some ⟨W1.heap.size, 0, none⟩)] (wy.alloc (.cells #[.string ⟨#[115, 112, 111, 116]⟩, .string (ptAt s x.a), .string (itB x.lo), .string (itB x.hi)] 9)) fun e w' => e = .returned (.tuple #[]) ∧ Bld W1.heap.size W1.heap.size (T0 ++ notesB s (s.notes.take (j + 1))) w' ∧ Below W1.heap.size wy w') :=
       Lib.hid fun wy hby => line_note HG.out HMem.out hltj HXe.out HT.out [wSpot, ptAt s x.a, itB x.lo, itB x.hi] (by unfold noteW; simp [h]) _ rfl 4 rfl ⟨builder_below HDx.out.1 hby, HDx.out.2⟩ (by have := hby.size; have := HZx.out; omega)
      rw [hpa] at HL
      generalize hS1 : itB x.lo = S1 at *
      generalize hS2 : itB x.hi = S2 at *
      generalize s.pts[ia]?.getD ByteArray.empty = pa at *
      clear h hpa hpb
      go_upto_region 15 with (go_at_call 103; refine HN1.out.mono ?_; rintro e w7 ⟨rfl, hb7⟩; dsimp only)
      clear e0 e1 e2 e3 e4
      have k7 := (hb7.block _ (lt_of_block kx)).trans kx
      have n7 := (hb7.block _ (lt_of_block nx)).trans nx
      have q1 := cellOf k7 1 rfl
      have d1 := cellOf n7 1 rfl
      have d2 := cellOf n7 2 rfl
      have a7 := (hb7.cell (cell_lt hca)).trans hca
      clear hca hcb kx nx k7 n7
      go_wp2_with (first | (refine wpList_bs rfl 4 _ rfl (vs := #[(0, .string ⟨#[115, 112, 111, 116]⟩), (1, .string pa), (2, .string S1), (3, .string S2)]) rfl (run_bs4 _ _ _ _ _) ?_; simp only [Act.put, List.setIfInBounds_toArray, List.set_cons_succ, List.set_cons_zero]) | (refine wpList_call_clo rfl _ _ _ rfl rfl enter102 (v := .tuple #[]) (ws := #[.slice (some ⟨w7.heap.size, 0, none⟩) 4 4, .pointer (some ⟨W1.heap.size, 0, none⟩)]) (R := fun w' => Bld W1.heap.size W1.heap.size (T0 ++ notesB s (s.notes.take (j + 1))) w' ∧ Below W1.heap.size w7 w') (HL.out w7 hb7) rfl ?_; rintro w8 ⟨hd8, hb8⟩; simp only [Act.put, List.setIfInBounds_toArray, List.set_cons_succ, List.set_cons_zero]))
      go_roundw
      case rel => exact ⟨j + 1, by omega, by go_num, HBx.out.trans ((hb7.mono (by have := HZx.out; omega)).trans hb8), hd8⟩
      case measure => simp [intOf]; omega
     focus
      have HN1 := Lib.hid (read_is x wx 2 172 h (.inr (.inl ⟨rfl, rfl⟩)))
      have ht0 := fun (k a b lo hi : Int) (w : World) => ta132_131 k a b lo hi w
      have ht1 := fun (k a b lo hi : Int) (w : World) => ta132_132 k a b lo hi w
      unfold noteV at HN1
      simp only [hia, hib] at HN1
      have HL : Hid (∀ wy, Below wx.heap.size wx wy → Calls Tryz.prog 99 #[.slice (some ⟨wy.heap.size, 0, none⟩) 4 4, .pointer (some ⟨W1.heap.size, 0, none⟩)] (wy.alloc (.cells #[.string ⟨#[99, 111, 110, 116, 111, 117, 114]⟩, .string (ptAt s x.a), .string (itB x.lo), .string (itB x.hi)] 9)) fun e w' => e = .returned (.tuple #[]) ∧ Bld W1.heap.size W1.heap.size (T0 ++ notesB s (s.notes.take (j + 1))) w' ∧ Below W1.heap.size wy w') :=
       Lib.hid fun wy hby => line_note HG.out HMem.out hltj HXe.out HT.out [wContour, ptAt s x.a, itB x.lo, itB x.hi] (by unfold noteW; simp [h]) _ rfl 4 rfl ⟨builder_below HDx.out.1 hby, HDx.out.2⟩ (by have := hby.size; have := HZx.out; omega)
      rw [hpa] at HL
      generalize hS1 : itB x.lo = S1 at *
      generalize hS2 : itB x.hi = S2 at *
      generalize s.pts[ia]?.getD ByteArray.empty = pa at *
      clear h hpa hpb
      go_upto_region 17 with (go_at_call 103; refine HN1.out.mono ?_; rintro e w7 ⟨rfl, hb7⟩; dsimp only)
      clear e0 e1 e2 e3 e4
      have k7 := (hb7.block _ (lt_of_block kx)).trans kx
      have n7 := (hb7.block _ (lt_of_block nx)).trans nx
      have q1 := cellOf k7 1 rfl
      have d1 := cellOf n7 1 rfl
      have d2 := cellOf n7 2 rfl
      have a7 := (hb7.cell (cell_lt hca)).trans hca
      clear hca hcb kx nx k7 n7
      go_wp2_with (first | (refine wpList_bs rfl 4 _ rfl (vs := #[(0, .string ⟨#[99, 111, 110, 116, 111, 117, 114]⟩), (1, .string pa), (2, .string S1), (3, .string S2)]) rfl (run_bs4 _ _ _ _ _) ?_; simp only [Act.put, List.setIfInBounds_toArray, List.set_cons_succ, List.set_cons_zero]) | (refine wpList_call_clo rfl _ _ _ rfl rfl enter102 (v := .tuple #[]) (ws := #[.slice (some ⟨w7.heap.size, 0, none⟩) 4 4, .pointer (some ⟨W1.heap.size, 0, none⟩)]) (R := fun w' => Bld W1.heap.size W1.heap.size (T0 ++ notesB s (s.notes.take (j + 1))) w' ∧ Below W1.heap.size w7 w') (HL.out w7 hb7) rfl ?_; rintro w8 ⟨hd8, hb8⟩; simp only [Act.put, List.setIfInBounds_toArray, List.set_cons_succ, List.set_cons_zero]))
      go_roundw
      case rel => exact ⟨j + 1, by omega, by go_num, HBx.out.trans ((hb7.mono (by have := HZx.out; omega)).trans hb8), hd8⟩
      case measure => simp [intOf]; omega
     focus
      have HN1 := Lib.hid (read_is x wx 3 173 h (.inr (.inr (.inl ⟨rfl, rfl⟩))))
      have ht0 := fun (k a b lo hi : Int) (w : World) => ta159_131 k a b lo hi w
      have ht1 := fun (k a b lo hi : Int) (w : World) => ta159_132 k a b lo hi w
      have ht2 := fun (k a b lo hi : Int) (w : World) => ta159_159 k a b lo hi w
      unfold noteV at HN1
      simp only [hia, hib] at HN1
      have HL : Hid (∀ wy, Below wx.heap.size wx wy → Calls Tryz.prog 99 #[.slice (some ⟨wy.heap.size, 0, none⟩) 3 3, .pointer (some ⟨W1.heap.size, 0, none⟩)] (wy.alloc (.cells #[.string ⟨#[108, 97, 107, 101]⟩, .string (ptAt s x.a), .string (ptAt s x.b)] 9)) fun e w' => e = .returned (.tuple #[]) ∧ Bld W1.heap.size W1.heap.size (T0 ++ notesB s (s.notes.take (j + 1))) w' ∧ Below W1.heap.size wy w') :=
       Lib.hid fun wy hby => line_note HG.out HMem.out hltj HXe.out HT.out [wLake, ptAt s x.a, ptAt s x.b] (by unfold noteW; simp [h]) _ rfl 3 rfl ⟨builder_below HDx.out.1 hby, HDx.out.2⟩ (by have := hby.size; have := HZx.out; omega)
      rw [hpa, hpb] at HL
      generalize s.pts[ia]?.getD ByteArray.empty = pa at *
      generalize s.pts[ib]?.getD ByteArray.empty = pb at *
      clear h hpa hpb
      go_upto_region 19 with (go_at_call 103; refine HN1.out.mono ?_; rintro e w7 ⟨rfl, hb7⟩; dsimp only)
      clear e0 e1 e2 e3 e4
      have k7 := (hb7.block _ (lt_of_block kx)).trans kx
      have n7 := (hb7.block _ (lt_of_block nx)).trans nx
      have q1 := cellOf k7 1 rfl
      have d1 := cellOf n7 1 rfl
      have d2 := cellOf n7 2 rfl
      have a7 := (hb7.cell (cell_lt hca)).trans hca
      have b7 := (hb7.cell (cell_lt hcb)).trans hcb
      clear hca hcb kx nx k7 n7
      refine region_move_tail3 (C := fun w' => ∃ n, w' = w7.drewN n) 13 _ rfl rfl (by kernel_rfl) (by kernel_rfl) ⟨1, rfl⟩ (v := .func (.func 99) #[] #[.pointer (some ⟨W1.heap.size, 0, none⟩)]) rfl ?_
      simp only [List.take_succ_cons, List.take_zero, List.drop_succ_cons, List.drop_zero, Nat.reduceSub, Act.put, List.setIfInBounds_toArray, List.set_cons_succ, List.set_cons_zero]
      repeat (first | go_big_quiet_step (fail) | quiet_step (fail))
      refine wpQuiet_nil ?_
      rintro _ ⟨n1, rfl⟩
      obtain ⟨wq, hwq⟩ : ∃ wq, wq = w7.drewN n1 := ⟨_, rfl⟩
      rw [← hwq]
      have hbq : Below wx.heap.size wx wq := by rw [hwq]; exact below_drewN hb7 n1
      clear hwq hb7
      go_wp2_with (first | (refine wpList_bs rfl 3 _ rfl (vs := #[(0, .string ⟨#[108, 97, 107, 101]⟩), (1, .string pa), (2, .string pb)]) rfl (run_bs3 _ _ _ _) ?_; simp only [Act.put, List.setIfInBounds_toArray, List.set_cons_succ, List.set_cons_zero]) | (refine wpList_call_clo rfl _ _ _ rfl rfl enter102 (v := .tuple #[]) (ws := #[.slice (some ⟨wq.heap.size, 0, none⟩) 3 3, .pointer (some ⟨W1.heap.size, 0, none⟩)]) (R := fun w' => Bld W1.heap.size W1.heap.size (T0 ++ notesB s (s.notes.take (j + 1))) w' ∧ Below W1.heap.size wq w') (HL.out wq hbq) rfl ?_; rintro w8 ⟨hd8, hb8⟩; simp only [Act.put, List.setIfInBounds_toArray, List.set_cons_succ, List.set_cons_zero]))
      refine NoPanic.normal ?_
      simp only [Exit.inBlock, Exit.then]
      go_wp2
      go_roundw
      case rel => exact ⟨j + 1, by omega, by go_num, HBx.out.trans ((hbq.mono (by have := HZx.out; omega)).trans hb8), hd8⟩
      case measure => simp [intOf]; omega
     focus
      have HN1 := Lib.hid (read_is x wx 4 174 h (.inr (.inr (.inr ⟨rfl, rfl⟩))))
      have ht0 := fun (k a b lo hi : Int) (w : World) => ta133_131 k a b lo hi w
      have ht1 := fun (k a b lo hi : Int) (w : World) => ta133_132 k a b lo hi w
      have ht2 := fun (k a b lo hi : Int) (w : World) => ta133_159 k a b lo hi w
      have ht3 := fun (k a b lo hi : Int) (w : World) => ta133_133 k a b lo hi w
      unfold noteV at HN1
      simp only [hia, hib] at HN1
      have HL : Hid (∀ wy, Below wx.heap.size wx wy → Calls Tryz.prog 99 #[.slice (some ⟨wy.heap.size, 0, none⟩) 5 5, .pointer (some ⟨W1.heap.size, 0, none⟩)] (wy.alloc (.cells #[.string ⟨#[115, 108, 111, 112, 101]⟩, .string (ptAt s x.a), .string (ptAt s x.b), .string (itB x.lo), .string (itB x.hi)] 9)) fun e w' => e = .returned (.tuple #[]) ∧ Bld W1.heap.size W1.heap.size (T0 ++ notesB s (s.notes.take (j + 1))) w' ∧ Below W1.heap.size wy w') :=
       Lib.hid fun wy hby => line_note HG.out HMem.out hltj HXe.out HT.out [wSlope, ptAt s x.a, ptAt s x.b, itB x.lo, itB x.hi] (by unfold noteW; simp [h]) _ rfl 5 rfl ⟨builder_below HDx.out.1 hby, HDx.out.2⟩ (by have := hby.size; have := HZx.out; omega)
      rw [hpa, hpb] at HL
      generalize hS1 : itB x.lo = S1 at *
      generalize hS2 : itB x.hi = S2 at *
      generalize s.pts[ia]?.getD ByteArray.empty = pa at *
      generalize s.pts[ib]?.getD ByteArray.empty = pb at *
      clear h hpa hpb
      go_upto_region 21 with (go_at_call 103; refine HN1.out.mono ?_; rintro e w7 ⟨rfl, hb7⟩; dsimp only)
      clear e0 e1 e2 e3 e4
      have k7 := (hb7.block _ (lt_of_block kx)).trans kx
      have n7 := (hb7.block _ (lt_of_block nx)).trans nx
      have q1 := cellOf k7 1 rfl
      have d1 := cellOf n7 1 rfl
      have d2 := cellOf n7 2 rfl
      have a7 := (hb7.cell (cell_lt hca)).trans hca
      have b7 := (hb7.cell (cell_lt hcb)).trans hcb
      clear hca hcb kx nx k7 n7
      refine region_move_tail3 (C := fun w' => ∃ n, w' = w7.drewN n) 15 _ rfl rfl (by kernel_rfl) (by kernel_rfl) ⟨1, rfl⟩ (v := .func (.func 99) #[] #[.pointer (some ⟨W1.heap.size, 0, none⟩)]) rfl ?_
      simp only [List.take_succ_cons, List.take_zero, List.drop_succ_cons, List.drop_zero, Nat.reduceSub, Act.put, List.setIfInBounds_toArray, List.set_cons_succ, List.set_cons_zero]
      repeat (first | go_big_quiet_step (fail) | quiet_step (fail))
      refine wpQuiet_nil ?_
      rintro _ ⟨n1, rfl⟩
      obtain ⟨wq, hwq⟩ : ∃ wq, wq = w7.drewN n1 := ⟨_, rfl⟩
      rw [← hwq]
      have hbq : Below wx.heap.size wx wq := by rw [hwq]; exact below_drewN hb7 n1
      clear hwq hb7
      go_wp2_with (first | (refine wpList_bs rfl 5 _ rfl (vs := #[(0, .string ⟨#[115, 108, 111, 112, 101]⟩), (1, .string pa), (2, .string pb), (3, .string S1), (4, .string S2)]) rfl (run_bs5 _ _ _ _ _ _) ?_; simp only [Act.put, List.setIfInBounds_toArray, List.set_cons_succ, List.set_cons_zero]) | (refine wpList_call_clo rfl _ _ _ rfl rfl enter102 (v := .tuple #[]) (ws := #[.slice (some ⟨wq.heap.size, 0, none⟩) 5 5, .pointer (some ⟨W1.heap.size, 0, none⟩)]) (R := fun w' => Bld W1.heap.size W1.heap.size (T0 ++ notesB s (s.notes.take (j + 1))) w' ∧ Below W1.heap.size wq w') (HL.out wq hbq) rfl ?_; rintro w8 ⟨hd8, hb8⟩; simp only [Act.put, List.setIfInBounds_toArray, List.set_cons_succ, List.set_cons_zero]))
      refine NoPanic.normal ?_
      simp only [Exit.inBlock, Exit.then]
      go_wp2
      go_roundw
      case rel => exact ⟨j + 1, by omega, by go_num, HBx.out.trans ((hbq.mono (by have := HZx.out; omega)).trans hb8), hd8⟩
      case measure => simp [intOf]; omega
    ·obtain rfl : j = s.notes.length := by omega
     rw [List.take_length] at hdi
     have HSt := Lib.hid (Tryz.Builder_String_any W1.heap.size W1.heap.size _ wr hdi.1 (by omega))
     have hres : headB s ++ ptsB s.pts ++ notesB s s.notes = T0 ++ notesB s s.notes := by rw [hT0]
     have HRes := Lib.hid hres
     have HB2 := Lib.hid hB2
     clear hdi hbi hB2 hres hT0
     generalize T0 ++ notesB s s.notes = T1 at *
     have e106 : ∀ args w, (callFunc 104 args).run Tryz.prog w = .ok (.enter 104 args) w := enters_of Tryz.func104 (by kernel_rfl) rfl
     go_wp2_with (refine wpList_call_clo rfl _ _ _ rfl rfl e106 (v := .string ⟨T1.toArray⟩) (ws := #[.pointer (some ⟨W1.heap.size, 0, none⟩)]) (R := fun w' => Below W1.heap.size wr w') HSt.out rfl ?_; rintro w9 hb9; simp only [Act.put, List.setIfInBounds_toArray, List.set_cons_succ, List.set_cons_zero])
     go_ret
     exact ⟨(show Ending.returned (.string ⟨T1.toArray⟩) = .returned (.string ⟨(textB s).toArray⟩) by rw [show textB s = T1 from HRes.out]), HB2.out.trans (hb9.mono (by omega))⟩
end Go.Proofs.YthnimhnlnddnoaaGreatDoor
