/- Walks of the layer sheet: the text of a sheet, by the program. -/
import Derived.Test.YtajdgdelhlfniaaGreatDoorH17
import Derived.Laws.ByValue
import Derived.WalkKit
import Derived.Deep.Quiet
set_option linter.unusedSimpArgs false
set_option linter.unusedVariables false
namespace Go.Proofs.YtajdgdelhlfniaaGreatDoor
open Go.RowKit

theorem run_alloc151 (w : World) : (Instr.alloc 151 true (.tuple #[])).run Tryz.prog w = .ok (.pointer (some ⟨w.heap.size, 0, none⟩)) (w.alloc (.cells #[.pointer none, .slice none 0 0] 151)) := by kernel_rfl
theorem wpList_alloc_bld {ops : Array Oper} {rest : List Oper} {o : Oper} {a : Act} {w : World} {Q : Exit → Act → World → Prop} (hgd : o.guard = none) (ho : o.op = .alloc 151)
    (h : wpList Tryz.prog ops Q rest (a.put o.dst (.pointer (some ⟨w.heap.size, 0, none⟩))) (w.alloc (.cells #[.pointer none, .slice none 0 0] 151))) : wpList Tryz.prog ops Q (o :: rest) a w := by
  refine wpList_plain hgd fun K hK => ?_
  unfold Oper.wp execOp
  rw [ho]
  simp only [Sem.run_bind, Sem.run_pure, run_alloc151, Result.andThen_ok]
  exact hK _ _ h
theorem run_mkfn {P : Program} (f : FuncId) (cs : Array Value) (w : World) : (Instr.makeFunc (.func f) #[] cs).run P w = .ok (.func (.func f) #[] cs) w := by
  unfold Instr.makeFunc
  rfl
theorem wpList_mkfn {P : Program} {ops : Array Oper} {rest : List Oper} {o : Oper} {a : Act} {w : World} {Q : Exit → Act → World → Prop} (hgd : o.guard = none) (f : FuncId) (x : Operand) (ho : o.op = .makeFunc (.func f) #[] #[x])
    {v : Value} (hv : a.eval x = v) (h : wpList P ops Q rest (a.put o.dst (.func (.func f) #[] #[v])) w) : wpList P ops Q (o :: rest) a w := by
  refine wpList_plain hgd fun K hK => ?_
  unfold Oper.wp execOp
  rw [ho]
  have e : (#[x] : Array Operand).map a.eval = #[v] := by simp [hv]
  have e0 : (#[] : Array Operand).map a.eval = #[] := by simp
  simp only [Sem.run_bind, Sem.run_pure, e, e0, run_mkfn, Result.andThen_ok]
  exact hK _ _ h
theorem run_bs2 (a b : ByteArray) (w : World) : (Instr.buildSlice 22 2 #[(0, .string a), (1, .string b)]).run Tryz.prog w = .ok (.slice (some ⟨w.heap.size, 0, none⟩) 2 2) (w.alloc (.cells #[.string a, .string b] 9)) := by kernel_rfl
theorem run_bs3 (a b c : ByteArray) (w : World) : (Instr.buildSlice 22 3 #[(0, .string a), (1, .string b), (2, .string c)]).run Tryz.prog w = .ok (.slice (some ⟨w.heap.size, 0, none⟩) 3 3) (w.alloc (.cells #[.string a, .string b, .string c] 9)) := by kernel_rfl
theorem run_bs4 (a b c d : ByteArray) (w : World) : (Instr.buildSlice 22 4 #[(0, .string a), (1, .string b), (2, .string c), (3, .string d)]).run Tryz.prog w = .ok (.slice (some ⟨w.heap.size, 0, none⟩) 4 4) (w.alloc (.cells #[.string a, .string b, .string c, .string d] 9)) := by kernel_rfl
theorem run_bs5 (a b c d e : ByteArray) (w : World) : (Instr.buildSlice 22 5 #[(0, .string a), (1, .string b), (2, .string c), (3, .string d), (4, .string e)]).run Tryz.prog w = .ok (.slice (some ⟨w.heap.size, 0, none⟩) 5 5) (w.alloc (.cells #[.string a, .string b, .string c, .string d, .string e] 9)) := by kernel_rfl
theorem wpList_bs {ops : Array Oper} {rest : List Oper} {o : Oper} {a : Act} {w : World} {Q : Exit → Act → World → Prop} (hgd : o.guard = none) (n : Nat) (parts : Array (Nat × Operand)) (ho : o.op = .buildSlice 22 n parts)
    {vs : Array (Nat × Value)} (hv : parts.toList.map (fun (i, x) => (i, a.eval x)) = vs.toList) {cs : Array Value} (hr : (Instr.buildSlice 22 n vs).run Tryz.prog w = .ok (.slice (some ⟨w.heap.size, 0, none⟩) n n) (w.alloc (.cells cs 9)))
    (h : wpList Tryz.prog ops Q rest (a.put o.dst (.slice (some ⟨w.heap.size, 0, none⟩) n n)) (w.alloc (.cells cs 9))) : wpList Tryz.prog ops Q (o :: rest) a w := by
  refine wpList_plain hgd fun K hK => ?_
  unfold Oper.wp execOp
  rw [ho]
  have hv : parts.map (fun (i, x) => (i, a.eval x)) = vs := by
    rw [← Array.toList_inj, Array.toList_map]
    exact hv
  simp only [Sem.run_bind, Sem.run_pure, hv, hr, Result.andThen_ok]
  exact hK _ _ h
theorem wpList_call_clo {P : Program} {ops : Array Oper} {rest : List Oper} {o : Oper} {a : Act} {w : World} {Q : Exit → Act → World → Prop} (hgd : o.guard = none) (x : Operand) (args : Array Operand) (ts : Array TypeId) (ho : o.op = .call { callee := .value x, args := args, argTypes := ts })
    {f : FuncId} {c ws : Array Value} {v : Value} {R : World → Prop} (hx : a.eval x = .func (.func f) #[] c) (he : ∀ args w, (callFunc f args).run P w = .ok (.enter f args) w)
    (hc : Calls P f ws w fun e w' => e = .returned v ∧ R w') (hv : args.toList.map a.eval ++ c.toList = ws.toList) (h : ∀ w', R w' → wpList P ops Q rest (a.put o.dst v) w') : wpList P ops Q (o :: rest) a w := by
  refine wpList_plain hgd fun K hK => ?_
  unfold Oper.wp execOp
  rw [ho]
  have hv : args.map a.eval ++ c = ws := by
    rw [← Array.toList_inj, Array.toList_append, Array.toList_map]
    exact hv
  simp only [resolve, hx, Deferred.ofValue, Sem.run_bind, Sem.run_pure, Result.andThen_ok, invoke, Array.empty_append, hv, he]
  rw [Oper.upon_enter]
  refine hc.mono ?_
  rintro e w' ⟨rfl, hr⟩
  exact hK _ _ (h w' hr)
theorem enter102 : ∀ args w, (callFunc 102 args).run Tryz.prog w = .ok (.enter 102 args) w := enters_of Tryz.func102 (by kernel_rfl) rfl
theorem region_move_tail3 {P : Program} {C : World → Prop} {id : Nat} {Q : Exit → Act → World → Prop} {a : Act} {w : World} {o : Oper} {l : List Oper} (n : Nat) (x : Operand) (ho : o.op = .move x) (hgd : o.guard = none)
    (hm : P.follows .mixedOrders = true) (hB : moveTailB (o :: l).toArray n = true) (hC : C w.drew) {v : Value} (hv : a.eval x = v)
    (h : wpQuiet P (o :: l).toArray C (fun a' => ∀ w', C w' → wpList P (o :: l).toArray (NoPanic Q) (l.drop (n - 1)) a' w') (l.take (n - 1)) (a.put o.dst v)) : (Code.region id (o :: l).toArray true).wp P Q a w := by
  subst hv
  exact region_move_quiet_tail2 n x ho hgd hm hB hC h
theorem line_note {w : World} {b j : Nat} {T0 : List UInt8} {s : ShR} {x : NoteR} (hg : Good s) (hx : x ∈ s.notes) (hj : j < s.notes.length) (hxj : s.notes[j]?.getD default = x) (hT : T0.length ≤ 1800) (ws : List ByteArray) (hw : noteW s x = ws) (cs : Array Value) (hcs : cs = (ws.map Value.string).toArray) (n : Nat) (hn : n = ws.length)
    (hbd : Bld b b (T0 ++ notesB s (s.notes.take j)) w) (hBw : b ≤ w.heap.size) :
    Calls Tryz.prog 102 #[.slice (some ⟨w.heap.size, 0, none⟩) n n, .pointer (some ⟨b, 0, none⟩)] (w.alloc (.cells cs 9)) fun e w' => e = .returned (.tuple #[]) ∧ Bld b b (T0 ++ notesB s (s.notes.take (j + 1))) w' ∧ Below b w w' := by
  subst hw
  have hl := notesB_len hg (l := s.notes.take j) (fun p hp => List.mem_of_mem_take hp)
  have h3 : (lineB ((noteW s x).map (·.data.toList))).length ≤ 200 := noteW_len hg hx
  have hln : (s.notes.take j).length ≤ 12 := by have := hg.nlen; simp; omega
  have hwl : (noteW s x).length ≤ 100 := by
    unfold noteW
    split
    · simp
    · split
      · simp
      · split <;> simp
  have := line_new (noteW s x) cs hcs n hn hbd hwl (by
    rw [List.length_append]
    have := Nat.mul_le_mul_right 200 hln
    omega) hBw
  rw [show lineB ((noteW s x).map (·.data.toList)) = lineW (noteW s x) from rfl, List.append_assoc, ← hxj, ← notesB_snoc hj] at this
  exact this

set_option maxRecDepth 100000 in
set_option maxHeartbeats 1000000 in
theorem text_any {B : Nat} {w : World} {v : Value} {s : ShR} (hs : RdSh B w v s) (hg : Good s) (hB : B ≤ w.heap.size) (hgl : Glob w) :
    Calls Tryz.prog 78 #[v] w fun e w' => e = .returned (.string ⟨(textB s).toArray⟩) ∧ Below w.heap.size w w' := by
  obtain ⟨vp, vn, rfl, hp, ho⟩ := id hs
  obtain ⟨Ap, cp, rfl, h3, h4, _⟩ := id hp
  obtain ⟨An, cn, rfl, h5, h6, _⟩ := id ho
  obtain ⟨W1, hW1, r1, z1, d1⟩ := box_any w #[.int .i64 s.iv, .slice Ap s.pts.length cp, .slice An s.notes.length cn] 25
  obtain ⟨W2, hW2, r2, z2, d2⟩ := box_any W1 #[.pointer none, .slice none 0 0] 151
  have d12 : Below w.heap.size w W2 := d1.trans (d2.mono d1.size)
  have k2 := (d2.block _ (lt_of_block r1)).trans r1
  have hpl8 := hg.plen.2
  have hnl12 := hg.nlen
  have HG := Lib.hid hg
  have hp2 := Lib.hid hp
  have ho2 := Lib.hid ho
  have Hb2 : Hid (Bld W1.heap.size W1.heap.size [] W2) := Lib.hid ⟨.inl ⟨Nat.le_refl _, _, r2, World.ownsRow_nil _ _ _ _, by simp [Value.ownBlock]⟩, by simp⟩
  have HD := Lib.hid d12
  have HS := Lib.hid hs
  have HGl := Lib.hid hgl
  have q0 := cellOf k2 0 rfl
  have q1 := cellOf k2 1 rfl
  have q2 := cellOf k2 2 rfl
  have HK2 := Lib.hid k2
  have hb1 : w.heap.size + 1 = W1.heap.size := z1.symm
  have hb2 : W2.heap.size = W1.heap.size + 1 := z2
  have hIt := itoa_any (w := W2) s.iv (by have := hg.iv; omega) (by have := hg.iv; omega) (hgl.below d12)
  rw [show (⟨(Lib.itoa s.iv).toArray⟩ : ByteArray) = itB s.iv from rfl] at hIt
  have HL1 : Hid (∀ w3, Below W2.heap.size W2 w3 → Calls Tryz.prog 102 #[.slice (some ⟨w3.heap.size, 0, none⟩) 2 2, .pointer (some ⟨W1.heap.size, 0, none⟩)] (w3.alloc (.cells #[.string ⟨#[115, 104, 101, 101, 116]⟩, .string (itB s.iv)] 9)) fun e w' => e = .returned (.tuple #[]) ∧ Bld W1.heap.size W1.heap.size (headB s) w' ∧ Below W1.heap.size w3 w') :=
    Lib.hid fun w3 hb3 => line_new (l := []) [wSheet, itB s.iv] #[.string wSheet, .string (itB s.iv)] rfl 2 rfl ⟨builder_below Hb2.out.1 hb3, Hb2.out.2⟩ (by simp) (Nat.le_trans (Nat.add_le_add_left (headB_len hg) _) (by simp)) (by have := hb3.size; omega)
  have HIt := Lib.hid hIt
  clear hIt
  generalize itB s.iv = S0 at *
  clear hg hs hp ho hgl r1 r2 d1 d2 d12 k2 h3 h4 h5 h6
  go_enter Tryz.func78, Tryz.ntmps78
  go_upto_region 1 with (fail)
  rw [← hW1]
  clear hW1
  go_upto_region 3 with (first | (refine wpList_alloc_bld rfl rfl ?_; rw [← hW2]; simp only [Act.put, List.setIfInBounds_toArray, List.set_cons_succ, List.set_cons_zero]) | (refine wpList_mkfn (v := .pointer (some ⟨W1.heap.size, 0, none⟩)) rfl _ _ rfl rfl ?_; simp only [Act.put, List.setIfInBounds_toArray, List.set_cons_succ, List.set_cons_zero]))
  clear hW2

  go_upto_region 4 with (first | (go_at_call 105; refine HIt.out.mono ?_; rintro e w3 ⟨rfl, hb3⟩; dsimp only) | (refine wpList_bs rfl 2 _ rfl (vs := #[(0, .string ⟨#[115, 104, 101, 101, 116]⟩), (1, .string S0)]) rfl (run_bs2 _ _ _) ?_; simp only [Act.put, List.setIfInBounds_toArray, List.set_cons_succ, List.set_cons_zero]) | (refine wpList_call_clo rfl _ _ _ rfl rfl enter102 (HL1.out _ hb3) rfl ?_; rintro w4 ⟨hd4, hb4⟩; simp only [Act.put, List.setIfInBounds_toArray, List.set_cons_succ, List.set_cons_zero]))
  have HB4 := Lib.hid (((hb3.mono (by omega)).trans hb4 : Below W1.heap.size W2 w4))
  have HD4 := Lib.hid hd4
  have k4 := (HB4.out.block w.heap.size (by omega)).trans HK2.out
  have q0 := cellOf k4 0 rfl
  have q1 := cellOf k4 1 rfl
  have q2 := cellOf k4 2 rfl
  clear hd4 hb4 hb3 HL1 HIt k4
  go_wp2
  go_loopw [21] (fun i wr => ∃ k : Nat, k ≤ s.pts.length ∧ i = .int .i64 k ∧ Below W1.heap.size W2 wr ∧ Bld W1.heap.size W1.heap.size (headB s ++ ptsB (s.pts.take k)) wr) (fun i _ => s.pts.length - (intOf i).toNat)
  case atStart => exact ⟨0, Nat.zero_le _, rfl, HB4.out, by simpa [ptsB] using HD4.out⟩
  case round =>
    obtain ⟨k, hk, rfl, hbr, hdr⟩ := hrel
    have hB2 := HD.out.trans (hbr.mono (show w.heap.size ≤ W1.heap.size by omega))
    have hzr := hbr.size
    by_cases hlt : k < s.pts.length
    · obtain ⟨ad, rfl, _, hc⟩ := (hp2.out.below (hB2.mono hB)).str hlt
      have hmem : s.pts[k]?.getD ByteArray.empty ∈ s.pts := by rw [List.getElem?_eq_getElem hlt]; exact List.getElem_mem hlt
      have hl1 := headB_len HG.out
      have hl2 := ptsB_len HG.out (l := s.pts.take k) (fun p hp => List.mem_of_mem_take hp)
      have hl3 := lineW_len (ws := [wPoint, s.pts[k]?.getD ByteArray.empty]) (by simp) (by
        have l1 := name_len (HG.out.names _ hmem)
        simp only [List.mem_cons, List.not_mem_nil, or_false]
        rintro y (rfl | rfl) <;> first | assumption | decide)
      have hln : (s.pts.take k).length ≤ 8 := by have := HG.out.plen; simp; omega
      have hcl := line_new [wPoint, s.pts[k]?.getD ByteArray.empty] #[.string ⟨#[112, 111, 105, 110, 116]⟩, .string (s.pts[k]?.getD ByteArray.empty)] rfl 2 rfl hdr (by simp) (by
        rw [List.length_append]
        have : (lineB ([wPoint, s.pts[k]?.getD ByteArray.empty].map (·.data.toList))).length ≤ 200 := hl3
        have := Nat.mul_le_mul_right 200 hln
        omega) (by omega)
      rw [show lineB ([wPoint, s.pts[k]?.getD ByteArray.empty].map (·.data.toList)) = lineW [wPoint, s.pts[k]?.getD ByteArray.empty] from rfl, List.append_assoc, ← ptsB_snoc hlt] at hcl
      have HCl := Lib.hid hcl
      have HBr := Lib.hid hbr
      clear hcl hl1 hl2 hl3 hmem hln hbr hdr hB2
      generalize s.pts[k]?.getD ByteArray.empty = pk at *
      go_wp2_with (first | (refine wpList_bs rfl 2 _ rfl (vs := #[(0, .string ⟨#[112, 111, 105, 110, 116]⟩), (1, .string pk)]) rfl (run_bs2 _ _ _) ?_; simp only [Act.put, List.setIfInBounds_toArray, List.set_cons_succ, List.set_cons_zero]) | (refine wpList_call_clo rfl _ _ _ rfl rfl enter102 (v := .tuple #[]) (ws := #[.slice (some ⟨wr.heap.size, 0, none⟩) 2 2, .pointer (some ⟨W1.heap.size, 0, none⟩)]) (R := fun w' => Bld W1.heap.size W1.heap.size (headB s ++ ptsB (s.pts.take (k+1))) w' ∧ Below W1.heap.size wr w') HCl.out rfl ?_; rintro w6 ⟨hd6, hb6⟩; simp only [Act.put, List.setIfInBounds_toArray, List.set_cons_succ, List.set_cons_zero]))
      go_roundw
      case rel => exact ⟨k + 1, by omega, by go_num, HBr.out.trans hb6, hd6⟩
      case measure => simp [intOf]; omega
    · obtain rfl : k = s.pts.length := by omega
      have kr := (hbr.block w.heap.size (by omega)).trans HK2.out
      have q0 := cellOf kr 0 rfl
      have q1 := cellOf kr 1 rfl
      have q2 := cellOf kr 2 rfl
      rw [List.take_length] at hdr
      have hpl := ptsB_len HG.out (l := s.pts) (fun p hp => hp)
      have hhl := headB_len HG.out
      have hhp : (headB s ++ ptsB s.pts).length ≤ 1800 := by
        have := HG.out.plen.2
        have := Nat.mul_le_mul_right 200 this
        rw [List.length_append]
        omega
      generalize hT0 : headB s ++ ptsB s.pts = T0 at *
      have HT := Lib.hid hhp
      have HBr := Lib.hid hbr
      have HDr := Lib.hid hdr
      clear hbr hdr hB2 hzr hpl hhl kr
      go_wp2
      obtain ⟨wo, rfl⟩ : ∃ wo : World, wo = wr := ⟨_, rfl⟩
      go_loopw [33] (fun i wi => ∃ j : Nat, j ≤ s.notes.length ∧ i = .int .i64 j ∧ Below W1.heap.size W2 wi ∧ Bld W1.heap.size W1.heap.size (T0 ++ notesB s (s.notes.take j)) wi) (fun i _ => s.notes.length - (intOf i).toNat)
      case atStart => exact ⟨0, Nat.zero_le _, rfl, HBr.out, by simpa [notesB] using HDr.out⟩
      case round =>
        obtain ⟨j, hj, rfl, hbi, hdi⟩ := hrel
        have hB2 := HD.out.trans (hbi.mono (show w.heap.size ≤ W1.heap.size by omega))
        have hzi := hbi.size
        have hzi' : W1.heap.size ≤ wr.heap.size := by omega
        by_cases hltj : j < s.notes.length
        · obtain ⟨ad, rfl, _, n0, n1, n2, n3, n4⟩ := (ho2.out.below (hB2.mono hB)).note hltj
          have hmem : s.notes[j]?.getD default ∈ s.notes := by rw [List.getElem?_eq_getElem hltj]; exact List.getElem_mem hltj
          have hxj : s.notes[j]?.getD default = s.notes[j]?.getD default := rfl
          have hok := HG.out.notes _ hmem
          generalize hxe : s.notes[j]?.getD default = x at *
          obtain ⟨⟨v1, v2⟩, v3, v4⟩ := noteOK_int hok HG.out.iv.1
          have hkd := hok.kind
          have hka := hok.a
          have hkb := hok.b
          obtain ⟨W5, hW5, r5, z5, b5⟩ := box_any wr #[.int .i64 x.kind, .int .i64 x.a, .int .i64 x.b, .int .i64 x.lo, .int .i64 x.hi] 69
          go_upto_region 12 with (fail)
          rw [← hW5]
          have HMem := Lib.hid hmem
          have HXe := Lib.hid hxe
          have HBi := Lib.hid hbi
          have HDi := Lib.hid hdi
          have B5 := Lib.hid (hB2.trans (b5.mono (by omega)))
          have A3 := Aft.cell (cellOf r5 3 rfl)
          have A4 := Aft.cell (cellOf r5 4 rfl)
          have HG5 := Lib.hid (HGl.out.below B5.out)
          have HI1 : Hid (∀ y : Aft W5, Calls Tryz.prog 105 #[.int .i64 x.lo] y.1 fun e w' => e = .returned (.string (itB x.lo)) ∧ Below y.1.heap.size y.1 w') := Lib.hid fun y => itoa_any x.lo (by omega) (by omega) (HG5.out.below y.2)
          have HI2 : Hid (∀ y : Aft W5, Calls Tryz.prog 105 #[.int .i64 x.hi] y.1 fun e w' => e = .returned (.string (itB x.hi)) ∧ Below y.1.heap.size y.1 w') := Lib.hid fun y => itoa_any x.hi (by omega) (by omega) (HG5.out.below y.2)
          have HR5 := Lib.hid r5
          have HZ5 := Lib.hid z5
          have Hb5 := Lib.hid b5
          clear hmem hok hxe hbi hdi hB2 hW5 r5 z5 b5 n0 n1 n2 n3 n4 q0 q1 q2 hxj
          refine wp_region_aft (by kernel_rfl) (by kernel_rfl) ?_
          repeat (first | go_big_quiet_step ((first | (go_at_call 105; exact Aft.call (HI1.out _)) | (go_at_call 105; exact Aft.call (HI2.out _)))) | quiet_step ((first | (go_at_call 105; exact Aft.call (HI1.out _)) | (go_at_call 105; exact Aft.call (HI2.out _)))))
          refine wpQuiet_nil ?_
          rintro wx ⟨⟨_, hbx⟩, rfl⟩
          have hb5x := Hb5.out.trans (hbx.mono Hb5.out.size)
          have HBx := Lib.hid (HBi.out.trans (hb5x.mono hzi'))
          have HZx : Hid (W1.heap.size ≤ wx.heap.size) := Lib.hid (by have := HBx.out.size; omega)
          have kx := (HBx.out.block w.heap.size (by omega)).trans HK2.out
          have nx := (hbx.block _ (lt_of_block HR5.out)).trans HR5.out
          have HDx : Hid (Bld W1.heap.size W1.heap.size (T0 ++ notesB s (s.notes.take j)) wx) := Lib.hid ⟨builder_below HDi.out.1 hb5x, HDi.out.2⟩
          have hpx := hp2.out.below ((HD.out.trans (HBx.out.mono (by omega))).mono hB)
          obtain ⟨ia, hia⟩ : ∃ n : Nat, x.a = n := ⟨x.a.toNat, by omega⟩
          obtain ⟨ib, hib⟩ : ∃ n : Nat, x.b = n := ⟨x.b.toNat, by omega⟩
          have hal : ia < s.pts.length := by omega
          have hbl : ib < s.pts.length := by omega
          obtain ⟨ap, rfl, _, hca⟩ := hpx.str hal
          obtain ⟨ap', hap, _, hcb⟩ := hpx.str hbl
          obtain rfl : ap = ap' := Option.some.inj hap
          have hpa : ptAt s x.a = s.pts[ia]?.getD ByteArray.empty := by unfold ptAt; rw [hia]; rfl
          have hpb : ptAt s x.b = s.pts[ib]?.getD ByteArray.empty := by unfold ptAt; rw [hib]; rfl
          simp only [hia, hib] at nx
          have e0 := cellOf nx 0 rfl
          have e1 := cellOf nx 1 rfl
          have e2 := cellOf nx 2 rfl
          have e3 := cellOf nx 3 rfl
          have e4 := cellOf nx 4 rfl
          clear hb5x hpx A3 A4 hap hbx
          rcases (show x.kind = 1 ∨ x.kind = 2 ∨ x.kind = 3 ∨ x.kind = 4 by omega) with h | h | h | h
          focus
            have HN1 := Lib.hid (read_is x wx 1 131 h (.inl ⟨rfl, rfl⟩))
            have ht0 := fun (k a b lo hi : Int) (w : World) => ta131_131 k a b lo hi w
            unfold noteV at HN1
            simp only [hia, hib] at HN1
            have HL : Hid (∀ wy, Below wx.heap.size wx wy → Calls Tryz.prog 102 #[.slice (some ⟨wy.heap.size, 0, none⟩) 4 4, .pointer (some ⟨W1.heap.size, 0, none⟩)] (wy.alloc (.cells #[.string ⟨#[115, 112, 111, 116]⟩, .string (ptAt s x.a), .string (itB x.lo), .string (itB x.hi)] 9)) fun e w' => e = .returned (.tuple #[]) ∧ Bld W1.heap.size W1.heap.size (T0 ++ notesB s (s.notes.take (j + 1))) w' ∧ Below W1.heap.size wy w') :=
              Lib.hid fun wy hby => line_note HG.out HMem.out hltj HXe.out HT.out [wSpot, ptAt s x.a, itB x.lo, itB x.hi] (by unfold noteW; simp [h]) _ rfl 4 rfl ⟨builder_below HDx.out.1 hby, HDx.out.2⟩ (by have := hby.size; have := HZx.out; omega)
            rw [hpa] at HL
            generalize hS1 : itB x.lo = S1 at *
            generalize hS2 : itB x.hi = S2 at *
            generalize s.pts[ia]?.getD ByteArray.empty = pa at *
            clear h hpa hpb
            go_upto_region 15 with (go_at_call 92; refine HN1.out.mono ?_; rintro e w7 ⟨rfl, hb7⟩; dsimp only)
            clear e0 e1 e2 e3 e4
            have k7 := (hb7.block _ (lt_of_block kx)).trans kx
            have n7 := (hb7.block _ (lt_of_block nx)).trans nx
            have q1 := cellOf k7 1 rfl
            have d1 := cellOf n7 1 rfl
            have d2 := cellOf n7 2 rfl
            have a7 := (hb7.cell (cell_lt hca)).trans hca
            clear hca hcb kx nx k7 n7
            go_wp2_with (first | (refine wpList_bs rfl 4 _ rfl (vs := #[(0, .string ⟨#[115, 112, 111, 116]⟩), (1, .string pa), (2, .string S1), (3, .string S2)]) rfl (run_bs4 _ _ _ _ _) ?_; simp only [Act.put, List.setIfInBounds_toArray, List.set_cons_succ, List.set_cons_zero]) | (refine wpList_call_clo rfl _ _ _ rfl rfl enter102 (v := .tuple #[]) (ws := #[.slice (some ⟨w7.heap.size, 0, none⟩) 4 4, .pointer (some ⟨W1.heap.size, 0, none⟩)]) (R := fun w' => Bld W1.heap.size W1.heap.size (T0 ++ notesB s (s.notes.take (j + 1))) w' ∧ Below W1.heap.size w7 w') (HL.out w7 hb7) rfl ?_; rintro w8 ⟨hd8, hb8⟩; simp only [Act.put, List.setIfInBounds_toArray, List.set_cons_succ, List.set_cons_zero]))
            go_roundw
            case rel => exact ⟨j + 1, by omega, by go_num, HBx.out.trans ((hb7.mono (by have := HZx.out; omega)).trans hb8), hd8⟩
            case measure => simp [intOf]; omega
          focus
            have HN1 := Lib.hid (read_is x wx 2 132 h (.inr (.inl ⟨rfl, rfl⟩)))
            have ht0 := fun (k a b lo hi : Int) (w : World) => ta132_131 k a b lo hi w
            have ht1 := fun (k a b lo hi : Int) (w : World) => ta132_132 k a b lo hi w
            unfold noteV at HN1
            simp only [hia, hib] at HN1
            have HL : Hid (∀ wy, Below wx.heap.size wx wy → Calls Tryz.prog 102 #[.slice (some ⟨wy.heap.size, 0, none⟩) 4 4, .pointer (some ⟨W1.heap.size, 0, none⟩)] (wy.alloc (.cells #[.string ⟨#[99, 111, 110, 116, 111, 117, 114]⟩, .string (ptAt s x.a), .string (itB x.lo), .string (itB x.hi)] 9)) fun e w' => e = .returned (.tuple #[]) ∧ Bld W1.heap.size W1.heap.size (T0 ++ notesB s (s.notes.take (j + 1))) w' ∧ Below W1.heap.size wy w') :=
              Lib.hid fun wy hby => line_note HG.out HMem.out hltj HXe.out HT.out [wContour, ptAt s x.a, itB x.lo, itB x.hi] (by unfold noteW; simp [h]) _ rfl 4 rfl ⟨builder_below HDx.out.1 hby, HDx.out.2⟩ (by have := hby.size; have := HZx.out; omega)
            rw [hpa] at HL
            generalize hS1 : itB x.lo = S1 at *
            generalize hS2 : itB x.hi = S2 at *
            generalize s.pts[ia]?.getD ByteArray.empty = pa at *
            clear h hpa hpb
            go_upto_region 17 with (go_at_call 92; refine HN1.out.mono ?_; rintro e w7 ⟨rfl, hb7⟩; dsimp only)
            clear e0 e1 e2 e3 e4
            have k7 := (hb7.block _ (lt_of_block kx)).trans kx
            have n7 := (hb7.block _ (lt_of_block nx)).trans nx
            have q1 := cellOf k7 1 rfl
            have d1 := cellOf n7 1 rfl
            have d2 := cellOf n7 2 rfl
            have a7 := (hb7.cell (cell_lt hca)).trans hca
            clear hca hcb kx nx k7 n7
            go_wp2_with (first | (refine wpList_bs rfl 4 _ rfl (vs := #[(0, .string ⟨#[99, 111, 110, 116, 111, 117, 114]⟩), (1, .string pa), (2, .string S1), (3, .string S2)]) rfl (run_bs4 _ _ _ _ _) ?_; simp only [Act.put, List.setIfInBounds_toArray, List.set_cons_succ, List.set_cons_zero]) | (refine wpList_call_clo rfl _ _ _ rfl rfl enter102 (v := .tuple #[]) (ws := #[.slice (some ⟨w7.heap.size, 0, none⟩) 4 4, .pointer (some ⟨W1.heap.size, 0, none⟩)]) (R := fun w' => Bld W1.heap.size W1.heap.size (T0 ++ notesB s (s.notes.take (j + 1))) w' ∧ Below W1.heap.size w7 w') (HL.out w7 hb7) rfl ?_; rintro w8 ⟨hd8, hb8⟩; simp only [Act.put, List.setIfInBounds_toArray, List.set_cons_succ, List.set_cons_zero]))
            go_roundw
            case rel => exact ⟨j + 1, by omega, by go_num, HBx.out.trans ((hb7.mono (by have := HZx.out; omega)).trans hb8), hd8⟩
            case measure => simp [intOf]; omega
          focus
            have HN1 := Lib.hid (read_is x wx 3 159 h (.inr (.inr (.inl ⟨rfl, rfl⟩))))
            have ht0 := fun (k a b lo hi : Int) (w : World) => ta159_131 k a b lo hi w
            have ht1 := fun (k a b lo hi : Int) (w : World) => ta159_132 k a b lo hi w
            have ht2 := fun (k a b lo hi : Int) (w : World) => ta159_159 k a b lo hi w
            unfold noteV at HN1
            simp only [hia, hib] at HN1
            have HL : Hid (∀ wy, Below wx.heap.size wx wy → Calls Tryz.prog 102 #[.slice (some ⟨wy.heap.size, 0, none⟩) 3 3, .pointer (some ⟨W1.heap.size, 0, none⟩)] (wy.alloc (.cells #[.string ⟨#[108, 97, 107, 101]⟩, .string (ptAt s x.a), .string (ptAt s x.b)] 9)) fun e w' => e = .returned (.tuple #[]) ∧ Bld W1.heap.size W1.heap.size (T0 ++ notesB s (s.notes.take (j + 1))) w' ∧ Below W1.heap.size wy w') :=
              Lib.hid fun wy hby => line_note HG.out HMem.out hltj HXe.out HT.out [wLake, ptAt s x.a, ptAt s x.b] (by unfold noteW; simp [h]) _ rfl 3 rfl ⟨builder_below HDx.out.1 hby, HDx.out.2⟩ (by have := hby.size; have := HZx.out; omega)
            rw [hpa, hpb] at HL
            generalize s.pts[ia]?.getD ByteArray.empty = pa at *
            generalize s.pts[ib]?.getD ByteArray.empty = pb at *
            clear h hpa hpb
            go_upto_region 19 with (go_at_call 92; refine HN1.out.mono ?_; rintro e w7 ⟨rfl, hb7⟩; dsimp only)
            clear e0 e1 e2 e3 e4
            have k7 := (hb7.block _ (lt_of_block kx)).trans kx
            have n7 := (hb7.block _ (lt_of_block nx)).trans nx
            have q1 := cellOf k7 1 rfl
            have d1 := cellOf n7 1 rfl
            have d2 := cellOf n7 2 rfl
            have a7 := (hb7.cell (cell_lt hca)).trans hca
            have b7 := (hb7.cell (cell_lt hcb)).trans hcb
            clear hca hcb kx nx k7 n7
            refine region_move_tail3 (C := fun w' => ∃ n, w' = w7.drewN n) 13 _ rfl rfl (by kernel_rfl) (by kernel_rfl) ⟨1, rfl⟩ (v := .func (.func 102) #[] #[.pointer (some ⟨W1.heap.size, 0, none⟩)]) rfl ?_
            simp only [List.take_succ_cons, List.take_zero, List.drop_succ_cons, List.drop_zero, Nat.reduceSub, Act.put, List.setIfInBounds_toArray, List.set_cons_succ, List.set_cons_zero]
            repeat (first | go_big_quiet_step (fail) | quiet_step (fail))
            refine wpQuiet_nil ?_
            rintro _ ⟨n1, rfl⟩
            obtain ⟨wq, hwq⟩ : ∃ wq, wq = w7.drewN n1 := ⟨_, rfl⟩
            rw [← hwq]
            have hbq : Below wx.heap.size wx wq := by rw [hwq]; exact below_drewN hb7 n1
            clear hwq hb7
            go_wp2_with (first | (refine wpList_bs rfl 3 _ rfl (vs := #[(0, .string ⟨#[108, 97, 107, 101]⟩), (1, .string pa), (2, .string pb)]) rfl (run_bs3 _ _ _ _) ?_; simp only [Act.put, List.setIfInBounds_toArray, List.set_cons_succ, List.set_cons_zero]) | (refine wpList_call_clo rfl _ _ _ rfl rfl enter102 (v := .tuple #[]) (ws := #[.slice (some ⟨wq.heap.size, 0, none⟩) 3 3, .pointer (some ⟨W1.heap.size, 0, none⟩)]) (R := fun w' => Bld W1.heap.size W1.heap.size (T0 ++ notesB s (s.notes.take (j + 1))) w' ∧ Below W1.heap.size wq w') (HL.out wq hbq) rfl ?_; rintro w8 ⟨hd8, hb8⟩; simp only [Act.put, List.setIfInBounds_toArray, List.set_cons_succ, List.set_cons_zero]))
            refine NoPanic.normal ?_
            simp only [Exit.inBlock, Exit.then]
            go_wp2
            go_roundw
            case rel => exact ⟨j + 1, by omega, by go_num, HBx.out.trans ((hbq.mono (by have := HZx.out; omega)).trans hb8), hd8⟩
            case measure => simp [intOf]; omega
          focus
            have HN1 := Lib.hid (read_is x wx 4 133 h (.inr (.inr (.inr ⟨rfl, rfl⟩))))
            have ht0 := fun (k a b lo hi : Int) (w : World) => ta133_131 k a b lo hi w
            have ht1 := fun (k a b lo hi : Int) (w : World) => ta133_132 k a b lo hi w
            have ht2 := fun (k a b lo hi : Int) (w : World) => ta133_159 k a b lo hi w
            have ht3 := fun (k a b lo hi : Int) (w : World) => ta133_133 k a b lo hi w
            unfold noteV at HN1
            simp only [hia, hib] at HN1
            have HL : Hid (∀ wy, Below wx.heap.size wx wy → Calls Tryz.prog 102 #[.slice (some ⟨wy.heap.size, 0, none⟩) 5 5, .pointer (some ⟨W1.heap.size, 0, none⟩)] (wy.alloc (.cells #[.string ⟨#[115, 108, 111, 112, 101]⟩, .string (ptAt s x.a), .string (ptAt s x.b), .string (itB x.lo), .string (itB x.hi)] 9)) fun e w' => e = .returned (.tuple #[]) ∧ Bld W1.heap.size W1.heap.size (T0 ++ notesB s (s.notes.take (j + 1))) w' ∧ Below W1.heap.size wy w') :=
              Lib.hid fun wy hby => line_note HG.out HMem.out hltj HXe.out HT.out [wSlope, ptAt s x.a, ptAt s x.b, itB x.lo, itB x.hi] (by unfold noteW; simp [h]) _ rfl 5 rfl ⟨builder_below HDx.out.1 hby, HDx.out.2⟩ (by have := hby.size; have := HZx.out; omega)
            rw [hpa, hpb] at HL
            generalize hS1 : itB x.lo = S1 at *
            generalize hS2 : itB x.hi = S2 at *
            generalize s.pts[ia]?.getD ByteArray.empty = pa at *
            generalize s.pts[ib]?.getD ByteArray.empty = pb at *
            clear h hpa hpb
            go_upto_region 21 with (go_at_call 92; refine HN1.out.mono ?_; rintro e w7 ⟨rfl, hb7⟩; dsimp only)
            clear e0 e1 e2 e3 e4
            have k7 := (hb7.block _ (lt_of_block kx)).trans kx
            have n7 := (hb7.block _ (lt_of_block nx)).trans nx
            have q1 := cellOf k7 1 rfl
            have d1 := cellOf n7 1 rfl
            have d2 := cellOf n7 2 rfl
            have a7 := (hb7.cell (cell_lt hca)).trans hca
            have b7 := (hb7.cell (cell_lt hcb)).trans hcb
            clear hca hcb kx nx k7 n7
            refine region_move_tail3 (C := fun w' => ∃ n, w' = w7.drewN n) 15 _ rfl rfl (by kernel_rfl) (by kernel_rfl) ⟨1, rfl⟩ (v := .func (.func 102) #[] #[.pointer (some ⟨W1.heap.size, 0, none⟩)]) rfl ?_
            simp only [List.take_succ_cons, List.take_zero, List.drop_succ_cons, List.drop_zero, Nat.reduceSub, Act.put, List.setIfInBounds_toArray, List.set_cons_succ, List.set_cons_zero]
            repeat (first | go_big_quiet_step (fail) | quiet_step (fail))
            refine wpQuiet_nil ?_
            rintro _ ⟨n1, rfl⟩
            obtain ⟨wq, hwq⟩ : ∃ wq, wq = w7.drewN n1 := ⟨_, rfl⟩
            rw [← hwq]
            have hbq : Below wx.heap.size wx wq := by rw [hwq]; exact below_drewN hb7 n1
            clear hwq hb7
            go_wp2_with (first | (refine wpList_bs rfl 5 _ rfl (vs := #[(0, .string ⟨#[115, 108, 111, 112, 101]⟩), (1, .string pa), (2, .string pb), (3, .string S1), (4, .string S2)]) rfl (run_bs5 _ _ _ _ _ _) ?_; simp only [Act.put, List.setIfInBounds_toArray, List.set_cons_succ, List.set_cons_zero]) | (refine wpList_call_clo rfl _ _ _ rfl rfl enter102 (v := .tuple #[]) (ws := #[.slice (some ⟨wq.heap.size, 0, none⟩) 5 5, .pointer (some ⟨W1.heap.size, 0, none⟩)]) (R := fun w' => Bld W1.heap.size W1.heap.size (T0 ++ notesB s (s.notes.take (j + 1))) w' ∧ Below W1.heap.size wq w') (HL.out wq hbq) rfl ?_; rintro w8 ⟨hd8, hb8⟩; simp only [Act.put, List.setIfInBounds_toArray, List.set_cons_succ, List.set_cons_zero]))
            refine NoPanic.normal ?_
            simp only [Exit.inBlock, Exit.then]
            go_wp2
            go_roundw
            case rel => exact ⟨j + 1, by omega, by go_num, HBx.out.trans ((hbq.mono (by have := HZx.out; omega)).trans hb8), hd8⟩
            case measure => simp [intOf]; omega
        · obtain rfl : j = s.notes.length := by omega
          rw [List.take_length] at hdi
          have HSt := Lib.hid (Tryz.Builder_String_any W1.heap.size W1.heap.size _ wr hdi.1 (by omega))
          have hres : headB s ++ ptsB s.pts ++ notesB s s.notes = T0 ++ notesB s s.notes := by rw [hT0]
          have HRes := Lib.hid hres
          have HB2 := Lib.hid hB2
          clear hdi hbi hB2 hres hT0
          generalize T0 ++ notesB s s.notes = T1 at *
          have e106 : ∀ args w, (callFunc 106 args).run Tryz.prog w = .ok (.enter 106 args) w := enters_of Tryz.func106 (by kernel_rfl) rfl
          go_wp2_with (refine wpList_call_clo rfl _ _ _ rfl rfl e106 (v := .string ⟨T1.toArray⟩) (ws := #[.pointer (some ⟨W1.heap.size, 0, none⟩)]) (R := fun w' => Below W1.heap.size wr w') HSt.out rfl ?_; rintro w9 hb9; simp only [Act.put, List.setIfInBounds_toArray, List.set_cons_succ, List.set_cons_zero])
          go_ret
          exact ⟨(show Ending.returned (.string ⟨T1.toArray⟩) = .returned (.string ⟨(textB s).toArray⟩) by rw [show textB s = T1 from HRes.out]), HB2.out.trans (hb9.mono (by omega))⟩
end Go.Proofs.YtajdgdelhlfniaaGreatDoor
