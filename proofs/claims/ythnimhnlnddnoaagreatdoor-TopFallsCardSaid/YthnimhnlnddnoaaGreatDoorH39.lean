/- Parts of the proof of TpP: RvPG, CoM, Aw0. -/
import Derived.Test.YthnimhnlnddnoaaGreatDoorH38
import Derived.WalkKit
import Derived.Deep.Quiet
import Derived.RangeFuncRecord
import Derived.Laws.StructEq
import Derived.KernelRfl
import Derived.Test.YthnimhnlnddnoaaGreatDoorH34
import Derived.Test.YthnimhnlnddnoaaGreatDoorH23
set_option linter.unusedSimpArgs false
set_option linter.unusedVariables false
set_option maxRecDepth 100000
set_option maxHeartbeats 8000000
namespace Go.Proofs.YthnimhnlnddnoaaGreatDoor
open Go.RowKit Go.Shelf
theorem rproof_any {B : Nat} {w : World} {v : Value} {r : List RvR} (hs : Rd RvAt 4 B w v r) (hg : RGood r) (hB : B ≤ w.heap.size) (hd : DbT w) :
  Calls Tryz.prog 39 #[v] w (OwnRes w.heap.size 3 (proofR r) 0 w) := by
 obtain ⟨A, cap, rfl, h5, h6, _⟩ := id hs
 have hlen := hg.len
 obtain ⟨W1, hW1, r1, z1, d1⟩ := box_any w #[.slice A r.length cap] 22
 have HO := Lib.hid (ropen_any (hs.below (d1.mono hB)) hg (Nat.le_trans hB d1.size))
 have HS0 := Lib.hid hs
 have HG := Lib.hid hg
 have HD := Lib.hid hd
 have HR1 := Lib.hid r1
 have HB1 := Lib.hid d1
 have c0 := cellOf r1 0 (v := .slice A r.length cap) rfl
 clear hs hg hd h5 h6 d1 r1 z1
 go_enter Tryz.func39, Tryz.ntmps39
 go_upto_region 1 with (fail)
 rw [← hW1]
 clear hW1
 go_upto_region 4 with (go_at_call 46; refine HO.out.mono ?_; rintro e w1 ⟨b, rfl, hL, hb, hb1⟩; have c0 := (hb1.cell (cell_lt c0)).trans c0)
 obtain ⟨W2, hW2, r2, z2, d2⟩ := box_any w1 #[.pointer (some ⟨b, 0, none⟩)] 87
 obtain ⟨W3, hW3, r3, z3, d3⟩ := box_any W2 #[.slice none 0 0] 30
 obtain ⟨W4, hW4, r4, z4, d4⟩ := box_any W3 #[.int .i64 ((r.length : Int) + 1)] 3
 obtain ⟨W5, hW5, r5, z5, d5⟩ := box_any W4 #[.slice none 0 0] 30
 obtain ⟨W6, hW6, r6, z6, d6⟩ := box_any W5 #[.slice none 0 0] 30
 obtain ⟨a, ha⟩ : ∃ a, a = w1.heap.size := ⟨_, rfl⟩
 rw [← hW2, ← ha]
 rw [← ha] at r2 z2
 replace z3 : W3.heap.size = a + 2 := by omega
 replace z4 : W4.heap.size = a + 3 := by omega
 replace z5 : W5.heap.size = a + 4 := by omega
 replace z6 : W6.heap.size = a + 5 := by omega
 rw [z2] at r3
 rw [z3] at r4
 rw [z4] at r5
 rw [z5] at r6
 obtain ⟨W7, hW7, r7, z7, d7⟩ := box_any W6 #[.func (.func 73) #[] (proP a w.heap.size)] 123
 rw [z6] at r7
 have HW7 := Lib.hid hW7
 have hI : ProI a w.heap.size b (.slice A r.length cap) [] [] ([], (r.length : Int) + 1) W7 := by
  have b6 : Below W6.heap.size W6 W7 := d7
  have b5 : Below W5.heap.size W5 W7 := d6.trans (d7.mono (by omega))
  have b4 : Below W4.heap.size W4 W7 := d5.trans (b5.mono (by omega))
  have b3 : Below W3.heap.size W3 W7 := d4.trans (b4.mono (by omega))
  have b2 : Below W2.heap.size W2 W7 := d3.trans (b3.mono (by omega))
  have b1 : Below w1.heap.size w1 W7 := d2.trans (b2.mono (by omega))
  have b0 : Below W1.heap.size W1 W7 := hb1.trans (b1.mono hb1.size)
  have l0 := lt_of_block HR1.out
  refine ⟨(b2.block _ (by omega)).trans r2, (b4.block _ (by omega)).trans r4, (b0.block _ l0).trans HR1.out, r7, by have := hb1.size; omega, ?_⟩
  exact ⟨_, _, _, (b5.block _ (by omega)).trans r5, (b6.block _ (by omega)).trans r6, (b3.block _ (by omega)).trans r3, Own.nil _ _ _, Own.nil _ _ _, Own.nil _ _ _, fun g h => (by cases h), fun g h => (by cases h), fun g h => (by cases h)⟩
 have hbw7 : Below w1.heap.size w1 W7 := d2.trans ((d3.trans ((d4.trans ((d5.trans ((d6.trans (d7.mono (by omega))).mono (by omega))).mono (by omega))).mono (by omega))).mono (by omega))
 have hba : Below w.heap.size w w1 := HB1.out.trans (hb1.mono HB1.out.size)
 have hba7 : Below w.heap.size w W7 := hba.trans (hbw7.mono hba.size)
 have hLk : LkB r a b (.slice A r.length cap) W7 := ⟨(HS0.out.below (hba7.mono hB)).mono (by have := hba.size; omega), (show RivAt w1 b _ _ from hL).below hbw7, by have := (show RivAt w1 b _ _ from hL).lt; omega⟩
 have HP := Lib.hid (pro_any (ar := w.heap.size) HG.out (HD.out.below hba) (by omega) r.length 0 W7 [] [] ([], (r.length : Int) + 1) (by omega) hLk hbw7 hI ⟨Nat.le_refl _, fun c hc => (by cases hc)⟩ rfl)
 have HB7 := Lib.hid hba7
 have f5 := cellOf r7 0 (v := .func (.func 73) #[] (proP a w.heap.size)) rfl
 have haw := hba.size
 clear r7 hW7 d7 z7 hI hbw7 hba hba7 hLk
 have HZ2 := Lib.hid z2
 have HR2 := Lib.hid r2
 have HB2 := Lib.hid d2
 have HR3 := Lib.hid r3
 have HZ3 := Lib.hid z3
 have HB3 := Lib.hid d3
 have HR4 := Lib.hid r4
 have HZ4 := Lib.hid z4
 have HB4 := Lib.hid d4
 have HR5 := Lib.hid r5
 have HZ5 := Lib.hid z5
 have HB5 := Lib.hid d5
 have HR6 := Lib.hid r6
 have HZ6 := Lib.hid z6
 have HB6 := Lib.hid d6
 have HA := Lib.hid ha
 have HL := Lib.hid hL
 have HB1' := Lib.hid hb1
 clear z2 r2 d2 r3 z3 d3 r4 z4 d4 r5 z5 d5 r6 z6 d6 ha hL hb1
 have HW3 := Lib.hid hW3
 have HW4 := Lib.hid hW4
 have HW5 := Lib.hid hW5
 have HW6 := Lib.hid hW6
 clear hW2 hW3 hW4 hW5 hW6
 have c2 := (HB2.out.cell (cell_lt c0)).trans c0
 replace c0 := (HB3.out.cell (cell_lt c2)).trans c2
 clear c2
 go_upto_region 5 with (fail)
 rw [← HW3.out, HZ2.out]
 go_upto_region 6 with (fail)
 rw [← HW4.out, HZ3.out]
 clear c0
 go_upto_region 7 with (fail)
 rw [← HW5.out, HZ4.out]
 go_upto_region 8 with (fail)
 rw [← HW6.out, HZ5.out]
 go_upto_region 10 with (fail)
 rw [HZ6.out]
 unfold proP at HW7 f5
 rw [← HW7.out]
 go_upto_region 11 with (go_at_call 73; refine HP.out.mono ?_; rintro e w8 ⟨rfl, hI8, hP8⟩)
 clear f5
 obtain ⟨vx, vy, vz, h1, h2, h3, o1, o2, o3, _⟩ := hI8.t3
 obtain ⟨A9, c9, rfl, _, _⟩ := o3.form
 have e1 := cellOf h3 0 rfl
 have HO3 := Lib.hid o3
 have HP8 := Lib.hid hP8.below
 have HPr := Lib.hid (show (provR r r.length 0 [] [] ([], (r.length : Int) + 1)).1 = proofR r from rfl)
 rw [HPr.out] at e1 HO3
 clear hI8 hP8 h1 h2 h3 o1 o2 o3
 generalize proofR r = pl at *
 go_wp2
 go_ret2
 have hza := HA.out
 exact ⟨A9, c9, rfl, HO3.out.mono (by omega), HB7.out.trans (HP8.out.mono (by omega))⟩
end Go.Proofs.YthnimhnlnddnoaaGreatDoor
namespace Go.Proofs.YthnimhnlnddnoaaGreatDoor
open Go.RowKit
def encS (a x : Int) : Value := .agg #[.int .i64 a, .int .i64 x]
theorem encS_inj {a b x y : Int} (h : encS a x = encS b y) : a = b ∧ x = y := by
 unfold encS at h
 simpa using h
theorem u130 : Tryz.prog.underlying 130 = some (.map 136 3) := by kernel_rfl
theorem u136 : Tryz.prog.underlying 136 = some (.struct (Tryz.prog.fieldsOf 136)) := by kernel_rfl
theorem s136 : Tryz.prog.stoodInHeld 136 = false := by kernel_rfl
theorem u3n : Tryz.prog.underlying 3 = some (.int .i64) := by kernel_rfl
theorem f136 : ((Tryz.prog.fieldsOf 136).toList.map fun f => (f.type, f.offset, decide (f.name ≠ "_"))) = [(3, 0, true), (3, 1, true)] := by kernel_rfl
theorem run_skey (e : Bool) (a x : Int) (w : World) : (Instr.checkKey e 10000 136 (encS a x)).run Tryz.prog w = .ok () w := by kernel_rfl
theorem run_seq (a x b y : Int) (w : World) : (Op.equal 136 (encS a x) (encS b y)).run Tryz.prog w = .ok (a == b && x == y) w := by
 have p0 : ∀ (a x : Int), (part 3 #[.int .i64 a, .int .i64 x] 0).run Tryz.prog w = .ok (.int .i64 a) w := fun a x => by kernel_rfl
 have p1 : ∀ (a x : Int), (part 3 #[.int .i64 a, .int .i64 x] 1).run Tryz.prog w = .ok (.int .i64 x) w := fun a x => by kernel_rfl
 have hf := f136
 unfold Op.equal encS
 rw [show Op.maxDepth = 9998 + 1 + 1 from rfl, run_equalIn_struct w _ _ _ _ u136 s136]
 generalize (Tryz.prog.fieldsOf 136).toList = fs at *
 match fs, hf with
 | [f, g], hf =>
  simp only [List.map_cons, List.map_nil, List.cons.injEq, Prod.mk.injEq, and_true, decide_eq_true_eq] at hf
  obtain ⟨⟨t1, o1, n1⟩, t2, o2, n2⟩ := hf
  have e3 : ∀ a b : Int, (Op.equalIn (9998 + 1) 3 (.int .i64 a) (.int .i64 b)).run Tryz.prog w = .ok (a == b) w := fun a b => run_equalIn_int w 9998 3 .i64 .i64 a b u3n
  simp only [Op.eqFields, n1, n2, t1, t2, o1, o2, ne_eq, not_false_eq_true, if_true, Sem.run_bind, p0, p1, e3, Result.andThen_ok, Sem.run_ite, Sem.run_pure]
  by_cases h0 : a = b <;> by_cases h1 : x = y <;> simp [h0, h1]
 | [], hf => simp at hf
 | [_], hf => simp at hf
 | _ :: _ :: _ :: _, hf => simp at hf
def EntS (c : Int → Int → Int) (e : MapEntry) : Prop := ∃ a x, e.key = encS a x ∧ e.val = .int .i64 (c a x)
theorem findS_run (c : Int → Int → Int) (a x : Int) : ∀ (es : List MapEntry) (i : Nat), (∀ e ∈ es, EntS c e) →
  ∃ r, (∀ w, (Instr.findAsking 136 (encS a x) es i).run Tryz.prog w = .ok r w) ∧ (r = none ∨ ∃ j e, r = some (i + j, e.val) ∧ es[j]? = some e ∧ e.key = encS a x) := by
 intro es
 induction es with
 | nil => exact fun i _ => ⟨none, fun w => by simp [Instr.findAsking], .inl rfl⟩
 | cons e es ih =>
  intro i h
  obtain ⟨b, y, hk, hv⟩ := h e (by simp)
  by_cases hq : a = b ∧ x = y
  ·refine ⟨some (i, e.val), fun w => ?_, .inr ⟨0, e, by simp, by simp, by rw [hk, hq.1, hq.2]⟩⟩
   simp [Instr.findAsking, Sem.run_bind, hk, run_seq, Result.andThen_ok, hq.1, hq.2]
  ·obtain ⟨r, hr, hc⟩ := ih (i + 1) fun x hx => h x (by simp [hx])
   refine ⟨r, fun w => ?_, ?_⟩
   ·have : (a == b && x == y) = false := by
     rw [Bool.eq_false_iff]
     intro hh
     simp only [Bool.and_eq_true, beq_iff_eq] at hh
     exact hq hh
    simp only [Instr.findAsking, Sem.run_bind, hk, run_seq, Result.andThen_ok, this]
    exact hr w
   ·rcases hc with rfl | ⟨j, e', hr', he', hk'⟩
    ·exact .inl rfl
    ·exact .inr ⟨j + 1, e', by rw [hr']; congr 2; omega, by simpa using he', hk'⟩
theorem sfindKey_run (c : Int → Int → Int) (a x : Int) (es : List MapEntry) (h : ∀ e ∈ es, EntS c e) :
  ∃ r, (∀ w, (Instr.findKey 136 (encS a x) es).run Tryz.prog w = .ok r w) ∧ (r = none ∨ ∃ (j : Nat) (e : MapEntry), r = some (j, e.val) ∧ es[j]? = some e ∧ e.key = encS a x) := by
 cases es with
 | nil => exact ⟨none, fun w => by simp [Instr.findKey, Sem.run_bind, run_underlying u136, Result.andThen_ok, Instr.findNow, Sem.run_pure], .inl rfl⟩
 | cons e es =>
  obtain ⟨r, hr, hc⟩ := findS_run c a x (e :: es) 0 h
  refine ⟨r, fun w => ?_, ?_⟩
  ·have : Instr.findNow (.struct (Tryz.prog.fieldsOf 136)) (encS a x) (e :: es) 0 = none := by simp [Instr.findNow, Instr.sameNow]
   simp only [Instr.findKey, Sem.run_bind, run_underlying u136, Result.andThen_ok, this]
   exact hr w
  ·simpa using hc
def SMap (c : Int → Int → Int) (w : World) (b : Nat) : Prop := ∃ es clk, w.heap[b]? = some (.map es clk) ∧ ∀ e ∈ es.toList, EntS c e
theorem SMap.lt {c : Int → Int → Int} {w : World} {b : Nat} (h : SMap c w b) : b < w.heap.size := by
 obtain ⟨es, clk, hh, _⟩ := h
 exact lt_of_block hh
theorem SMap.keep {c : Int → Int → Int} {w w' : World} {b : Nat} (h : SMap c w b) (hb : w'.heap[b]? = w.heap[b]?) : SMap c w' b := by
 obtain ⟨es, clk, hh, he⟩ := h
 exact ⟨es, clk, hb.trans hh, he⟩
theorem slookup_run {c : Int → Int → Int} {w : World} {b : Nat} (h : SMap c w b) (a x : Int) :
  (∀ wx : World, wx.heap[b]? = w.heap[b]? → (Instr.lookup 130 (.map (some b)) (encS a x) true).run Tryz.prog wx = .ok (.tuple #[.int .i64 (c a x), .bool true]) wx) ∨
  (∀ wx : World, wx.heap[b]? = w.heap[b]? → (Instr.lookup 130 (.map (some b)) (encS a x) true).run Tryz.prog wx = .ok (.tuple #[.int .i64 0, .bool false]) wx) := by
 obtain ⟨es, clk, hh, hes⟩ := h
 obtain ⟨r, hr, hc⟩ := sfindKey_run c a x es.toList hes
 have hget : ∀ wx : World, wx.heap[b]? = w.heap[b]? → (getObj b).run Tryz.prog wx = .ok (.map es clk) wx := fun wx hx => by rw [hh] at hx; simp [getObj, Sem.run, hx]
 have hz : ∀ wx, (zeroValue 3).run Tryz.prog wx = .ok (.int .i64 0) wx := fun wx => by kernel_rfl
 rcases hc with rfl | ⟨j, e, rfl, he, hk⟩
 ·refine .inr fun wx hx => ?_
  simp only [Instr.lookup, Sem.run_bind, run_underlying u130, Result.andThen_ok, hget wx hx, run_skey, hr, hz, Sem.run_pure, if_true]
 ·obtain ⟨b', y', hk2, hv⟩ := hes e (List.mem_of_getElem? he)
  obtain ⟨rfl, rfl⟩ := encS_inj (hk2.symm.trans hk)
  refine .inl fun wx hx => ?_
  simp only [Instr.lookup, Sem.run_bind, run_underlying u130, Result.andThen_ok, hget wx hx, run_skey, hr, Sem.run_pure, if_true, hv]
theorem ssame_bits (a x : Int) : Instr.sameBits 10000 (encS a x) (encS a x) = true := by
 rw [show (10000 : Nat) = 9998 + 1 + 1 from rfl]
 simp [Instr.sameBits, encS]
theorem supdate_run {c : Int → Int → Int} {w : World} {b : Nat} (h : SMap c w b) (a x : Int) :
  ∃ es clk, (∀ wx : World, wx.heap[b]? = w.heap[b]? → (Instr.mapUpdate 130 (.map (some b)) (encS a x) (.int .i64 (c a x))).run Tryz.prog wx = .ok () (wx.putObj b (.map es clk))) ∧ ∀ e ∈ es.toList, EntS c e := by
 obtain ⟨es, clk, hh, hes⟩ := h
 obtain ⟨r, hr, hc⟩ := sfindKey_run c a x es.toList hes
 have hget : ∀ wx : World, wx.heap[b]? = w.heap[b]? → (getObj b).run Tryz.prog wx = .ok (.map es clk) wx := fun wx hx => by rw [hh] at hx; simp [getObj, Sem.run, hx]
 have hset : ∀ (wx : World) o, wx.heap[b]? = w.heap[b]? → (setObj b o).run Tryz.prog wx = .ok () (wx.putObj b o) := fun wx o hx => by rw [hh] at hx; simp [setObj, Sem.run, hx, World.putObj]
 rcases hc with rfl | ⟨j, e, rfl, he, hk⟩
 ·refine ⟨es.push { key := encS a x, val := .int .i64 (c a x), born := clk }, clk + 1, fun wx hx => ?_, fun e he => ?_⟩
  ·simp only [Instr.mapUpdate, Sem.run_bind, run_underlying u130, Result.andThen_ok, hget wx hx, run_skey, hr, hset wx _ hx]
  ·rw [Array.toList_push, List.mem_append] at he
   rcases he with he | he
   ·exact hes e he
   ·simp at he
    subst he
    exact ⟨a, x, rfl, rfl⟩
 ·have he' : es[j]? = some e := by rw [← Array.getElem?_toList]; exact he
  refine ⟨es.modify j fun e => { e with key := encS a x, val := .int .i64 (c a x) }, clk, fun wx hx => ?_, fun q hq => ?_⟩
  ·simp only [Instr.mapUpdate, Sem.run_bind, run_underlying u130, Result.andThen_ok, hget wx hx, run_skey, hr, hset wx _ hx, he', Option.map_some, Option.getD_some, hk, Instr.keyThatStays, ssame_bits, if_true, Sem.run_pure]
  ·obtain ⟨i, hi, rfl⟩ := List.getElem_of_mem hq
   rw [Array.length_toList, Array.size_modify] at hi
   rw [Array.getElem_toList, Array.getElem_modify]
   split
   ·exact ⟨a, x, rfl, rfl⟩
   ·exact hes _ (by rw [← Array.getElem_toList]; exact List.getElem_mem _)
end Go.Proofs.YthnimhnlnddnoaaGreatDoor
namespace Go.Proofs.YthnimhnlnddnoaaGreatDoor
open Go.RowKit
def topL (p : Nat) : Nat → List Int → List Int × Bool
 | 0, l => (l, true)
 | k + 1, l => match topL p k l with
  | (l', true) => (bindL p k 0 l', bindLB p k 0 l')
  | (l', false) => (l', false)
theorem rep_top {m : Mat} {l : List Int} {p : Nat} (h : Rep m l) (hp : p < 9) : ∀ k, k ≤ 9 → Rep (topM m p k).1 (topL p k l).1 ∧ (topM m p k).2 = (topL p k l).2 := by
 intro k
 induction k with
 | zero => intro _; exact ⟨h, rfl⟩
 | succ k ih =>
  intro hk
  obtain ⟨r, e⟩ := ih (by omega)
  unfold topM topL
  rw [e]
  split
  ·rename_i ht
   split
   ·rename_i hw
    rw [hw] at r
    exact rep_bind r hp (by omega)
   ·rename_i hw; rw [hw] at ht; cases ht
  ·rename_i ht
   split
   ·rename_i hw; rw [hw] at ht; exact absurd rfl ht
   ·rename_i hw; rw [hw] at r; exact ⟨r, rfl⟩
theorem openS_all (l : List NoteR) (h : errOf (sheetX l) = 0) : openM (sheetX l) = (allM 100 0 (sheetX l).notes freeM).1 := by unfold openM; rw [if_neg (by simp [h])]; rfl
def bS : List Int := (allL 100 0 (sheetX []).notes freeL).1
theorem high_at {m : Mat} {l : List Int} {n p : Nat} (h : Rep m l) (hp : p < 9) (hn : n ≤ 9) : highB m n p = (topL p n l).2 := (rep_top h hp n hn).2
theorem higS_l : ((topL 0 4 bS).2, (topL 1 4 bS).2, (topL 2 4 bS).2, (topL 3 4 bS).2) = (true, false, false, false) := by kernel_rfl
theorem higS : highestF (sheetX []) = [0] := by
 unfold highestF
 rw [if_neg (by simp [openS]), openS_all [] errS]
 have h := (rep_all (iv := 100) (wd := 0) rep_free ptS).1
 have e := higS_l
 simp only [Prod.mk.injEq] at e
 obtain ⟨e0, e1, e2, e3⟩ := e
 unfold highL
 rw [show (sheetX []).pts.length = 4 from rfl, show List.range 4 = [0, 1, 2, 3] from rfl]
 have f0 : highB (allM 100 0 (sheetX []).notes freeM).1 4 0 = true := (high_at h (by omega) (by omega)).trans e0
 have f1 : highB (allM 100 0 (sheetX []).notes freeM).1 4 1 = false := (high_at h (by omega) (by omega)).trans e1
 have f2 : highB (allM 100 0 (sheetX []).notes freeM).1 4 2 = false := (high_at h (by omega) (by omega)).trans e2
 have f3 : highB (allM 100 0 (sheetX []).notes freeM).1 4 3 = false := (high_at h (by omega) (by omega)).trans e3
 simp [List.filter, f0, f1, f2, f3]
structure AwS (w0 : World) (B g : Nat) (p1 n1 p2 n2 p3 n3 : Value) (W : World) : Prop where
 r1 : W.heap[g]? = some (.cells #[.int .i64 100, p1, n1] 38)
 r2 : W.heap[g + 1]? = some (.cells #[.int .i64 100, p2, n2] 38)
 r3 : W.heap[g + 2]? = some (.cells #[.int .i64 100, p3, n3] 38)
 s1 : RdSh B W (.agg #[.int .i64 100, p1, n1]) (sheetX [])
 s2 : RdSh B W (.agg #[.int .i64 100, p2, n2]) (sheetX [gnX])
 s3 : RdSh B W (.agg #[.int .i64 100, p3, n3]) (sheetX [stX])
 hB : B ≤ W.heap.size
 below : Below w0.heap.size w0 W
 gl : Glob W
theorem AwS.next {w0 W W' : World} {B g : Nat} {p1 n1 p2 n2 p3 n3 : Value} (h : AwS w0 B g p1 n1 p2 n2 p3 n3 W) (hb : Below W.heap.size W W') : AwS w0 B g p1 n1 p2 n2 p3 n3 W' :=
 ⟨(hb.block _ (lt_of_block h.r1)).trans h.r1, (hb.block _ (lt_of_block h.r2)).trans h.r2, (hb.block _ (lt_of_block h.r3)).trans h.r3, h.s1.below (hb.mono h.hB), h.s2.below (hb.mono h.hB), h.s3.below (hb.mono h.hB), Nat.le_trans h.hB hb.size, h.below.trans (hb.mono h.below.size), h.gl.below hb⟩
theorem AwS.cells {w0 W : World} {B g : Nat} {p1 n1 p2 n2 p3 n3 : Value} (h : AwS w0 B g p1 n1 p2 n2 p3 n3 W) : (W.cell? ⟨g, 0, none⟩ = some (.int .i64 100) ∧ W.cell? ⟨g, 1, none⟩ = some p1 ∧ W.cell? ⟨g, 2, none⟩ = some n1) ∧
  (W.cell? ⟨g + 1, 0, none⟩ = some (.int .i64 100) ∧ W.cell? ⟨g + 1, 1, none⟩ = some p2 ∧ W.cell? ⟨g + 1, 2, none⟩ = some n2) ∧ (W.cell? ⟨g + 2, 0, none⟩ = some (.int .i64 100) ∧ W.cell? ⟨g + 2, 1, none⟩ = some p3 ∧ W.cell? ⟨g + 2, 2, none⟩ = some n3) :=
 ⟨⟨cellOf h.r1 0 rfl, cellOf h.r1 1 rfl, cellOf h.r1 2 rfl⟩, ⟨cellOf h.r2 0 rfl, cellOf h.r2 1 rfl, cellOf h.r2 2 rfl⟩, cellOf h.r3 0 rfl, cellOf h.r3 1 rfl, cellOf h.r3 2 rfl⟩
theorem rdsh_form {B : Nat} {w : World} {v : Value} {s : ShR} (h : RdSh B w v s) : ∃ A c A' c', v = .agg #[.int .i64 s.iv, .slice A s.pts.length c, .slice A' s.notes.length c'] := by
 obtain ⟨vp, vn, rfl, ⟨A, c, rfl, _⟩, ⟨A', c', rfl, _⟩⟩ := h
 exact ⟨A, c, A', c', rfl⟩
theorem named_X (l : List NoteR) : Named (sheetX l) := by
 intro p hp
 simp only [sheetX, List.mem_cons, List.not_mem_nil, or_false] at hp
 rcases hp with rfl | rfl | rfl | rfl <;> decide
theorem sheet_nil (w : World) : Calls Tryz.prog 20 #[.slice none 0 0] w fun e w' => ∃ A c D d, e = .returned (.agg #[.int .i64 100, .slice A 4 c, .slice D 4 d]) ∧ RdSh w'.heap.size w' (.agg #[.int .i64 100, .slice A 4 c, .slice D 4 d]) (sheetX []) ∧ Below w.heap.size w w' := by
 refine (sheet_any (w := w) (B := w.heap.size) (l := []) (A := none) (c := 0) (Rd.nil _ _) (Nat.le_refl _) (by simp)).mono ?_
 rintro e w1 ⟨v1, rfl, hs1, hb1⟩
 obtain ⟨A, c, D, d, rfl⟩ := rdsh_form hs1
 exact ⟨A, c, D, d, rfl, hs1, hb1⟩
theorem sheet_one {w : World} {g : Nat} {x : NoteR} (h : Rd NoteAt 5 w.heap.size w (.slice (some ⟨g, 0, none⟩) 1 1) [x]) : Calls Tryz.prog 20 #[.slice (some ⟨g, 0, none⟩) 1 1] w fun e w' => ∃ A c D d, e = .returned (.agg #[.int .i64 100, .slice A 4 c, .slice D 5 d]) ∧ RdSh w'.heap.size w' (.agg #[.int .i64 100, .slice A 4 c, .slice D 5 d]) (sheetX [x]) ∧ Below w.heap.size w w' := by
 refine (sheet_any (w := w) (l := [x]) h (Nat.le_refl _) (by simp)).mono ?_
 rintro e w1 ⟨v1, rfl, hs1, hb1⟩
 obtain ⟨A, c, D, d, rfl⟩ := rdsh_form hs1
 exact ⟨A, c, D, d, rfl, hs1, hb1⟩
section
variable {w0 W : World} {B g : Nat} {p1 n1 p2 n2 p3 n3 : Value} (h : AwS w0 B g p1 n1 p2 n2 p3 n3 W)
include h
theorem aw_fitS : Calls Tryz.prog 23 #[.agg #[.int .i64 100, p1, n1]] W fun e w' => e = .returned (.tuple #[.bool true, .int .i64 0]) ∧ Below W.heap.size W w' := by
 have := fits_any h.s1 (named_X []) h.hB
 rwa [fitS, errS] at this
theorem aw_fitB : Calls Tryz.prog 23 #[.agg #[.int .i64 100, p3, n3]] W fun e w' => e = .returned (.tuple #[.bool false, .int .i64 0]) ∧ Below W.heap.size W w' := by
 have := fits_any h.s3 (named_X [stX]) h.hB
 rwa [fitB, errB] at this
theorem aw_heiT : Calls Tryz.prog 8 #[.agg #[.int .i64 100, p2, n2]] W fun e w' => ∃ A c, e = .returned (.tuple #[.slice A 4 c, .int .i64 0]) ∧ Rd SpanAt 2 w'.heap.size w' (.slice A 4 c) [(1180, 1200), (900, 940), (910, 950), (900, 940)] ∧ Below W.heap.size W w' := by
 refine (heights_any h.s2 (named_X [gnX]) h.hB).mono ?_
 rintro e w' ⟨A, c, rfl, ho, hb⟩
 rw [heiT] at ho ⊢
 rw [openT]
 exact ⟨A, c, rfl, ho.rd, hb⟩
theorem aw_heiB : Calls Tryz.prog 8 #[.agg #[.int .i64 100, p3, n3]] W fun e w' => ∃ A c, e = .returned (.tuple #[.slice A 0 c, .int .i64 9]) ∧ Below W.heap.size W w' := by
 refine (heights_any h.s3 (named_X [stX]) h.hB).mono ?_
 rintro e w' ⟨A, c, rfl, ho, hb⟩
 rw [heiB, openB]
 exact ⟨A, c, rfl, hb⟩
theorem aw_apaT : Calls Tryz.prog 24 #[.agg #[.int .i64 100, p2, n2], .int .i64 2, .int .i64 1] W fun e w' => e = .returned (.tuple #[.agg #[.int .i64 10, .int .i64 40], .int .i64 2, .int .i64 0]) ∧ Below W.heap.size W w' := by
 have := apart_any 2 1 h.s2 (named_X [gnX]) h.hB
 rw [apaT] at this
 exact this
theorem aw_higS : Calls Tryz.prog 25 #[.agg #[.int .i64 100, p1, n1]] W fun e w' => ∃ A c, e = .returned (.tuple #[.slice A 1 c, .int .i64 0]) ∧ Rd IntAt 1 w'.heap.size w' (.slice A 1 c) [0] ∧ Below W.heap.size W w' := by
 refine (highest_any h.s1 (named_X []) h.hB).mono ?_
 rintro e w' ⟨A, c, rfl, ho, hb⟩
 rw [higS] at ho ⊢
 rw [openS]
 exact ⟨A, c, rfl, ho.rd, hb⟩
theorem aw_proB : Calls Tryz.prog 26 #[.agg #[.int .i64 100, p3, n3]] W fun e w' => ∃ A c, e = .returned (.tuple #[.slice A 3 c, .int .i64 0]) ∧ Rd IntAt 1 w'.heap.size w' (.slice A 3 c) [0, 1, 4] ∧ Below W.heap.size W w' := by
 refine (proof_any h.s3 (named_X [stX]) h.hB).mono ?_
 rintro e w' ⟨A, c, rfl, ho, hb⟩
 rw [proB] at ho ⊢
 rw [proEB]
 exact ⟨A, c, rfl, ho.rd, hb⟩
theorem aw_proS : Calls Tryz.prog 26 #[.agg #[.int .i64 100, p1, n1]] W fun e w' => ∃ A c, e = .returned (.tuple #[.slice A 0 c, .int .i64 4]) ∧ Below W.heap.size W w' := by
 refine (proof_any h.s1 (named_X []) h.hB).mono ?_
 rintro e w' ⟨A, c, rfl, ho, hb⟩
 rw [proS, proES]
 exact ⟨A, c, rfl, hb⟩
theorem aw_wroB : Calls Tryz.prog 27 #[.agg #[.int .i64 100, p3, n3]] W fun e w' => ∃ A c, e = .returned (.tuple #[.slice A 1 c, .int .i64 0]) ∧ Rd IntAt 1 w'.heap.size w' (.slice A 1 c) [0] ∧ Below W.heap.size W w' := by
 refine (wrong_any h.s3 (named_X [stX]) h.hB).mono ?_
 rintro e w' ⟨A, c, rfl, ho, hb⟩
 rw [wroB] at ho ⊢
 rw [errB]
 exact ⟨A, c, rfl, ho.rd, hb⟩
theorem aw_widB : Calls Tryz.prog 28 #[.agg #[.int .i64 100, p3, n3]] W fun e w' => e = .returned (.tuple #[.int .i64 60, .int .i64 0]) ∧ Below W.heap.size W w' := by
 refine (wider_any h.s3 (named_X [stX]) h.hB).mono ?_
 rintro e w' ⟨n, rfl, _, hw, hb⟩
 rw [widB (hw errB), errB]
 exact ⟨rfl, hb⟩
theorem aw_wriS : Calls Tryz.prog 29 #[.agg #[.int .i64 100, p1, n1]] W fun e w' => e = .returned (.tuple #[.string textX, .int .i64 0]) ∧ Below W.heap.size W w' := by
 have := write_any h.s1 (named_X []) h.hB h.gl
 rwa [wriS, errS] at this
theorem aw_reaS : Calls Tryz.prog 30 #[.string textX] W fun e w' => ∃ A c D d, e = .returned (.tuple #[.agg #[.int .i64 100, .slice A 4 c, .slice D 4 d], .int .i64 0]) ∧ RdSh w'.heap.size w' (.agg #[.int .i64 100, .slice A 4 c, .slice D 4 d]) (sheetX []) ∧ Below W.heap.size W w' := by
 refine (read_any (t := textX) (by rw [show textX.size = 126 by kernel_rfl]; omega) h.gl).mono ?_
 rintro e w' ⟨v, rfl, hr, hb⟩
 rw [reaS] at hr ⊢
 obtain ⟨A, c, D, d, rfl⟩ := rdsh_form hr
 exact ⟨A, c, D, d, rfl, hr, hb⟩
end
theorem alloc_below {w w' : World} {o : Obj} (h : Below (w.alloc o).heap.size (w.alloc o) w') : Below w.heap.size w w' := ((Below.refl _ _).alloc (Nat.le_refl _) _).trans (h.mono (by simp))
theorem ints_at {w : World} {A : Option Addr} {m c : Nat} {l : List Int} (h : Rd IntAt 1 w.heap.size w (.slice A m c) l) {cs : Array Value} {n : Nat} (hcs : (l.flatMap (Enc.enc (α := Int))).toArray = cs) (hn : l.length = n) (hy : l.length ≤ 1000) :
  Calls Tryz.prog 16 #[.slice A m c, .slice (some ⟨w.heap.size, 0, none⟩) n n] (w.alloc (.cells cs 3)) fun e w' => e = .returned (.bool true) ∧ Below w.heap.size w w' := by
 subst hcs hn
 have hl := (own_lit (α := Int) (w := w.alloc (.cells (l.flatMap (Enc.enc (α := Int))).toArray 3)) (b := w.heap.size) (e := 3) l hy (heap_alloc_new w _)).rd
 refine (ints_any (h.alloc (Nat.le_refl _) _) hl (by omega)).mono ?_
 rintro e w' ⟨rfl, hq⟩
 exact ⟨by simp, alloc_below (hq.below _)⟩
theorem spans_at {w : World} {A : Option Addr} {m c : Nat} {l : List (Int × Int)} (h : Rd SpanAt 2 w.heap.size w (.slice A m c) l) {cs : Array Value} {n : Nat} (hcs : (l.flatMap (Enc.enc (α := Int × Int))).toArray = cs) (hn : l.length = n) (hy : l.length ≤ 1000) :
  Calls Tryz.prog 32 #[.slice A m c, .slice (some ⟨w.heap.size, 0, none⟩) n n] (w.alloc (.cells cs 42)) fun e w' => e = .returned (.bool true) ∧ Below w.heap.size w w' := by
 subst hcs hn
 have hl := (own_lit (α := Int × Int) (w := w.alloc (.cells (l.flatMap (Enc.enc (α := Int × Int))).toArray 42)) (b := w.heap.size) (e := 42) l hy (heap_alloc_new w _)).rd
 refine (spans_any (h.alloc (Nat.le_refl _) _) hl (by omega)).mono ?_
 rintro e w' ⟨rfl, hq⟩
 exact ⟨by simp, alloc_below (hq.below _)⟩
theorem aw_same {w0 W : World} {B g : Nat} {p1 n1 p2 n2 p3 n3 v : Value} (h : AwS w0 B g p1 n1 p2 n2 p3 n3 W) (h2 : RdSh W.heap.size W v (sheetX [])) : Calls Tryz.prog 34 #[v, .agg #[.int .i64 100, p1, n1]] W fun e w' => e = .returned (.bool true) ∧ Below W.heap.size W w' := by
 refine (same_any h2 h.s1 (Nat.le_refl _) h.hB (by simp [sheetX]) (by simp [sheetX])).mono ?_
 rintro e w' ⟨rfl, hb⟩
 exact ⟨retB (decide_eq_true (eqS_iff.2 rfl)), hb⟩
theorem aw_nameY (w : World) : Calls Tryz.prog 35 #[.string ⟨#[97, 45, 57]⟩] w fun e w' => e = .returned (.bool true) ∧ Below w.heap.size w w' := name_any _ w (by decide)
theorem aw_nameN (w : World) : Calls Tryz.prog 35 #[.string ⟨#[57, 97]⟩] w fun e w' => e = .returned (.bool false) ∧ Below w.heap.size w w' := name_any _ w (by decide)
end Go.Proofs.YthnimhnlnddnoaaGreatDoor
