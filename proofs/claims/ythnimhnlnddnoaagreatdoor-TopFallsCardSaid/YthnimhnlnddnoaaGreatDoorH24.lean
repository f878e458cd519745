/- Parts of the proof of TpP: Tk0, Tk1, Tk2, Tk3. -/
import Derived.Test.YthnimhnlnddnoaaGreatDoorH23
import Derived.Test.YthnimhnlnddnoaaGreatDoorH21
import Derived.Test.YthnimhnlnddnoaaGreatDoorH5
import Derived.WalkKit
import Derived.Deep.Quiet
import Derived.Test.YthnimhnlnddnoaaGreatDoorH9
import Derived.Laws.Tables
set_option linter.unusedSimpArgs false
set_option linter.unusedVariables false
set_option maxRecDepth 100000
set_option maxHeartbeats 8000000
namespace Go.Proofs.YthnimhnlnddnoaaGreatDoor
open Go.RowKit
def chE : List PanicEntry := [{ v := .iface 26 (.int .i64 6), recovered := false }]
theorem atoi_no (s : ByteArray) (hs : s.size ≤ 100000) (h : numF s = none) {w : World} (hg : Glob w) :
  Calls Tryz.prog 126 #[.string s] w fun e w' => ∃ N n, e = .returned (.tuple #[.int .i64 n, .iface 219 (.pointer (some ⟨N, 0, none⟩))]) ∧ Below w.heap.size w w' := by
 unfold numF at h
 cases hr : Lib.atoiAll s.data.toList with
 | ok v => rw [hr] at h; cases h
 | range =>
  obtain ⟨tp, p, hv⟩ := hg.rng
  refine (Tryz.strconv_Atoi_range_var s (by omega) hr tp p w hv).mono ?_
  rintro e w' ⟨N, rfl, _, _, hb⟩
  exact ⟨N, _, rfl, hb⟩
 | _ =>
  obtain ⟨tp, p, hv⟩ := hg.syn
  refine (Tryz.strconv_Atoi_syntax_var s (by omega) (hr.trans (by kernel_rfl)) tp p w hv).mono ?_
  rintro e w' ⟨N, rfl, _, _, hb⟩
  exact ⟨N, _, rfl, hb⟩
theorem number_no (s : ByteArray) (hs : s.size ≤ 100000) (h : numF s = none) {w : World} (hg : Glob w) :
  Calls Tryz.prog 109 #[.string s] w fun e w' => e = .panicked chE ∧ Below w.heap.size w w' := by
 have HA := Lib.hid (atoi_no s hs h hg)
 clear h hg
 unfold chE
 go_enter Tryz.func109, Tryz.ntmps109
 go_wp2_with (first | (go_at_call 126; refine HA.out.mono ?_; rintro e w1 ⟨N, n, rfl, hb1⟩) | (go_at_call 70; refine (must_false _).mono ?_; rintro e w2 ⟨rfl, hw2⟩; subst hw2; refine ⟨rfl, rfl, hb1⟩))
theorem number_any (s : ByteArray) (hs : s.size ≤ 100000) {w : World} (hg : Glob w) :
  Calls Tryz.prog 109 #[.string s] w fun e w' => ((∃ v, numF s = some v ∧ e = .returned (.int .i64 v)) ∨ (numF s = none ∧ e = .panicked chE)) ∧ Below w.heap.size w w' := by
 cases h : numF s with
 | none => exact (number_no s hs h hg).mono fun e w' ⟨h1, h2⟩ => ⟨.inr ⟨rfl, h1⟩, h2⟩
 | some v =>
  have h' : Lib.atoiAll s.data.toList = .ok v := by
   unfold numF at h
   split at h
   ·rename_i v' hv
    rw [hv]
    simpa using h
   ·cases h
  exact (number_ok s hs h' w).mono fun e w' ⟨h1, h2⟩ => ⟨.inl ⟨v, rfl, h1⟩, h2⟩
theorem index_any {base : Nat} {w : World} {v : Value} {xs : List ByteArray} (hp : Own base 9 w v xs) (x : ByteArray) :
  Calls Tryz.prog 108 #[v, .string x] w fun e w' => e = .returned (.int .i64 (Lib.idxOfS xs x)) ∧ w' = w := by
 rcases id hp with ⟨hl, ⟨rfl, h0⟩ | ⟨g, cap, cur, rfl, hb, hh, hn, hc, hsz, hx⟩⟩
 ·have : xs = [] := List.eq_nil_of_length_eq_zero h0
  subst this
  exact Tryz.slices_Index_string_empty none 0 x w
 ·exact index_ok hp.rd x
theorem point_any {w : World} {a b : Addr} {base h gw cw : Nat} {vp : Value} {xs ws : List ByteArray} (i : Nat) (hb : w.cell? b = some (.pointer (some ⟨h, 0, none⟩))) (h1 : w.cell? ⟨h, 1, none⟩ = some vp) (ha : w.cell? a = some (.slice (some ⟨gw, 0, none⟩) ws.length cw))
  (hp : Own base 9 w vp xs) (hw : Rd StrAt 1 w.heap.size w (.slice (some ⟨gw, 0, none⟩) ws.length cw) ws) (hi : i ≤ 1000) (hsmall : ws.length ≤ 1000000) :
  Calls Tryz.prog 107 #[.int .i64 i, .pointer (some a), .pointer (some b)] w fun e w' => ((∃ r, pointF xs ws i = some r ∧ e = .returned (.int .i64 r)) ∨ (pointF xs ws i = none ∧ e = .panicked chE)) ∧ Below w.heap.size w w' := by
 have C1 := Aft.cell hb
 have C2 := Aft.cell h1
 have C3 := Aft.cell ha
 by_cases hlt : i < ws.length
 ·have C4 := Aft.cell (wordAt hw hlt)
  have HI := Lib.hid (fun (y : Aft w) => index_any (hp.below y.2) (ws[i]?.getD ByteArray.empty))
  have hlti : decide ((i : Int) < (ws.length : Int)) = true := decide_eq_true (by omega)
  by_cases h0 : 0 ≤ Lib.idxOfS xs (ws[i]?.getD ByteArray.empty)
  ·have hres : pointF xs ws i = some (Lib.idxOfS xs (ws[i]?.getD ByteArray.empty)) := by unfold pointF wd; rw [if_pos ⟨hlt, h0⟩]
   have hge : decide (0 ≤ Lib.idxOfS xs (ws[i]?.getD ByteArray.empty)) = true := decide_eq_true h0
   have HR := Lib.hid hres
   clear h0 hw hp hres
   revert HI HR hge C4
   generalize ws[i]?.getD ByteArray.empty = x
   generalize Lib.idxOfS xs x = r
   intro C4 HI hge HR
   go_enter Tryz.func107, Tryz.ntmps107
   go_upto_region 2 with (go_at_call 70; refine (must_true _).mono ?_; rintro e w2 ⟨rfl, rfl⟩)
   refine wp_region_aft (by kernel_rfl) (by kernel_rfl) ?_
   repeat (first | go_big_quiet_step ((go_at_call 108; exact Aft.call_same (HI.out _))) | quiet_step ((go_at_call 108; exact Aft.call_same (HI.out _))))
   refine wpQuiet_nil ?_
   rintro wx ⟨⟨_, hbx⟩, rfl⟩
   go_wp2_with (go_at_call 70; refine (must_true _).mono ?_; rintro e w2 ⟨rfl, rfl⟩)
   go_ret
   exact ⟨.inl ⟨r, HR.out, rfl⟩, hbx⟩
  ·have hres : pointF xs ws i = none := by unfold pointF wd; rw [if_neg (fun h => h0 h.2)]
   have hge : decide (0 ≤ Lib.idxOfS xs (ws[i]?.getD ByteArray.empty)) = false := decide_eq_false h0
   have HR := Lib.hid hres
   clear h0 hw hp hres
   revert HI HR hge C4
   generalize ws[i]?.getD ByteArray.empty = x
   generalize Lib.idxOfS xs x = r
   intro C4 HI hge HR
   go_enter Tryz.func107, Tryz.ntmps107
   go_upto_region 2 with (go_at_call 70; refine (must_true _).mono ?_; rintro e w2 ⟨rfl, rfl⟩)
   refine wp_region_aft (by kernel_rfl) (by kernel_rfl) ?_
   repeat (first | go_big_quiet_step ((go_at_call 108; exact Aft.call_same (HI.out _))) | quiet_step ((go_at_call 108; exact Aft.call_same (HI.out _))))
   refine wpQuiet_nil ?_
   rintro wx ⟨⟨_, hbx⟩, rfl⟩
   go_wp2_with (go_at_call 70; refine (must_false _).mono ?_; rintro e w2 ⟨rfl, hw2⟩; subst hw2; refine ⟨rfl, .inr ⟨HR.out, rfl⟩, hbx⟩)
 ·have hres : pointF xs ws i = none := by unfold pointF; rw [if_neg (fun h => hlt h.1)]
  have hlti : decide ((i : Int) < (ws.length : Int)) = false := decide_eq_false (by omega)
  have HR := Lib.hid hres
  clear hres hw hp
  go_enter Tryz.func107, Tryz.ntmps107
  go_wp2_with (go_at_call 70; refine (must_false _).mono ?_; rintro e w2 ⟨rfl, hw2⟩; subst hw2; refine ⟨rfl, .inr ⟨HR.out, rfl⟩, Below.refl _ _⟩)
end Go.Proofs.YthnimhnlnddnoaaGreatDoor
namespace Go.Proofs.YthnimhnlnddnoaaGreatDoor
open Go.RowKit
structure TakeK (base H : Nat) (w w' : World) : Prop where
 keep : ∀ k, k < base → ¬k = H → w'.heap[k]? = w.heap[k]?
 nc : NC w w'
 b0 : Below 0 w w'
theorem TakeK.of_below {base H : Nat} {w w' : World} (h : Below w.heap.size w w') (hb : base ≤ w.heap.size) : TakeK base H w w' :=
 ⟨fun k hk _ => h.block k (by omega), (NC.refl w).of_below h, h.mono (Nat.zero_le _)⟩
structure TakeIn (base H gw cw : Nat) (vp vn : Value) (s : ShR) (ws : List ByteArray) (w : World) : Prop where
 sh : SheetAt base w H vp vn s
 wd : Rd StrAt 1 w.heap.size w (.slice (some ⟨gw, 0, none⟩) ws.length cw) ws
 gl : Glob w
 hb : H < base
 le : base ≤ w.heap.size
 few : s.pts.length + s.notes.length ≤ 10000
 small : ∀ x ∈ ws, x.size ≤ 100000
 one : 1 ≤ ws.length ∧ ws.length ≤ 100000
 gw : vp.ownBlock ≠ some gw
def TakeQ (base H : Nat) (vp vn : Value) (s : ShR) (ws : List ByteArray) (w : World) (e : Ending) (w' : World) : Prop :=
 (∃ s', takeF s ws = some s' ∧ e = .returned (.tuple #[]) ∧ ∃ vp' vn', SheetAt base w' H vp' vn' s' ∧ TakeK base H w w') ∨ (takeF s ws = none ∧ e = .panicked chE ∧ SheetAt base w' H vp vn s ∧ TakeK base H w w')
theorem wd_small {ws : List ByteArray} (h : ∀ x ∈ ws, x.size ≤ 100000) (i : Nat) : (wd ws i).size ≤ 100000 := by
 unfold wd
 cases e : ws[i]? with
 | none => simp
 | some x => exact h x (List.mem_of_getElem? e)
theorem wd_at {B : Nat} {w : World} {gw n cw : Nat} {ws : List ByteArray} (hw : Rd StrAt 1 B w (.slice (some ⟨gw, 0, none⟩) n cw) ws) {i : Nat} (hi : i < ws.length) : w.cell? ⟨gw, i, none⟩ = some (.string (wd ws i)) := wordAt hw hi
theorem fin_of {base H gw cw : Nat} {vp vn : Value} {s : ShR} {ws : List ByteArray} {w W2 : World} (h : TakeIn base H gw cw vp vn s ws w) (hT : TakeW w W2 H gw cw ws.length) : ∀ wz, Below W2.heap.size W2 wz → SheetAt base wz H vp vn s ∧ TakeK base H w wz := fun wz hz => by
 have hb := hT.below.trans (hz.mono hT.below.size)
 exact ⟨h.sh.below hb, .of_below hb h.le⟩
theorem run_call_clo {P : Program} {o : Oper} {a : Act} {w : World} (x : Operand) (args : Array Operand) (ts : Array TypeId) (ho : o.op = .call { callee := .value x, args := args, argTypes := ts })
  {f : FuncId} {c ws : Array Value} (hx : a.eval x = .func (.func f) #[] c) (he : ∀ args w, (callFunc f args).run P w = .ok (.enter f args) w) (hv : args.toList.map a.eval ++ c.toList = ws.toList) :
  (execOp a.eval o).run P w = .ok (.enter f ws) w := by
 unfold execOp
 rw [ho]
 have hv : args.map a.eval ++ c = ws := by
  rw [← Array.toList_inj, Array.toList_append, Array.toList_map]
  exact hv
 simp only [resolve, hx, Deferred.ofValue, Sem.run_bind, Sem.run_pure, Result.andThen_ok, invoke, Array.empty_append, hv, he]
theorem enter110 : ∀ args w, (callFunc 107 args).run Tryz.prog w = .ok (.enter 107 args) w := enters_of Tryz.func107 (by kernel_rfl) rfl
theorem enter112 : ∀ args w, (callFunc 109 args).run Tryz.prog w = .ok (.enter 109 args) w := enters_of Tryz.func109 (by kernel_rfl) rfl
theorem eval_tmp {b : Act} {d : Tmp} {v : Value} (h : b.tmps[d]?.getD undef = v) : b.eval (.tmp d) = v := by unfold Act.eval; simpa using h
structure TsI (W : World) (H : Nat) (x : ByteArray) (val : Nat → Value) (L : Nat → Bool) (vs : Nat → Value) (X : World) : Prop where
 bel : L 7 = false → Below W.heap.size W X
 rd : ∀ k, k < 7 → L k = true → vs k = val k
 num : L 4 = true → (numF x).isSome = true
 st : L 7 = true → ∃ X', Below W.heap.size W X' ∧ X = X'.setCell ⟨H, 0, none⟩ (val 4)
theorem take_sheet_any {w : World} {base H gw cw : Nat} {vp vn : Value} {s : ShR} {ws : List ByteArray} (h : TakeIn base H gw cw vp vn s ws w) (hk : wd ws 0 = wSheet) :
  Calls Tryz.prog 67 #[.pointer (some ⟨H, 0, none⟩), .slice (some ⟨gw, 0, none⟩) ws.length cw] w fun e w' => TakeQ base H vp vn s ws w e w' := by
 obtain ⟨W2, hW2, hT⟩ := takeW_made w H gw cw ws.length
 have x0 := wd_at h.wd (i := 0) (by have := h.one; omega)
 rw [hk] at x0
 have x0 := (hT.below.cell (cell_lt x0)).trans x0
 have p0 := cellOf hT.b0 0 rfl
 have p1 := cellOf hT.b1 0 rfl
 have HT := Lib.hid hT
 have HS := Lib.hid h
 have HFin := Lib.hid (fin_of h hT)
 unfold wSheet at x0
 by_cases hl : ws.length = 2
 ·have x1 := wd_at h.wd (i := 1) (by omega)
  have x1 := (hT.below.cell (cell_lt x1)).trans x1
  have HTk := Lib.hid (show takeF s ws = (numF (wd ws 1)).map fun v => { s with iv := v } by unfold takeF; rw [if_pos hk, if_pos hl])
  have HN := Lib.hid (fun (X : World) (hX : Below W2.heap.size W2 X) => number_any (wd ws 1) (wd_small h.small 1) (w := X) (h.gl.below (hT.below.trans (hX.mono hT.below.size))))
  have X1 := Lib.hid x1
  have P0 := Lib.hid p0
  have P1 := Lib.hid p1
  have R2 := Lib.hid ((hT.below.block _ (lt_of_block h.sh.row)).trans h.sh.row)
  rw [hl] at hW2 p1 ⊢
  clear hT h hk x1
  go_enter Tryz.func67, Tryz.ntmps67
  go_upto_region 1 with (fail)
  rw [← hW2]
  clear hW2
  go_upto_region 6 with (first | (refine wpList_mkfn2 rfl _ _ rfl (cs := #[.pointer (some ⟨w.heap.size + 1, 0, none⟩), .pointer (some ⟨w.heap.size, 0, none⟩)]) rfl ?_; simp only [Act.put, List.setIfInBounds_toArray, List.set_cons_succ, List.set_cons_zero]) | (go_at_call 70; refine (must_true _).mono ?_; rintro e wm ⟨rfl, hw⟩; subst wm; dsimp only))
  refine wp_region_ghost (TsI W2 H (wd ws 1) (fun k => ([.pointer (some ⟨H, 0, none⟩), .slice (some ⟨gw, 0, none⟩) 2 cw, .pointer (some ⟨gw, 1, none⟩), .string (wd ws 1), .int .i64 ((numF (wd ws 1)).getD 0), .pointer (some ⟨H, 0, none⟩), .pointer (some ⟨H, 0, none⟩)] : List Value).getD k undef)) (by kernel_rfl) (by kernel_rfl) ?_ ?_ ?_
  ·exact ⟨fun _ => (Below.refl _ _).drew, fun _ _ h => (by cases h), fun h => (by cases h), fun h => (by cases h)⟩
  ·refine ⟨?_, ?_, ?_, ?_, ?_, ?_, ?_, ?_, trivial⟩
   all_goals
    intro L vs X b hL hw hcl hI hf
   ·have n7 : L 7 = false := not_yet hcl 7 hL rfl (by kernel_rfl)
    have hb := hI.bel n7
    have e2 := hf.old 2 (by kernel_rfl)
    have a0 := (hb.cell (cell_lt P0.out)).trans P0.out
    exact wp_of_run (v := .pointer (some ⟨H, 0, none⟩)) (w' := X) (by unfold execOp; go_simp) (⟨hI.bel, rd_step hI.rd (fun _ => rfl), hI.num, hI.st⟩)
   ·have n7 : L 7 = false := not_yet hcl 7 hL rfl (by kernel_rfl)
    have hb := hI.bel n7
    have e3 := hf.old 3 (by kernel_rfl)
    have a0 := (hb.cell (cell_lt P1.out)).trans P1.out
    exact wp_of_run (v := .slice (some ⟨gw, 0, none⟩) 2 cw) (w' := X) (by unfold execOp; go_simp) (⟨hI.bel, rd_step hI.rd (fun _ => rfl), hI.num, hI.st⟩)
   ·have e21 := hf.got hw 1 21 (.slice (some ⟨gw, 0, none⟩) 2 cw) rfl (by kernel_rfl) (by simp) (hI.rd 1 (by decide))
    exact wp_of_run (v := .pointer (some ⟨gw, 1, none⟩)) (w' := X) (by unfold execOp; go_simp) (⟨hI.bel, rd_step hI.rd (fun _ => rfl), hI.num, hI.st⟩)
   ·have n7 : L 7 = false := not_yet hcl 7 hL rfl (by kernel_rfl)
    have hb := hI.bel n7
    have e22 := hf.got hw 2 22 (.pointer (some ⟨gw, 1, none⟩)) rfl (by kernel_rfl) (by simp) (hI.rd 2 (by decide))
    have a0 := (hb.cell (cell_lt X1.out)).trans X1.out
    exact wp_of_run (v := .string (wd ws 1)) (w' := X) (by unfold execOp; go_simp) (⟨hI.bel, rd_step hI.rd (fun _ => rfl), hI.num, hI.st⟩)
   ·have n7 : L 7 = false := not_yet hcl 7 hL rfl (by kernel_rfl)
    have hb := hI.bel n7
    have e23 := hf.got hw 3 23 (.string (wd ws 1)) rfl (by kernel_rfl) (by simp) (hI.rd 3 (by decide))
    refine wp_of_call2 (f := 109) (args := #[.string (wd ws 1)]) (run_call_clo (.func 109) _ _ rfl (c := #[]) rfl enter112 (by simp [eval_tmp e23])) ?_
    refine (HN.out X hb).mono ?_
    rintro e wz ⟨(⟨v, hv, rfl⟩ | ⟨hn, rfl⟩), hbz⟩
    ·exact .inl ⟨_, rfl, fun _ => hb.trans (hbz.mono hb.size), rd_step hI.rd (fun _ => by show _ = Value.int .i64 ((numF (wd ws 1)).getD 0); rw [hv]; rfl), fun _ => by rw [hv]; rfl, fun h => absurd (n7.symm.trans h) (by simp)⟩
    ·refine .inr ⟨_, rfl, ?_⟩
     simp only [Exit.then, Exit.inBlock]
     exact ⟨hf.dfr, .inr ⟨by rw [HTk.out, hn]; rfl, rfl, HFin.out wz (hb.trans (hbz.mono hb.size))⟩⟩
   ·have e20 := hf.got hw 0 20 (.pointer (some ⟨H, 0, none⟩)) rfl (by kernel_rfl) (by simp) (hI.rd 0 (by decide))
    exact wp_of_run (v := .pointer (some ⟨H, 0, none⟩)) (w' := X) (by unfold execOp; go_simp) (⟨hI.bel, rd_step hI.rd (fun _ => rfl), hI.num, hI.st⟩)
   ·have e25 := hf.got hw 5 25 (.pointer (some ⟨H, 0, none⟩)) rfl (by kernel_rfl) (by simp) (hI.rd 5 (by decide))
    exact wp_of_run (v := .pointer (some ⟨H, 0, none⟩)) (w' := X) (by unfold execOp; go_simp) (⟨hI.bel, rd_step hI.rd (fun _ => rfl), hI.num, hI.st⟩)
   ·have e24 := hf.got hw 4 24 (.int .i64 ((numF (wd ws 1)).getD 0)) rfl (by kernel_rfl) (by simp) (hI.rd 4 (by decide))
    have e26 := hf.got hw 6 26 (.pointer (some ⟨H, 0, none⟩)) rfl (by kernel_rfl) (by simp) (hI.rd 6 (by decide))
    have hb := hI.bel hL
    have rx := (hb.block _ (lt_of_block R2.out)).trans R2.out
    have q0 := cellOf rx 0 rfl
    have fx : X.frozen? ⟨H, 0, none⟩ = false := by simp [World.frozen?, rx]
    refine wp_of_skip (w' := X.setCell ⟨H, 0, none⟩ (.int .i64 ((numF (wd ws 1)).getD 0))) (by unfold execOp; go_simp) ?_
    exact ⟨fun h => (by cases h), rd_step hI.rd (fun h => absurd h (Nat.lt_irrefl _)), hI.num, fun _ => ⟨X, hb, rfl⟩⟩
  ·intro vs X hI
   obtain ⟨v, hv⟩ := Option.isSome_iff_exists.1 (hI.num rfl)
   obtain ⟨X', hX', rfl⟩ := hI.st rfl
   have hw' := HT.out.below.trans (hX'.mono HT.out.below.size)
   have hend : TakeQ base H vp vn s ws w (.returned (.tuple #[])) (X'.setCell ⟨H, 0, none⟩ (.int .i64 ((numF (wd ws 1)).getD 0))) := by
    refine .inl ⟨_, by rw [HTk.out, hv]; rfl, rfl, vp, vn, ?_, ⟨fun k hk hne => keep_set hw' k (Nat.lt_of_lt_of_le hk HS.out.le) hne, (((NC.refl w).of_below hw').setCell _ _), (hw'.mono (Nat.zero_le _)).setCell (Nat.zero_le _) _⟩⟩
    rw [hv]
    exact (HS.out.sh.below hw').setIv v
   have HE := Lib.hid hend
   clear hend hI hX' hw' hv
   simp [fill, slotOf, Act.put]
   simp only [Exit.inBlock, Exit.then]
   generalize vs 0 = u0
   generalize vs 1 = u1
   generalize vs 2 = u2
   generalize vs 3 = u3
   generalize vs 4 = u4
   generalize vs 5 = u5
   generalize vs 6 = u6
   go_wp2
   go_end0
   exact HE.out
 ·have HTk := Lib.hid (show takeF s ws = none by unfold takeF; rw [if_pos hk, if_neg hl])
  have hne : ((ws.length : Int) == 2) = false := by simp; omega
  have hpos : 0 < ws.length := by have := h.one; omega
  have HE := Lib.hid (show TakeQ base H vp vn s ws w (.panicked chE) W2 from .inr ⟨HTk.out, rfl, HFin.out W2 (Below.refl _ _)⟩)
  clear hT h hk hl
  go_enter Tryz.func67, Tryz.ntmps67
  go_upto_region 1 with (fail)
  rw [← hW2]
  clear hW2
  go_wp2_with (first | (refine wpList_mkfn2 rfl _ _ rfl (cs := #[.pointer (some ⟨w.heap.size + 1, 0, none⟩), .pointer (some ⟨w.heap.size, 0, none⟩)]) rfl ?_; simp only [Act.put, List.setIfInBounds_toArray, List.set_cons_succ, List.set_cons_zero]) | (go_at_call 70; refine (must_false _).mono ?_; rintro e wm ⟨rfl, hw⟩; subst wm; exact ⟨rfl, HE.out⟩))
end Go.Proofs.YthnimhnlnddnoaaGreatDoor
namespace Go.Proofs.YthnimhnlnddnoaaGreatDoor
open Go.RowKit
section
variable {α : Type} {At : World → Addr → α → Prop} {sz : Nat} [E : Enc α At sz]
theorem append_own2 {P : Program} {base : Nat} {t ty e : TypeId} {bytes : Nat} (ht : P.underlying t = some (.slice e)) (hinfo : (P.info? e).map (fun i => (i.size, i.bytes, i.zero.map (·.cells.size))) = some (sz, bytes, some sz)) (hsz : 0 < sz) (hb1 : bytes ≤ 1000) (h1 : ∀ x, ∀ u ∈ E.enc x, u.oneCell' = true)
  {w : World} {v : Value} {xs : List α} (h : Own base e w v xs) (x : α) (hn : xs.length ≤ 100000) (hbase : base ≤ w.heap.size) {cs : Array Value} (hcs : cs = (E.enc x).toArray) :
  ∃ A c w', (Builtin.append_ #[t, t] ty #[v, .slice (some ⟨w.heap.size, 0, none⟩) 1 1]).run P (w.alloc (.cells cs e)) = .ok (.slice A (xs.length + 1) c) w' ∧ Own base e w' (.slice A (xs.length + 1) c) (xs ++ [x]) ∧
   (w.alloc (.cells cs e)).grownBy w' v.ownBlock := by
 subst hcs
 obtain ⟨i, hi, hi2⟩ := Option.map_eq_some_iff.1 hinfo
 simp only [Prod.mk.injEq] at hi2
 obtain ⟨hsize, hby, hz0⟩ := hi2
 obtain ⟨z, hz, hzs⟩ := Option.map_eq_some_iff.1 hz0
 have hown : Own base e (w.alloc (.cells (E.enc x).toArray e)) v xs := h.alloc _
 have hl := E.len x
 have hlen : (xs.length + 1) * bytes ≤ 100001 * 1000 := Nat.mul_le_mul (by omega) hb1
 obtain ⟨v', w', hrun, h2, h3, _, _⟩ := run_append_own_at (P := P) (w.alloc (.cells (E.enc x).toArray e)) base t ty e i z sz bytes ht hi hz hsize hby hzs hsz v xs.length (xs.flatMap E.enc) hown
  ⟨w.heap.size, 0, none⟩ 1 1 (E.enc x) (by rw [hl]; omega)
  (fun j u hu => by
   have hadd : (⟨w.heap.size, 0, none⟩ : Addr).add j = ⟨w.heap.size, j, none⟩ := by unfold Addr.add; split <;> simp_all
   rw [hadd]
   exact (cell_of_row _ _ j _ _ _ (heap_alloc_new w _)).trans (by simpa using hu))
  (h1 x) (by unfold maxLen; omega) (by omega) (by simp; omega)
 have h4 : Own base e w' v' (xs ++ [x]) := Own.of_append (n := xs.length + 1) (by simp) (by simpa using h2)
 obtain ⟨A, c, rfl, hc1, hc2⟩ := h4.form
 rw [List.length_append, List.length_singleton] at hrun h4
 exact ⟨A, c, w', hrun, h4, h3⟩
theorem Own.ownBlock {base : Nat} {e : TypeId} {w : World} {v : Value} {xs : List α} (h : Own base e w v xs) {b : Nat} (hb : v.ownBlock = some b) : base ≤ b ∧ b < w.heap.size ∧ ∃ c f, w.heap[b]? = some (.cells c e f) := by
 rcases h with ⟨_, ⟨rfl, _⟩ | ⟨g, cap, cur, rfl, hbb, hg, _⟩⟩
 ·cases hb
 ·simp only [Value.ownBlock, Option.some.injEq] at hb
  subst hb
  exact ⟨hbb, lt_of_block hg, _, _, hg⟩
theorem Own.beside {base : Nat} {e : TypeId} {w w' : World} {v : Value} {xs : List α} (h : Own base e w v xs) {row : Option Nat} (hg : w.grownBy w' row) (hne : v.ownBlock ≠ row ∨ row = none) : Own base e w' v xs := by
 rcases id h with ⟨hl, h0 | ⟨g, cap, cur, rfl, hbb, hh, r⟩⟩
 ·exact ⟨hl, .inl h0⟩
 ·refine ⟨hl, .inr ⟨g, cap, cur, rfl, hbb, (hg.block g (lt_of_block hh) ?_).trans hh, r⟩⟩
  rcases hne with h | h
  ·exact h
  ·rw [h]; exact fun h => by cases h
end
theorem append_str2 {base : Nat} {w : World} {v : Value} {xs : List ByteArray} (h : Own base 9 w v xs) (x : ByteArray) (hn : xs.length ≤ 100000) (hbase : base ≤ w.heap.size) :
  ∃ A c w', (Builtin.append_ #[35, 35] 35 #[v, .slice (some ⟨w.heap.size, 0, none⟩) 1 1]).run Tryz.prog (w.alloc (.cells #[.string x] 9)) = .ok (.slice A (xs.length + 1) c) w' ∧ Own base 9 w' (.slice A (xs.length + 1) c) (xs ++ [x]) ∧ (w.alloc (.cells #[.string x] 9)).grownBy w' v.ownBlock :=
 append_own2 (bytes := 16) (by kernel_rfl) (by kernel_rfl) (by omega) (by omega) (by simp [Enc.enc]; intros; rfl) h x hn hbase rfl
theorem append_note2 {base : Nat} {w : World} {v : Value} {xs : List NoteR} (h : Own base 86 w v xs) (x : NoteR) (hn : xs.length ≤ 100000) (hbase : base ≤ w.heap.size) :
  ∃ A c w', (Builtin.append_ #[36, 36] 36 #[v, .slice (some ⟨w.heap.size, 0, none⟩) 1 1]).run Tryz.prog (w.alloc (.cells #[.int .i64 x.kind, .int .i64 x.a, .int .i64 x.b, .int .i64 x.lo, .int .i64 x.hi] 86)) = .ok (.slice A (xs.length + 1) c) w' ∧ Own base 86 w' (.slice A (xs.length + 1) c) (xs ++ [x]) ∧
   (w.alloc (.cells #[.int .i64 x.kind, .int .i64 x.a, .int .i64 x.b, .int .i64 x.lo, .int .i64 x.hi] 86)).grownBy w' v.ownBlock :=
 append_own2 (bytes := 40) (by kernel_rfl) (by kernel_rfl) (by omega) (by omega) (by simp [Enc.enc]; intros; refine ⟨?_, ?_, ?_, ?_, ?_⟩ <;> rfl) h x hn hbase rfl
theorem run_bs1 (x : ByteArray) (w : World) : (Instr.buildSlice 35 1 #[(0, .string x)]).run Tryz.prog w = .ok (.slice (some ⟨w.heap.size, 0, none⟩) 1 1) (w.alloc (.cells #[.string x] 9)) := by kernel_rfl
theorem run_bsn (a b c d e : Int) (w : World) : (Instr.buildSlice 36 1 #[(0, .agg #[.int .i64 a, .int .i64 b, .int .i64 c, .int .i64 d, .int .i64 e])]).run Tryz.prog w = .ok (.slice (some ⟨w.heap.size, 0, none⟩) 1 1) (w.alloc (.cells #[.int .i64 a, .int .i64 b, .int .i64 c, .int .i64 d, .int .i64 e] 86)) := by kernel_rfl
theorem pts_more {base H : Nat} {W w1 w' : World} {vp vn : Value} {s : ShR} (hs : SheetAt base W H vp vn s) (hle : base ≤ W.heap.size) (hHb : H < base) {x : ByteArray} (h1 : w1 = W.drew.alloc (.cells #[.string x] 9)) (hg : w1.grownBy w' vp.ownBlock) :
  (∀ k, k < W.heap.size → vp.ownBlock ≠ some k → w'.heap[k]? = W.heap[k]?) ∧ Below base W w' ∧ NC W w' ∧ W.heap.size ≤ w'.heap.size ∧ Own base 86 w' vn s.notes := by
 subst h1
 have hb : Below W.heap.size W (W.drew.alloc (.cells #[.string x] 9)) := (Below.refl _ _).drew.alloc (Nat.le_refl _) _
 have hk : ∀ k, k < W.heap.size → vp.ownBlock ≠ some k → w'.heap[k]? = W.heap[k]? := fun k hk hne => (hg.block k (Nat.lt_of_lt_of_le hk hb.size) (fun e => hne e.symm)).trans (hb.block k hk)
 refine ⟨hk, ?_, ?_, Nat.le_trans hb.size hg.size, ?_⟩
 ·refine (hb.mono hle).trans ?_
  have := ((hs.pts.below hb).grown hg).resolve_right (by have := hb.size; omega)
  exact this
 ·refine ((NC.refl W).of_below hb).grown hg fun r hr => ?_
  obtain ⟨_, _, c, f, hh⟩ := (hs.pts.below hb).ownBlock hr
  exact ⟨c, 9, f, hh⟩
 ·refine (hs.nts.below hb).beside hg ?_
  cases hr : vp.ownBlock with
  | none => exact .inr rfl
  | some r =>
   refine .inl fun e => ?_
   obtain ⟨_, _, c, f, hh⟩ := (hs.pts.below hb).ownBlock hr
   obtain ⟨_, _, c', f', hh'⟩ := (hs.nts.below hb).ownBlock e
   rw [hh] at hh'
   cases hh'
theorem nts_more {base H : Nat} {W w1 w' : World} {vp vn : Value} {s : ShR} (hs : SheetAt base W H vp vn s) (hle : base ≤ W.heap.size) (hHb : H < base) {cs : Array Value} (h1 : w1 = W.drew.alloc (.cells cs 86)) (hg : w1.grownBy w' vn.ownBlock) :
  (∀ k, k < W.heap.size → vn.ownBlock ≠ some k → w'.heap[k]? = W.heap[k]?) ∧ Below base W w' ∧ NC W w' ∧ W.heap.size ≤ w'.heap.size ∧ Own base 9 w' vp s.pts := by
 subst h1
 have hb : Below W.heap.size W (W.drew.alloc (.cells cs 86)) := (Below.refl _ _).drew.alloc (Nat.le_refl _) _
 have hk : ∀ k, k < W.heap.size → vn.ownBlock ≠ some k → w'.heap[k]? = W.heap[k]? := fun k hk hne => (hg.block k (Nat.lt_of_lt_of_le hk hb.size) (fun e => hne e.symm)).trans (hb.block k hk)
 refine ⟨hk, ?_, ?_, Nat.le_trans hb.size hg.size, ?_⟩
 ·refine (hb.mono hle).trans ?_
  exact ((hs.nts.below hb).grown hg).resolve_right (by have := hb.size; omega)
 ·refine ((NC.refl W).of_below hb).grown hg fun r hr => ?_
  obtain ⟨_, _, c, f, hh⟩ := (hs.nts.below hb).ownBlock hr
  exact ⟨c, 86, f, hh⟩
 ·refine (hs.pts.below hb).beside hg ?_
  cases hr : vn.ownBlock with
  | none => exact .inr rfl
  | some r =>
   refine .inl fun e => ?_
   obtain ⟨_, _, c, f, hh⟩ := (hs.nts.below hb).ownBlock hr
   obtain ⟨_, _, c', f', hh'⟩ := (hs.pts.below hb).ownBlock e
   rw [hh] at hh'
   cases hh'
end Go.Proofs.YthnimhnlnddnoaaGreatDoor
namespace Go.Proofs.YthnimhnlnddnoaaGreatDoor
open Go.RowKit
theorem take_point_any {w : World} {base H gw cw : Nat} {vp vn : Value} {s : ShR} {ws : List ByteArray} (h : TakeIn base H gw cw vp vn s ws w) (hk : wd ws 0 = wPoint) :
  Calls Tryz.prog 67 #[.pointer (some ⟨H, 0, none⟩), .slice (some ⟨gw, 0, none⟩) ws.length cw] w fun e w' => TakeQ base H vp vn s ws w e w' := by
 have hn1 : ¬ wd ws 0 = wSheet := by rw [hk]; decide
 obtain ⟨W2, hW2, hT⟩ := takeW_made w H gw cw ws.length
 have x0 := wd_at h.wd (i := 0) (by have := h.one; omega)
 rw [hk] at x0
 have x0 := (hT.below.cell (cell_lt x0)).trans x0
 have p0 := cellOf hT.b0 0 rfl
 have p1 := cellOf hT.b1 0 rfl
 have HT := Lib.hid hT
 have HS := Lib.hid h
 have HFin := Lib.hid (fin_of h hT)
 unfold wPoint at x0
 by_cases hl : ws.length = 2
 ·have x1 := wd_at h.wd (i := 1) (by omega)
  have x1 := (hT.below.cell (cell_lt x1)).trans x1
  have HTk := Lib.hid (show takeF s ws = some (addP s (wd ws 1)) by unfold takeF; rw [if_neg hn1, if_pos hk, if_pos hl])
  have hs2 := h.sh.below hT.below
  have hle2 : base ≤ W2.heap.size := Nat.le_trans h.le hT.below.size
  obtain ⟨A, c, w', hrun, ho', hg'⟩ := append_str2 (w := W2.drew) (hs2.pts.qt ⟨1, rfl⟩) (wd ws 1) (by have := h.few; omega) hle2
  obtain ⟨w0, hw0⟩ : ∃ w0, W2.drew = w0 := ⟨_, rfl⟩
  obtain ⟨w1, hw1⟩ : ∃ w1, w0.alloc (.cells #[.string (wd ws 1)] 9) = w1 := ⟨_, rfl⟩
  rw [hw0, hw1] at hrun
  rw [hw0, hw1] at hg'
  obtain ⟨m1, m2, m3, m4, m5⟩ := pts_more hs2 hle2 h.hb (x := wd ws 1) (w1 := w1) (by rw [← hw1, ← hw0]) hg'
  have bw0 : Below W2.heap.size W2 w0 := by rw [← hw0]; exact (Below.refl _ _).drew
  have bw1 : Below W2.heap.size W2 w1 := by rw [← hw1, ← hw0]; exact (Below.refl _ _).drew.alloc (Nat.le_refl _) _
  have key : ∀ (a : Addr) (v : Value), W2.cell? a = some v → vp.ownBlock ≠ some a.block → ∀ x : Tr w0 w1 w', x.1.cell? a = some v := fun a v hv hne =>
   Tr.cell ((bw0.cell (cell_lt hv)).trans hv) ((bw1.cell (cell_lt hv)).trans hv) ((World.cell?_of_block (m1 _ (cell_lt hv) hne)).trans hv)
  have nb : ∀ b, W2.heap.size ≤ b + 2 → vp.ownBlock ≠ some b := fun b hb e => by
   obtain ⟨_, h2, _⟩ := h.sh.pts.ownBlock e
   have := hT.size
   omega
  have C0 := key _ _ (cellOf hT.b0 0 (v := .pointer (some ⟨H, 0, none⟩)) rfl) (nb _ (by rw [hT.size]; exact Nat.le_refl _))
  have C1 := key _ _ (cellOf hT.b1 0 (v := .slice (some ⟨gw, 0, none⟩) ws.length cw) rfl) (nb _ (by rw [hT.size]; show w.heap.size + 2 ≤ w.heap.size + 1 + 2; omega))
  have nH : vp.ownBlock ≠ some H := fun e => by
   have := (h.sh.pts.ownBlock e).1
   have := h.hb
   omega
  have C2 := key _ _ (cellOf hs2.row 1 (v := vp) rfl) nH
  have C3 := key _ _ x1 h.gw
  have rH := (m1 H (lt_of_block hs2.row) nH).trans hs2.row
  have C4 := cellOf rH 1 (v := vp) rfl
  have f4 : w'.frozen? ⟨H, 1, none⟩ = false := by simp [World.frozen?, rH]
  have hcd : W2.heap.size = w0.heap.size := by rw [← hw0]; rfl
  have hbs := run_bs1 (wd ws 1) w0
  rw [hw1] at hbs
  have hend : TakeQ base H vp vn s ws w (.returned (.tuple #[])) (w'.setCell ⟨H, 1, none⟩ (.slice A (s.pts.length + 1) c)) := by
   refine .inl ⟨_, HTk.out, rfl, .slice A (s.pts.length + 1) c, vn, ⟨?_, ?_, ?_⟩, ⟨fun k hk hne => ?_, ?_, ?_⟩⟩
   ·exact (row3 rH 1 _).trans (by simp [addP])
   ·exact ho'.setOther rH (by decide) 1 _
   ·exact m5.setOther rH (by decide) 1 _
   ·refine (Below.heap_setCell _ _ _ _ hne).trans ((m1 k (by have := hT.below.size; have := h.le; omega) fun e => ?_).trans (hT.below.block k (Nat.lt_of_lt_of_le hk h.le)))
    have := (h.sh.pts.ownBlock e).1
    omega
   ·exact ((((NC.refl w).of_below hT.below).trans m3).setCell _ _)
   ·exact ((hT.below.mono (Nat.zero_le _)).trans (m2.mono (Nat.zero_le _))).setCell (Nat.zero_le _) _
  have HE := Lib.hid hend
  have HR := Lib.hid hrun
  have HBs := Lib.hid hbs
  rw [hl] at hW2 p1 C1 ⊢
  generalize wd ws 1 = x at *
  clear hT h hk x1 hn1 hs2 hrun ho' hg' m1 m2 m3 m4 m5 bw0 bw1 key nb nH hw1 hend hbs HTk hcd hle2
  go_enter Tryz.func67, Tryz.ntmps67
  go_upto_region 1 with (fail)
  rw [← hW2]
  clear hW2
  go_upto_region 9 with (first | (refine wpList_mkfn2 rfl _ _ rfl (cs := #[.pointer (some ⟨w.heap.size + 1, 0, none⟩), .pointer (some ⟨w.heap.size, 0, none⟩)]) rfl ?_; simp only [Act.put, List.setIfInBounds_toArray, List.set_cons_succ, List.set_cons_zero]) | (go_at_call 70; refine (must_true _).mono ?_; rintro e wm ⟨rfl, hw⟩; subst wm; dsimp only))
  refine region_make2 (w1 := w1) (w2 := w') 8 hw0 (by kernel_rfl) (by kernel_rfl) (by kernel_rfl) (by kernel_rfl) ?_
  simp only [List.take_succ_cons, List.take_zero, List.drop_succ_cons, List.drop_zero]
  repeat (first | go_big_quiet_step (fail) | quiet_step (fail))
  refine wpQuiet_nil ?_
  refine mk_bs _ rfl rfl 35 1 _ rfl (vs := #[(0, .string x)]) rfl HBs.out ?_
  simp only [Act.put, List.setIfInBounds_toArray, List.set_cons_succ, List.set_cons_zero]
  refine mk_append _ rfl rfl _ _ 35 rfl rfl rfl HR.out ?_
  simp only [Act.put, List.setIfInBounds_toArray, List.set_cons_succ, List.set_cons_zero]
  clear C0 C1 C2 C3 x0 p0 p1
  go_wp2
  go_end0
  exact HE.out
 ·have HTk := Lib.hid (show takeF s ws = none by unfold takeF; rw [if_neg hn1, if_pos hk, if_neg hl])
  have hne : ((ws.length : Int) == 2) = false := by simp; omega
  have hpos : 0 < ws.length := by have := h.one; omega
  have HE := Lib.hid (show TakeQ base H vp vn s ws w (.panicked chE) W2 from .inr ⟨HTk.out, rfl, HFin.out W2 (Below.refl _ _)⟩)
  clear hT h hk hl hn1
  go_enter Tryz.func67, Tryz.ntmps67
  go_upto_region 1 with (fail)
  rw [← hW2]
  clear hW2
  go_wp2_with (first | (refine wpList_mkfn2 rfl _ _ rfl (cs := #[.pointer (some ⟨w.heap.size + 1, 0, none⟩), .pointer (some ⟨w.heap.size, 0, none⟩)]) rfl ?_; simp only [Act.put, List.setIfInBounds_toArray, List.set_cons_succ, List.set_cons_zero]) | (go_at_call 70; refine (must_false _).mono ?_; rintro e wm ⟨rfl, hw⟩; subst wm; exact ⟨rfl, HE.out⟩))
end Go.Proofs.YthnimhnlnddnoaaGreatDoor
