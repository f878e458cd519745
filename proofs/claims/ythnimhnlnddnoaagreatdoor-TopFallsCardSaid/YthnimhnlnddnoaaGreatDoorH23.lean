/- Parts of the proof of TpP: Txt4, Rd1, Rdf, Rd2, QMake, QMake2. -/
import Derived.Test.YthnimhnlnddnoaaGreatDoorH22
import Derived.Test.YthnimhnlnddnoaaGreatDoorH15
import Derived.WalkKit
import Derived.Deep.Quiet
import Derived.Test.YthnimhnlnddnoaaGreatDoorH7
set_option linter.unusedSimpArgs false
set_option linter.unusedVariables false
set_option maxRecDepth 100000
set_option maxHeartbeats 8000000
namespace Go.Proofs.YthnimhnlnddnoaaGreatDoor
open Go.RowKit
def writeF (s : ShR) : List UInt8 := if errOf s = 0 then textB s else []
theorem write_any {B : Nat} {w : World} {v : Value} {s : ShR} (hs : RdSh B w v s) (hn : Named s) (hB : B ≤ w.heap.size) (hgl : Glob w) :
  Calls Tryz.prog 29 #[v] w fun e w' => e = .returned (.tuple #[.string ⟨(writeF s).toArray⟩, .int .i64 (errOf s)]) ∧ Below w.heap.size w w' := by
 obtain ⟨vp, vn, rfl, hp, ho⟩ := id hs
 obtain ⟨W1, hW1, r1, z1, d1⟩ := box_any w #[.int .i64 s.iv, vp, vn] 38
 have HS := Lib.hid hs
 have HB1 := Lib.hid d1
 have HC := Lib.hid (pcheck_any (w := W1) (hs.below (d1.mono hB)) hn (Nat.le_trans hB d1.size))
 have HGl := Lib.hid hgl
 have q0 := cellOf r1 0 rfl
 have q1 := cellOf r1 1 rfl
 have q2 := cellOf r1 2 rfl
 unfold checkV at HC
 have heo : errOf s = (check s).2.2 := rfl
 rw [← heo] at HC
 generalize (check s).1 = e1 at *
 generalize (check s).2.1 = e2 at *
 clear heo hs hp ho r1 z1 d1
 by_cases he : errOf s = 0
 ·have hne : (errOf s != 0) = false := by simp [he]
  have HR := Lib.hid (show writeF s = textB s by simp [writeF, he])
  have HT := Lib.hid (fun (X : World) (hb : Below W1.heap.size W1 X) => text_any (w := X) (HS.out.below ((HB1.out.trans (hb.mono HB1.out.size)).mono hB)) (good_of_valid he) (Nat.le_trans hB (Nat.le_trans HB1.out.size hb.size)) (HGl.out.below (HB1.out.trans (hb.mono HB1.out.size))))
  have HE := Lib.hid he
  clear he
  go_enter Tryz.func29, Tryz.ntmps29
  go_upto_region 1 with (fail)
  rw [← hW1]
  clear hW1
  go_wp2_with (first | (go_at_call 58; refine HC.out.mono ?_; rintro e w3 ⟨rfl, hb3⟩; have q0 := (hb3.cell (cell_lt q0)).trans q0; have q1 := (hb3.cell (cell_lt q1)).trans q1; have q2 := (hb3.cell (cell_lt q2)).trans q2) | (go_at_call 64; refine (HT.out _ hb3).mono ?_; rintro e w4 ⟨rfl, hb4⟩))
  go_ret2
  exact ⟨by rw [HR.out, HE.out]; rfl, HB1.out.trans ((hb3.trans (hb4.mono hb3.size)).mono HB1.out.size)⟩
 ·have hne : (errOf s != 0) = true := by simp [he]
  have HR := Lib.hid (show writeF s = [] by simp [writeF, he])
  clear he
  go_enter Tryz.func29, Tryz.ntmps29
  go_upto_region 1 with (fail)
  rw [← hW1]
  clear hW1
  go_wp2_with (go_at_call 58; refine HC.out.mono ?_; rintro e w3 ⟨rfl, hb3⟩)
  go_ret2
  exact ⟨by rw [HR.out]; rfl, HB1.out.trans (hb3.mono HB1.out.size)⟩
end Go.Proofs.YthnimhnlnddnoaaGreatDoor
namespace Go.Proofs.YthnimhnlnddnoaaGreatDoor
open Go.RowKit
theorem must_true (w : World) : Calls Tryz.prog 70 #[.bool true] w fun e w' => e = .returned (.tuple #[]) ∧ w' = w := by
 go_enter Tryz.func70, Tryz.ntmps70
 go_wp2
 go_end0
 exact ⟨rfl, rfl⟩
theorem must_false (w : World) : Calls Tryz.prog 70 #[.bool false] w fun e w' => e = .panicked [{ v := .iface 26 (.int .i64 6), recovered := false }] ∧ w' = w := by
 go_enter Tryz.func70, Tryz.ntmps70
 go_wp2
 exact ⟨rfl, rfl, rfl⟩
theorem atoi_ok (s : ByteArray) (hs : s.size ≤ 100000) {v : Int} (h : Lib.atoiAll s.data.toList = .ok v) (w : World) :
  Calls Tryz.prog 126 #[.string s] w fun e w' => e = .returned (.tuple #[.int .i64 v, .nilIface]) ∧ Below w.heap.size w w' := by
 refine (Tryz.strconv_Atoi_ok s (by omega) v h w).mono ?_
 rintro e w1 ⟨rfl, hw1⟩
 refine ⟨rfl, ?_⟩
 rcases hw1 with rfl | ⟨t, rfl⟩
 ·exact Below.refl _ _
 ·exact ⟨rfl, rfl, rfl, by rw [Lib.bytesWorld_size]; omega, fun j hj => Lib.bytesWorld_at_old w 5 t j hj⟩
theorem number_ok (s : ByteArray) (hs : s.size ≤ 100000) {v : Int} (h : Lib.atoiAll s.data.toList = .ok v) (w : World) :
  Calls Tryz.prog 109 #[.string s] w fun e w' => e = .returned (.int .i64 v) ∧ Below w.heap.size w w' := by
 have HA := Lib.hid (atoi_ok s hs h w)
 clear h
 go_enter Tryz.func109, Tryz.ntmps109
 go_wp2_with (first | (go_at_call 126; refine HA.out.mono ?_; rintro e w1 ⟨rfl, hb1⟩) | (go_at_call 70; refine (must_true _).mono ?_; rintro e w2 ⟨rfl, rfl⟩))
 go_ret
 exact ⟨rfl, hb1⟩
theorem add_none (g o j : Nat) : (⟨g, o, none⟩ : Addr).add j = ⟨g, o + j, none⟩ := by
 unfold Addr.add
 split
 ·rename_i h; subst h; rfl
 ·rfl
theorem index_ok {B : Nat} {w : World} {g n c : Nat} {xs : List ByteArray} (hp : Rd StrAt 1 B w (.slice (some ⟨g, 0, none⟩) n c) xs) (x : ByteArray) :
  Calls Tryz.prog 108 #[.slice (some ⟨g, 0, none⟩) n c, .string x] w fun e w' => e = .returned (.int .i64 (Lib.idxOfS xs x)) ∧ w' = w := by
 have hlen := hp.len
 obtain ⟨A, c', e, h1, h2, h3⟩ := id hp
 injection e with e1 e2 e3
 subst e2
 have := Tryz.slices_Index_string g 0 xs.length c xs x w (Nat.le_refl _) hlen (fun j hj => by
  obtain ⟨ad, e, _, hc⟩ := hp.str hj
  injection e with e
  subst e
  rw [List.getD_eq_getElem?_getD]
  rw [add_none] at hc
  exact hc)
 rwa [List.take_length] at this
end Go.Proofs.YthnimhnlnddnoaaGreatDoor
namespace Go.Proofs.YthnimhnlnddnoaaGreatDoor
def wd (ws : List ByteArray) (i : Nat) : ByteArray := ws[i]?.getD ByteArray.empty
def numF (x : ByteArray) : Option Int := match Lib.atoiAll x.data.toList with | .ok v => some v | _ => none
def pointF (pts ws : List ByteArray) (i : Nat) : Option Int := if i < ws.length ∧ 0 ≤ Lib.idxOfS pts (wd ws i) then some (Lib.idxOfS pts (wd ws i)) else none
def addN (s : ShR) (x : NoteR) : ShR := { s with notes := s.notes ++ [x] }
def addP (s : ShR) (p : ByteArray) : ShR := { s with pts := s.pts ++ [p] }
def takeF (s : ShR) (ws : List ByteArray) : Option ShR :=
 if wd ws 0 = wSheet then (if ws.length = 2 then (numF (wd ws 1)).map fun v => { s with iv := v } else none)
 else if wd ws 0 = wPoint then (if ws.length = 2 then some (addP s (wd ws 1)) else none)
 else if wd ws 0 = wLake then (if ws.length = 3 then (pointF s.pts ws 1).bind fun a => (pointF s.pts ws 2).map fun b => addN s ⟨3, a, b, 0, 0⟩ else none)
 else if wd ws 0 = wSpot ∨ wd ws 0 = wContour then
  (if ws.length = 4 then (pointF s.pts ws 1).bind fun a => (numF (wd ws 2)).bind fun lo => (numF (wd ws 3)).map fun hi => addN s ⟨if wd ws 0 = wContour then 2 else 1, a, 0, lo, hi⟩ else none)
 else if wd ws 0 = wSlope then
  (if ws.length = 5 then (pointF s.pts ws 1).bind fun a => (pointF s.pts ws 2).bind fun b => (numF (wd ws 3)).bind fun lo => (numF (wd ws 4)).map fun hi => addN s ⟨4, a, b, lo, hi⟩ else none)
 else none
def takesF (s : ShR) : List (List ByteArray) → Option ShR
 | [] => some s
 | ws :: r => (takeF s ws).bind fun t => takesF t r
def zeroS : ShR := ⟨0, [], []⟩
theorem takeF_len {s t : ShR} {ws : List ByteArray} (h : takeF s ws = some t) : t.pts.length + t.notes.length ≤ s.pts.length + s.notes.length + 1 := by
 unfold takeF at h
 split at h
 ·split at h
  ·simp only [Option.map_eq_some_iff] at h
   obtain ⟨v, _, rfl⟩ := h
   simp
  ·cases h
 ·split at h
  ·split at h
   ·simp only [Option.some.injEq] at h
    subst h
    simp [addP]; omega
   ·cases h
  ·split at h
   ·split at h
    ·simp only [Option.bind_eq_some_iff, Option.map_eq_some_iff] at h
     obtain ⟨_, _, _, _, rfl⟩ := h
     simp [addN]; omega
    ·cases h
   ·split at h
    ·split at h
     ·simp only [Option.bind_eq_some_iff, Option.map_eq_some_iff] at h
      obtain ⟨_, _, _, _, _, _, rfl⟩ := h
      simp [addN]; omega
     ·cases h
    ·split at h
     ·split at h
      ·simp only [Option.bind_eq_some_iff, Option.map_eq_some_iff] at h
       obtain ⟨_, _, _, _, _, _, _, _, rfl⟩ := h
       simp [addN]; omega
      ·cases h
     ·cases h
end Go.Proofs.YthnimhnlnddnoaaGreatDoor
namespace Go.Proofs.YthnimhnlnddnoaaGreatDoor
open Go.RowKit
structure SheetAt (base : Nat) (w : World) (H : Nat) (vp vn : Value) (s : ShR) : Prop where
 row : w.heap[H]? = some (.cells #[.int .i64 s.iv, vp, vn] 38)
 pts : Own base 9 w vp s.pts
 nts : Own base 86 w vn s.notes
theorem wpList_mkfn2 {P : Program} {ops : Array Oper} {rest : List Oper} {o : Oper} {a : Act} {w : World} {Q : Exit → Act → World → Prop} (hgd : o.guard = none) (f : FuncId) (xs : Array Operand) (ho : o.op = .makeFunc (.func f) #[] xs)
  {cs : Array Value} (hv : xs.toList.map a.eval = cs.toList) (h : wpList P ops Q rest (a.put o.dst (.func (.func f) #[] cs)) w) : wpList P ops Q (o :: rest) a w := by
 refine wpList_plain hgd fun K hK => ?_
 unfold Oper.wp execOp
 rw [ho]
 have e : xs.map a.eval = cs := by
  rw [← Array.toList_inj, Array.toList_map]
  exact hv
 have e0 : (#[] : Array Operand).map a.eval = #[] := by simp
 simp only [Sem.run_bind, Sem.run_pure, e, e0, run_mkfn, Result.andThen_ok]
 exact hK _ _ h
structure TakeW (w W : World) (H gw cw n : Nat) : Prop where
 b0 : W.heap[w.heap.size]? = some (.cells #[.pointer (some ⟨H, 0, none⟩)] 118)
 b1 : W.heap[w.heap.size + 1]? = some (.cells #[.slice (some ⟨gw, 0, none⟩) n cw] 35)
 below : Below w.heap.size w W
 size : W.heap.size = w.heap.size + 2
theorem takeW_made (w : World) (H gw cw n : Nat) : ∃ W, W = (w.alloc (.cells #[.pointer (some ⟨H, 0, none⟩)] 118)).alloc (.cells #[.slice (some ⟨gw, 0, none⟩) n cw] 35) ∧ TakeW w W H gw cw n := by
 refine ⟨_, rfl, ?_, ?_, ?_, by simp⟩
 ·rw [Below.heap_alloc _ _ _ (by simp)]
  exact heap_alloc_new w _
 ·have := heap_alloc_new (w.alloc (.cells #[.pointer (some ⟨H, 0, none⟩)] 118)) (.cells #[.slice (some ⟨gw, 0, none⟩) n cw] 35)
  rw [World.size_alloc] at this
  exact this
 ·exact ((Below.refl _ _).alloc (Nat.le_refl _) _).alloc (by simp) _
theorem wordAt {B : Nat} {w : World} {gw n cw : Nat} {ws : List ByteArray} (hw : Rd StrAt 1 B w (.slice (some ⟨gw, 0, none⟩) n cw) ws) {i : Nat} (hi : i < ws.length) : w.cell? ⟨gw, i, none⟩ = some (.string (ws[i]?.getD ByteArray.empty)) := by
 obtain ⟨ad, e, _, hc⟩ := hw.str hi
 injection e with e
 subst e
 rw [add_none, Nat.zero_add] at hc
 exact hc
theorem Own.setOther {α : Type} {At : World → Addr → α → Prop} {sz : Nat} [E : Enc α At sz] {base : Nat} {e : TypeId} {w : World} {v : Value} {xs : List α} (h : Own base e w v xs) {H : Nat} {cs : Array Value} {T : TypeId} (hr : w.heap[H]? = some (.cells cs T)) (hT : T ≠ e) (i : Nat) (u : Value) : Own base e (w.setCell ⟨H, i, none⟩ u) v xs := by
 rcases h with ⟨hl, h0 | ⟨g, cap, cur, rfl, hbb, hh, r⟩⟩
 ·exact ⟨hl, .inl h0⟩
 ·refine ⟨hl, .inr ⟨g, cap, cur, rfl, hbb, (Below.heap_setCell _ _ _ _ ?_).trans hh, r⟩⟩
  rintro rfl
  rw [hr] at hh
  injection hh with hh
  injection hh with _ hh _
  exact hT hh
theorem row3 {w : World} {g : Nat} {cs : Array Value} {T : TypeId} (h : w.heap[g]? = some (.cells cs T)) (i : Nat) (x : Value) : (w.setCell ⟨g, i, none⟩ x).heap[g]? = some (.cells (cs.setIfInBounds i x) T) := by
 simp [World.setCell, Array.getElem?_modify, h]
theorem SheetAt.below {base H : Nat} {w w' : World} {vp vn : Value} {s : ShR} (h : SheetAt base w H vp vn s) (hb : Below w.heap.size w w') : SheetAt base w' H vp vn s :=
 ⟨(hb.block _ (lt_of_block h.row)).trans h.row, h.pts.below hb, h.nts.below hb⟩
theorem SheetAt.setIv {base H : Nat} {w : World} {vp vn : Value} {s : ShR} (h : SheetAt base w H vp vn s) (v : Int) : SheetAt base (w.setCell ⟨H, 0, none⟩ (.int .i64 v)) H vp vn { s with iv := v } :=
 ⟨(row3 h.row 0 _).trans (by simp), h.pts.setOther h.row (by decide) 0 _, h.nts.setOther h.row (by decide) 0 _⟩
theorem keep_set {w wx : World} {H i : Nat} {u : Value} (hb : Below w.heap.size w wx) : ∀ k, k < w.heap.size → ¬k = H → (wx.setCell ⟨H, i, none⟩ u).heap[k]? = w.heap[k]? :=
 fun k hk hne => (Below.heap_setCell _ _ _ _ hne).trans (hb.block k hk)
end Go.Proofs.YthnimhnlnddnoaaGreatDoor
namespace Go.Proofs.YthnimhnlnddnoaaGreatDoor
open Go.RowKit
section
variable {P : Program} {ops : Array Oper} {md : Region.Mode} {C : World → Prop}
def isRead : Op → Bool
 | .move _ | .load .. | .nilCheck _ | .fieldAddr .. | .indexAddr .. | .build .. | .extract .. | .binOp .. => true
 | _ => false
theorem andThen_inv {α β : Type} {r : Result α} {k : α → World → Result β} {b : β} {w : World} (h : r.andThen k = .ok b w) : ∃ a w1, r = .ok a w1 ∧ k a w1 = .ok b w := by
 cases r with
 | ok a w1 => exact ⟨a, w1, rfl, h⟩
 | halt x w1 => simp [Result.andThen] at h
theorem value_only {s : Sem Value} {w w' : World} {r : Next} (h : Sem.run P (do let x ← s; pure (Next.value x)) w = .ok r w') : ∃ v, r = .value v := by
 rw [Sem.run_bind] at h
 cases hs : Sem.run P s w with
 | ok x w1 => rw [hs] at h; simp only [Result.andThen_ok, Sem.run_pure] at h; injection h with h _; exact ⟨_, h.symm⟩
 | halt x w1 => rw [hs] at h; simp [Result.andThen] at h
theorem read_value {o : Oper} {ρ : Operand → Value} {w w' : World} {r : Next} (ho : isRead o.op = true) (h : Sem.run P (execOp ρ o) w = .ok r w') : ∃ v, r = .value v := by
 unfold execOp at h
 cases e : o.op <;> rw [e] at ho h <;> first | (simp [isRead] at ho; done) | exact value_only h | skip
 ·simp only [Sem.run_pure] at h
  injection h with h _
  exact ⟨_, h.symm⟩
 ·simp only at h
  split at h
  ·simp [runtimePanic] at h
  ·simp [runtimePanic] at h
  ·simp [runtimePanic] at h
  ·split at h
   ·simp [runtimePanic] at h
   ·simp only [Sem.run_bind] at h
    obtain ⟨_, _, _, h⟩ := andThen_inv h
    obtain ⟨_, _, _, h⟩ := andThen_inv h
    split at h
    ·simp only [Sem.run_bind] at h
     obtain ⟨_, _, _, h⟩ := andThen_inv h
     simp only [Sem.run_pure] at h
     injection h with h _
     exact ⟨_, h.symm⟩
    ·simp only [Sem.run_pure] at h
     injection h with h _
     exact ⟨_, h.symm⟩
   ·simp only [Sem.run_pure] at h
    injection h with h _
    exact ⟨_, h.symm⟩
  ·simp only [Sem.run_pure] at h
   injection h with h _
   exact ⟨_, h.symm⟩
theorem YieldsIn.only {o : Oper} {v : Value} {a : Act} (hr : isRead o.op = true) (hy : YieldsIn P ops C o v a) {D : World → Prop} (hD : ∀ w, D w → C w) : YieldsIn P ops D o v a := by
 rcases hy with ⟨hw, h⟩ | h
 ·refine .inl ⟨hw, fun w hw' => ?_⟩
  have h1 := h w (hD w hw')
  unfold Oper.quietAt at *
  cases he : Sem.run P (execOp a.eval o) w with
  | halt x w1 => rw [he] at h1; simp [Oper.quietUpon] at h1
  | ok r w1 =>
   obtain ⟨u, rfl⟩ := read_value hr he
   rw [he] at h1
   exact h1
 ·exact .inr h
theorem qOp_put2 {C D : World → Prop} {j : Nat} {oi oj : Oper} {v : Value} (hj : ops[j]? = some oj) (hap : oi.apart ops oj = true)
  (hsi : ∀ cs b, oi.op ≠ .select cs b) (hsj : ∀ cs b, oj.op ≠ .select cs b) {K : Act → Prop} {a : Act}
  (hy : YieldsIn P ops C oi v a) (h : qOp P ops D j K (a.put oi.dst v)) :
  qOp P ops D j (fun a' => YieldsIn P ops C oi v a' ∧ K (a'.put oi.dst v)) a := by
 obtain ⟨h1, h2, h3⟩ := Oper.apart_spec hap
 have keep : ∀ (a : Act), YieldsIn P ops C oi v a → ∀ u, YieldsIn P ops C oi v (a.put oj.dst u) := fun a hy u =>
  hy.of_same (execOp_put oi hsi a oj.dst u h3) (wanted_put oi a oj.dst u h3)
 unfold qOp at *
 simp only [hj] at *
 rw [wanted_put oj a oi.dst v h1] at h
 split
 ·rename_i hw
  simp only [hw, if_true] at h
  obtain ⟨u, hu, hn⟩ := h
  refine ⟨u, fun w hw' => ?_, keep a hy u, by rw [← Act.put_comm a v u h2]; exact hn⟩
  have := hu w hw'
  unfold Oper.quietAt at *
  rwa [execOp_put oj hsj a oi.dst v h1] at this
 ·rename_i hw
  simp only [hw] at h
  exact ⟨keep a hy _, by rw [← Act.put_comm a v undef h2]; exact h⟩
def MkOp (P : Program) (ops : Array Oper) (w0 w1 : World) (m : Nat) (K : Act → Prop) (a : Act) : Prop :=
 ∃ om v, ops[m]? = some om ∧ Region.wanted om (yielded ops a.tmps) = true ∧ Sem.run P (execOp a.eval om) w0 = .ok (.value v) w1 ∧ K (a.put om.dst v)
theorem MkOp.mono {w0 w1 : World} {m : Nat} {K K' : Act → Prop} {a : Act} (h : ∀ a, K a → K' a) (hh : MkOp P ops w0 w1 m K a) : MkOp P ops w0 w1 m K' a := by
 obtain ⟨om, v, h1, h2, h3, h4⟩ := hh
 exact ⟨om, v, h1, h2, h3, h _ h4⟩
theorem MkOp.put {C : World → Prop} {w0 w1 : World} {m : Nat} {oi om : Oper} {v : Value} (hm : ops[m]? = some om) (hap : oi.apart ops om = true)
  (hsi : ∀ cs b, oi.op ≠ .select cs b) (hsm : ∀ cs b, om.op ≠ .select cs b) {K : Act → Prop} {a : Act}
  (hy : YieldsIn P ops C oi v a) (h : MkOp P ops w0 w1 m K (a.put oi.dst v)) : MkOp P ops w0 w1 m (fun a' => YieldsIn P ops C oi v a' ∧ K (a'.put oi.dst v)) a := by
 obtain ⟨h1, h2, h3⟩ := Oper.apart_spec hap
 obtain ⟨o', u, e, hw, hr, hn⟩ := h
 obtain rfl : om = o' := Option.some.inj (hm.symm.trans e)
 rw [wanted_put om a oi.dst v h1] at hw
 rw [execOp_put om hsm a oi.dst v h1] at hr
 exact ⟨om, u, hm, hw, hr, hy.of_same (execOp_put oi hsi a om.dst u h3) (wanted_put oi a om.dst u h3), by rw [← Act.put_comm a v u h2]; exact hn⟩
end
def Tw (w0 w1 : World) : Type := { x : World // x = w0 ∨ x = w1 }
instance (w0 w1 : World) : Nonempty (Tw w0 w1) := ⟨⟨w0, .inl rfl⟩⟩
end Go.Proofs.YthnimhnlnddnoaaGreatDoor
namespace Go.Proofs.YthnimhnlnddnoaaGreatDoor
open Go.RowKit
section
variable {P : Program} {ops : Array Oper} {md : Region.Mode} {C : World → Prop}
def curW2 (w0 w1 w2 : World) (m : Nat) (listed : Array Bool) : World := if listed.getD (m + 1) false then w2 else if listed.getD m false then w1 else w0
def headM2 (P : Program) (md : Region.Mode) (ops : Array Oper) (w0 w1 w2 : World) (m n : Nat) (L : Array Bool → Act → Prop) : Nat → Array Bool → Act → Prop
 | 0, listed, a => L listed a
 | f + 1, listed, a => Region.ready md ops listed ≠ [] ∧ ∀ i ∈ Region.ready md ops listed, i < n ∧
   (if i = m then listed.getD (m + 1) false = false ∧ MkOp P ops w0 w1 m (headM2 P md ops w0 w1 w2 m n L f (listed.setIfInBounds m true)) a
    else if i = m + 1 then listed.getD m false = true ∧ MkOp P ops w1 w2 (m + 1) (headM2 P md ops w0 w1 w2 m n L f (listed.setIfInBounds (m + 1) true)) a
    else qOp P ops (fun w => w = curW2 w0 w1 w2 m listed) i (headM2 P md ops w0 w1 w2 m n L f (listed.setIfInBounds i true)) a)
theorem curW2_set {w0 w1 w2 : World} {m i : Nat} {listed : Array Bool} (h : i ≠ m) (h2 : i ≠ m + 1) : curW2 w0 w1 w2 m (listed.setIfInBounds i true) = curW2 w0 w1 w2 m listed := by
 unfold curW2
 rw [getD_set_ne false h, getD_set_ne false h2]
theorem getD_set_same {listed : Array Bool} {i : Nat} (hun : listed.getD i true = false) : (listed.setIfInBounds i true).getD i false = true := by
 have hlt : i < listed.size := by
  rcases Nat.lt_or_ge i listed.size with h' | h'
  ·exact h'
  ·simp [Array.getElem?_eq_none h'] at hun
 simp [hlt]
theorem any_of_headM2 {w0 w1 w2 : World} {m n g : Nat} {L : Array Bool → Act → Prop} {Q' : Exit → Act → World → Prop} (hL : ∀ listed a, L listed a → wpAny P md ops Q' g listed a (curW2 w0 w1 w2 m listed)) :
  ∀ (f : Nat) (listed : Array Bool) (a : Act), headM2 P md ops w0 w1 w2 m n L f listed a → wpAny P md ops Q' (f + g) listed a (curW2 w0 w1 w2 m listed) := by
 intro f
 induction f with
 | zero => intro listed a h; rw [Nat.zero_add]; exact hL _ _ h
 | succ f ih =>
  intro listed a h
  rw [show f + 1 + g = (f + g) + 1 by omega]
  refine ⟨fun h0 => absurd h0 h.1, fun i hi => ?_⟩
  have h2 := (h.2 i hi).2
  have hun := (mem_ready.1 hi).1
  by_cases him : i = m
  ·subst him
   rw [if_pos rfl] at h2
   obtain ⟨hno, om, v, hom, hw, hr, hn⟩ := h2
   have hc : curW2 w0 w1 w2 i listed = w0 := by unfold curW2; rw [hno, getD_both hun]; rfl
   have hc1 : curW2 w0 w1 w2 i (listed.setIfInBounds i true) = w1 := by
    unfold curW2
    rw [getD_set_ne false (by omega), hno, getD_set_same hun]
    rfl
   rw [hc]
   unfold wpOp
   simp only [hom, hw, if_true]
   refine .inl ?_
   unfold Oper.wp
   rw [hr, Oper.upon_value, ← hc1]
   exact ih _ _ hn
  ·rw [if_neg him] at h2
   by_cases him2 : i = m + 1
   ·subst him2
    rw [if_pos rfl] at h2
    obtain ⟨hno, om, v, hom, hw, hr, hn⟩ := h2
    have hc : curW2 w0 w1 w2 m listed = w1 := by unfold curW2; rw [hno, getD_both hun]; rfl
    have hc1 : curW2 w0 w1 w2 m (listed.setIfInBounds (m + 1) true) = w2 := by
     unfold curW2
     rw [getD_set_same hun]
     rfl
    rw [hc]
    unfold wpOp
    simp only [hom, hw, if_true]
    refine .inl ?_
    unfold Oper.wp
    rw [hr, Oper.upon_value, ← hc1]
    exact ih _ _ hn
   ·rw [if_neg him2] at h2
    refine wpOp_of_qOp (C := fun w => w = curW2 w0 w1 w2 m listed) rfl (fun a' w' hw' h' => ?_) h2
    subst hw'
    rw [← curW2_set (listed := listed) him him2]
    exact ih _ _ h'
theorem headM2_first {w0 w1 w2 : World} {k0 m n i : Nat} {oi : Oper} {v : Value} {L : Array Bool → Act → Prop} (hi : ops[i]? = some oi) (him : i ≠ m) (him2 : i ≠ m + 1) (hsel : ∀ (j : Nat) (o : Oper) cs b, ops[j]? = some o → o.op ≠ .select cs b)
  (hs : sinkFrom md ops k0 n = true) (hc : Region.chainB md ops n = true) (hn : n < ops.size) (hki : k0 ≤ i) (hin : i < n) (hdone : ∀ listed a, L listed a → ∀ j ∈ Region.ready md ops listed, n ≤ j) :
  ∀ (f : Nat) (listed : Array Bool) (a : Act), HeadInv md ops n listed →
   (∀ j oj, ops[j]? = some oj → j ≠ i → listed.getD j true = false → (∀ e ∈ oj.after, Region.binds md e = true → e.on ≠ i) → oi.apart ops oj = true) →
   i ∈ Region.ready md ops listed → YieldsIn P ops (fun w => w = w0 ∨ w = w1 ∨ w = w2) oi v a → (∀ D : World → Prop, (∀ w, D w → w = w0 ∨ w = w1 ∨ w = w2) → ∀ a, YieldsIn P ops (fun w => w = w0 ∨ w = w1 ∨ w = w2) oi v a → YieldsIn P ops D oi v a) →
   headM2 P md ops w0 w1 w2 m n L f (listed.setIfInBounds i true) (a.put oi.dst v) → headM2 P md ops w0 w1 w2 m n L (f + 1) listed a := by
 have hcur : ∀ listed w, w = curW2 w0 w1 w2 m listed → w = w0 ∨ w = w1 ∨ w = w2 := by
  intro listed w h
  unfold curW2 at h
  split at h
  ·exact .inr (.inr h)
  ·split at h
   ·exact .inr (.inl h)
   ·exact .inl h
 intro f
 induction f with
 | zero =>
  intro listed a inv _ hr hy hD H
  have hun := (mem_ready.1 hr).1
  refine ⟨fun h => (by rw [h] at hr; cases hr), fun j hj => ?_⟩
  have hjn : j < n := Nat.lt_of_not_le fun h => absurd hj (tail_later hs hc hn inv _ i rfl hki hin hun j h)
  refine ⟨hjn, ?_⟩
  by_cases hji : j = i
  ·subst hji
   rw [if_neg him, if_neg him2]
   exact (hD _ (hcur listed) a hy).qOp hi H
  ·have := hdone _ _ H j (ready_mono hj hji)
   omega
 | succ f ih =>
  intro listed a inv hfree hr hy hD H
  have hun := (mem_ready.1 hr).1
  refine ⟨fun h => (by rw [h] at hr; cases hr), fun j hj => ?_⟩
  have hjn : j < n := Nat.lt_of_not_le fun h => absurd hj (tail_later hs hc hn inv _ i rfl hki hin hun j h)
  refine ⟨hjn, ?_⟩
  by_cases hji : j = i
  ·subst hji
   rw [if_neg him, if_neg him2]
   exact (hD _ (hcur listed) a hy).qOp hi H
  ·obtain ⟨hjun, oj, hoj, hall⟩ := mem_ready.1 hj
   have hnot : ∀ e ∈ oj.after, Region.binds md e = true → e.on ≠ i := fun e he hb heq => by
    have h1 := hall e he hb
    rw [heq, getD_both hun] at h1
    cases h1
   have hap := hfree j oj hoj hji hjun hnot
   have hfree' : ∀ k ok, ops[k]? = some ok → k ≠ i → (listed.setIfInBounds j true).getD k true = false → (∀ e ∈ ok.after, Region.binds md e = true → e.on ≠ i) → oi.apart ops ok = true := fun k ok hk hki2 hun hno => by
    refine hfree k ok hk hki2 ?_ hno
    by_cases hjk : j = k
    ·subst hjk; exact hjun
    ·rwa [getD_set_ne true hjk] at hun
   have h2 := (H.2 j (ready_mono hj hji)).2
   by_cases hjm : j = m
   ·subst hjm
    rw [if_pos rfl] at h2 ⊢
    refine ⟨by rw [← getD_set_ne false him2]; exact h2.1, ?_⟩
    refine MkOp.mono (fun a' h3 => ih (listed.setIfInBounds j true) a' (inv.set hj hjn) hfree' (ready_mono hr (Ne.symm hji)) h3.1 hD ?_) (h2.2.put hoj hap (fun cs b => hsel i oi cs b hi) (fun cs b => hsel j oj cs b hoj) hy)
    rw [Array.setIfInBounds_comm _ _ hji]
    exact h3.2
   ·rw [if_neg hjm] at h2 ⊢
    by_cases hjm2 : j = m + 1
    ·subst hjm2
     rw [if_pos rfl] at h2 ⊢
     refine ⟨by rw [← getD_set_ne false him]; exact h2.1, ?_⟩
     refine MkOp.mono (fun a' h3 => ih (listed.setIfInBounds (m + 1) true) a' (inv.set hj hjn) hfree' (ready_mono hr (Ne.symm hji)) h3.1 hD ?_) (h2.2.put hoj hap (fun cs b => hsel i oi cs b hi) (fun cs b => hsel (m + 1) oj cs b hoj) hy)
     rw [Array.setIfInBounds_comm _ _ hji]
     exact h3.2
    ·rw [if_neg hjm2] at h2 ⊢
     rw [curW2_set him him2] at h2
     refine qOp_mono (fun a' h3 => ih (listed.setIfInBounds j true) a' (inv.set hj hjn) hfree' (ready_mono hr (Ne.symm hji)) h3.1 hD ?_) (qOp_put2 hoj hap (fun cs b => hsel i oi cs b hi) (fun cs b => hsel j oj cs b hoj) hy h2)
     rw [Array.setIfInBounds_comm _ _ hji]
     exact h3.2
theorem headM2_lex {w0 w1 w2 : World} {k0 m g : Nat} {Lq : Act → Prop} (hsel : Region.noSelect ops = true) (hwt : Region.waitsFor md ops (m + 1) m = true) (hs : sinkFrom md ops k0 (m + 2) = true) (hc : Region.chainB md ops (m + 2) = true) (hn : m + 2 < ops.size) :
  ∀ (l : List Oper) (k : Nat) (listed : Array Bool) (a : Act), (∀ j, j < l.length → l[j]? = ops[k + j]?) → k0 ≤ k → k + l.length = m → (∀ o ∈ l, isRead o.op = true) → HeadInv md ops (m + 2) listed → listed.getD m true = false → listed.getD (m + 1) true = false →
  Region.lexHead md ops g (l.length + 2) k listed = true → wpQuiet P ops (fun w => w = w0 ∨ w = w1 ∨ w = w2) (fun a' => MkOp P ops w0 w1 m (fun a2 => MkOp P ops w1 w2 (m + 1) Lq a2) a') l a →
  headM2 P md ops w0 w1 w2 m (m + 2) (fun listed' a' => Region.seqB md ops g (m + 2) listed' = true ∧ listed'.getD (m + 1) false = true ∧ Lq a') (l.length + 2) listed a := by
 intro l
 induction l with
 | nil =>
  intro k listed a _ _ hk _ inv hum hum2 hB h
  obtain rfl : k = m := by simpa using hk
  simp only [List.length_nil, Region.lexHead, Bool.and_eq_true] at hB
  obtain ⟨⟨hr, hf⟩, ⟨hr2, hf2⟩, hB'⟩ := hB
  have hr' : k ∈ Region.ready md ops listed := by simpa using hr
  have hr2' : k + 1 ∈ Region.ready md ops (listed.setIfInBounds k true) := by simpa using hr2
  refine ⟨fun h => (by rw [h] at hr'; cases hr'), fun j hj => ?_⟩
  have hjn : j < k + 2 := Nat.lt_of_not_le fun h => absurd hj (tail_later hs hc hn inv _ k rfl (by assumption) (by omega) hum j h)
  refine ⟨hjn, ?_⟩
  by_cases hji : j = k
  ·subst hji
   rw [if_pos rfl]
   refine ⟨getD_both hum2, MkOp.mono (fun a' ha => ?_) h⟩
   refine ⟨fun h => (by rw [h] at hr2'; cases hr2'), fun i hi => ?_⟩
   have hin : i < j + 2 := Nat.lt_of_not_le fun h => absurd hi (tail_later hs hc hn (inv.set hr' (by omega)) _ (j + 1) rfl (by omega) (by omega) (by rw [getD_set_ne true (by omega)]; exact hum2) i h)
   refine ⟨hin, ?_⟩
   by_cases hij : i = j + 1
   ·subst hij
    rw [if_neg (by omega), if_pos rfl]
    refine ⟨getD_set_same hum, MkOp.mono (fun a2 ha2 => ⟨hB', ?_, ha2⟩) ha⟩
    exact getD_set_same (by rw [getD_set_ne true (by omega)]; exact hum2)
   ·have := seqB_ready hB' i (ready_mono hi hij)
    omega
  ·by_cases hjk : j = k + 1
   ·subst hjk
    obtain ⟨o', ho', e, he, hb, hon⟩ := Region.waitsFor_spec hwt
    obtain ⟨_, oj, hoj, hall⟩ := mem_ready.1 hj
    obtain rfl : o' = oj := Option.some.inj (ho'.symm.trans hoj)
    have h1 := hall e he hb
    rw [hon, getD_both hum] at h1
    cases h1
   ·have := seqB_ready hB' j (ready_mono (ready_mono hj hji) hjk)
    omega
 | cons o l ih =>
  intro k listed a hl hk0 hk hrd inv hum hum2 hB h
  have h0 : ops[k]? = some o := by simpa using (hl 0 (by simp)).symm
  simp only [List.length_cons] at hk
  have hkm : k ≠ m := by omega
  have hkm2 : k ≠ m + 1 := by omega
  rw [List.length_cons, show l.length + 1 + 2 = (l.length + 2) + 1 by omega, Region.lexHead, Bool.and_eq_true, Bool.and_eq_true] at hB
  obtain ⟨⟨hr, hf⟩, hB'⟩ := hB
  have hr' : k ∈ Region.ready md ops listed := by simpa using hr
  obtain ⟨v, hy, hK⟩ := yieldsIn_of_qOp (K := wpQuiet P ops (fun w => w = w0 ∨ w = w1 ∨ w = w2) (fun a' => MkOp P ops w0 w1 m (fun a2 => MkOp P ops w1 w2 (m + 1) Lq a2) a') l) h0 (by unfold qOp; simp only [h0]; exact h)
  have hro := hrd o (List.mem_cons_self ..)
  rw [List.length_cons, show l.length + 1 + 2 = (l.length + 2) + 1 by omega]
  exact headM2_first h0 hkm hkm2 (Region.noSelect_spec hsel) hs hc hn hk0 (by omega) (fun listed' a' hL => seqB_ready hL.1) (l.length + 2) listed a inv (Region.free_spec h0 hf) hr' hy (fun D hD a hy => YieldsIn.only hro hy hD)
   (ih (k + 1) _ _ (fun j hj => by have := hl (j + 1) (by simp; omega); simpa [Nat.add_assoc, Nat.add_comm 1 j] using this) (by omega) (by omega) (fun o ho => hrd o (List.mem_cons_of_mem _ ho)) (inv.set hr' (by omega)) (by rw [getD_set_ne true hkm]; exact hum) (by rw [getD_set_ne true hkm2]; exact hum2) hB' hK)
end
def Tr (w0 w1 w2 : World) : Type := { x : World // x = w0 ∨ x = w1 ∨ x = w2 }
instance (w0 w1 w2 : World) : Nonempty (Tr w0 w1 w2) := ⟨⟨w0, .inl rfl⟩⟩
theorem Tr.cell {w0 w1 w2 : World} {a : Addr} {v : Value} (h0 : w0.cell? a = some v) (h1 : w1.cell? a = some v) (h2 : w2.cell? a = some v) : ∀ x : Tr w0 w1 w2, x.1.cell? a = some v := fun x => by
 rcases x.2 with h | h | h
 ·rw [h]; exact h0
 ·rw [h]; exact h1
 ·rw [h]; exact h2
theorem region_make2 {P : Program} {id : Nat} {Q : Exit → Act → World → Prop} {a : Act} {w w0 w1 w2 : World} {l : List Oper} (m : Nat) (hw0 : w.drew = w0) (hm : P.follows .mixedOrders = true) (hB : Region.lexTailB .any l.toArray (m + 2) = true) (hwt : Region.waitsFor .any l.toArray (m + 1) m = true) (hrd : (l.take m).all (fun o => isRead o.op) = true)
  (h : wpQuiet P l.toArray (fun w' => ∃ x : Tr w0 w1 w2, w' = x.1) (fun a' => MkOp P l.toArray w0 w1 m (fun a2 => MkOp P l.toArray w1 w2 (m + 1) (fun a3 => wpList P l.toArray Q (l.drop (m + 2)) a3 w2) a2) a') (l.take m) a) : (Code.region id l.toArray true).wp P Q a w := by
 have e : (fun w' => ∃ x : Tr w0 w1 w2, w' = x.1) = fun x => x = w0 ∨ x = w1 ∨ x = w2 := by
  funext y
  apply propext
  constructor
  ·rintro ⟨x, rfl⟩
   exact x.2
  ·intro h
   exact ⟨⟨y, h⟩, rfl⟩
 rw [e] at h
 simp only [Region.lexTailB, Bool.and_eq_true, decide_eq_true_eq] at hB
 obtain ⟨⟨⟨⟨hsel, hn⟩, hs⟩, hc⟩, hlex⟩ := hB
 have hn' : m + 2 < l.length := by simpa using hn
 have htl : (l.take m).length = m := by simp; omega
 have hdl : (l.drop (m + 2)).length = l.toArray.size - (m + 2) := by simp
 have H := headM2_lex (w0 := w0) (w1 := w1) (w2 := w2) (md := .any) (k0 := 0) (g := l.toArray.size - (m + 2)) hsel hwt (sinkFrom_zero hs) hc hn (l.take m) 0 (Array.replicate l.toArray.size false) a (fun j hj => by
   rw [htl] at hj
   simp [hj]) (Nat.zero_le _) (by simpa using htl) (fun o ho => List.all_eq_true.1 hrd o ho)
  ⟨by simp, fun j oj _ hl => (by rw [getD_replicate_false] at hl; cases hl), fun t _ ht => getD_in (by simpa using ht) (getD_replicate_false _ _)⟩ (getD_in (by simp; omega) (getD_replicate_false _ _)) (getD_in (by simp; omega) (getD_replicate_false _ _)) (by rw [htl]; exact hlex) h
 refine wp_region_any hm ?_
 have := any_of_headM2 (Q' := Q) (g := l.toArray.size - (m + 2)) (fun listed a' hL => by
  have := wpAny_of_seq (md := .any) (Q' := Q) (l.drop (m + 2)) (m + 2) listed a' w2 (fun j => by simp [List.getElem?_drop]) (by rw [hdl]; exact hL.1) hL.2.2
  have hcw : curW2 w0 w1 w2 m listed = w2 := by unfold curW2; rw [hL.2.1]; rfl
  rw [hcw]
  rwa [hdl] at this) _ _ _ H
 have hcw : curW2 w0 w1 w2 m (Array.replicate l.toArray.size false) = w.drew := by unfold curW2; rw [getD_replicate_false, getD_replicate_false]; exact hw0.symm
 rw [hcw] at this
 rwa [htl, show m + 2 + (l.toArray.size - (m + 2)) = l.toArray.size by omega] at this
theorem mk_bs {P : Program} {ops : Array Oper} {w0 w1 : World} {m : Nat} {K : Act → Prop} {a : Act} (om : Oper) (hom : ops[m]? = some om) (hgd : om.guard = none) (T : TypeId) (n : Nat) (parts : Array (Nat × Operand)) (ho : om.op = .buildSlice T n parts)
  {vs : Array (Nat × Value)} (hv : parts.toList.map (fun (i, x) => (i, a.eval x)) = vs.toList) {v : Value} (hr : (Instr.buildSlice T n vs).run P w0 = .ok v w1) (h : K (a.put om.dst v)) : MkOp P ops w0 w1 m K a := by
 refine ⟨om, v, hom, by simp [Region.wanted, hgd], ?_, h⟩
 have hv : parts.map (fun (i, x) => (i, a.eval x)) = vs := by
  rw [← Array.toList_inj, Array.toList_map]
  exact hv
 unfold execOp
 rw [ho]
 simp only [Sem.run_bind, Sem.run_pure, hv, hr, Result.andThen_ok]
theorem mk_append {P : Program} {ops : Array Oper} {w0 w1 : World} {m : Nat} {K : Act → Prop} {a : Act} (om : Oper) (hom : ops[m]? = some om) (hgd : om.guard = none) (s x : Operand) (t : TypeId)
  (ho : om.op = .call { callee := .builtin .append, args := #[s, x], argTypes := #[t, t] }) {u1 u2 v : Value} (h1 : a.eval s = u1) (h2 : a.eval x = u2)
  (hrun : (Builtin.append_ #[t, t] om.type #[u1, u2]).run P w0 = .ok v w1) (h : K (a.put om.dst v)) : MkOp P ops w0 w1 m K a := by
 refine ⟨om, v, hom, by simp [Region.wanted, hgd], ?_, h⟩
 unfold execOp
 simp only [ho, resolve, invoke, builtin, Sem.run_bind, Sem.run_pure, Result.andThen_ok, List.map_toArray, List.map_cons, List.map_nil, h1, h2, hrun]
end Go.Proofs.YthnimhnlnddnoaaGreatDoor
