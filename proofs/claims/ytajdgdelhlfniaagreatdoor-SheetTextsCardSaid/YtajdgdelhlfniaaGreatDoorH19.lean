/- Walks of the layer sheet: Write; must. Walks of the layer sheet: must, number, the point of a word: where they succeed. Plain functions for the layer sheet: what Read computes. Walks of the layer sheet: take of a line, where it succeeds. -/
import Derived.Test.YtajdgdelhlfniaaGreatDoorH18
import Derived.Test.YtajdgdelhlfniaaGreatDoorH10
import Derived.WalkKit
import Derived.Deep.Quiet
set_option linter.unusedSimpArgs false
set_option linter.unusedVariables false
namespace Go.Proofs.YtajdgdelhlfniaaGreatDoor
open Go.RowKit

/-- what Write returns -/
def writeF (s : ShR) : List UInt8 := if errOf s = 0 then textB s else []
set_option maxRecDepth 100000 in
set_option maxHeartbeats 1000000 in
theorem write_any {B : Nat} {w : World} {v : Value} {s : ShR} (hs : RdSh B w v s) (hn : Named s) (hB : B ≤ w.heap.size) (hgl : Glob w) :
    Calls Tryz.prog 37 #[v] w fun e w' => e = .returned (.tuple #[.string ⟨(writeF s).toArray⟩, .int .i64 (errOf s)]) ∧ Below w.heap.size w w' := by
  obtain ⟨vp, vn, rfl, hp, ho⟩ := id hs
  obtain ⟨W1, hW1, r1, z1, d1⟩ := box_any w #[.int .i64 s.iv, vp, vn] 25
  have HS := Lib.hid hs
  have HB1 := Lib.hid d1
  have HC := Lib.hid (pcheck_any (w := W1) (hs.below (d1.mono hB)) hn (Nat.le_trans hB d1.size))
  have HGl := Lib.hid hgl
  have q0 := cellOf r1 0 rfl
  have q1 := cellOf r1 1 rfl
  have q2 := cellOf r1 2 rfl
  unfold checkV at HC
  have heo : errOf s = (check s).2.2 := rfl
  rw [← heo] at HC
  generalize (check s).1 = e1 at *
  generalize (check s).2.1 = e2 at *
  clear heo hs hp ho r1 z1 d1
  by_cases he : errOf s = 0
  · have hne : (errOf s != 0) = false := by simp [he]
    have HR := Lib.hid (show writeF s = textB s by simp [writeF, he])
    have HT := Lib.hid (fun (X : World) (hb : Below W1.heap.size W1 X) => text_any (w := X) (HS.out.below ((HB1.out.trans (hb.mono HB1.out.size)).mono hB)) (good_of_valid he) (Nat.le_trans hB (Nat.le_trans HB1.out.size hb.size)) (HGl.out.below (HB1.out.trans (hb.mono HB1.out.size))))
    have HE := Lib.hid he
    clear he
    go_enter Tryz.func37, Tryz.ntmps37
    go_upto_region 1 with (fail)
    rw [← hW1]
    clear hW1
    go_wp2_with (first | (go_at_call 16; refine HC.out.mono ?_; rintro e w3 ⟨rfl, hb3⟩; have q0 := (hb3.cell (cell_lt q0)).trans q0; have q1 := (hb3.cell (cell_lt q1)).trans q1; have q2 := (hb3.cell (cell_lt q2)).trans q2) | (go_at_call 78; refine (HT.out _ hb3).mono ?_; rintro e w4 ⟨rfl, hb4⟩))
    go_ret2
    exact ⟨by rw [HR.out, HE.out]; rfl, HB1.out.trans ((hb3.trans (hb4.mono hb3.size)).mono HB1.out.size)⟩
  · have hne : (errOf s != 0) = true := by simp [he]
    have HR := Lib.hid (show writeF s = [] by simp [writeF, he])
    clear he
    go_enter Tryz.func37, Tryz.ntmps37
    go_upto_region 1 with (fail)
    rw [← hW1]
    clear hW1
    go_wp2_with (go_at_call 16; refine HC.out.mono ?_; rintro e w3 ⟨rfl, hb3⟩)
    go_ret2
    exact ⟨by rw [HR.out]; rfl, HB1.out.trans (hb3.mono HB1.out.size)⟩
end Go.Proofs.YtajdgdelhlfniaaGreatDoor
namespace Go.Proofs.YtajdgdelhlfniaaGreatDoor
open Go.RowKit

theorem must_true (w : World) : Calls Tryz.prog 85 #[.bool true] w fun e w' => e = .returned (.tuple #[]) ∧ w' = w := by
  go_enter Tryz.func85, Tryz.ntmps85
  go_wp2
  go_end0
  exact ⟨rfl, rfl⟩
theorem must_false (w : World) : Calls Tryz.prog 85 #[.bool false] w fun e w' => e = .panicked [{ v := .iface 26 (.int .i64 6), recovered := false }] ∧ w' = w := by
  go_enter Tryz.func85, Tryz.ntmps85
  go_wp2
  exact ⟨rfl, rfl, rfl⟩
theorem atoi_ok (s : ByteArray) (hs : s.size ≤ 100000) {v : Int} (h : Lib.atoiAll s.data.toList = .ok v) (w : World) :
    Calls Tryz.prog 123 #[.string s] w fun e w' => e = .returned (.tuple #[.int .i64 v, .nilIface]) ∧ Below w.heap.size w w' := by
  refine (Tryz.strconv_Atoi_ok s (by omega) v h w).mono ?_
  rintro e w1 ⟨rfl, hw1⟩
  refine ⟨rfl, ?_⟩
  rcases hw1 with rfl | ⟨t, rfl⟩
  · exact Below.refl _ _
  · exact ⟨rfl, rfl, rfl, by rw [Lib.bytesWorld_size]; omega, fun j hj => Lib.bytesWorld_at_old w 5 t j hj⟩
theorem number_ok (s : ByteArray) (hs : s.size ≤ 100000) {v : Int} (h : Lib.atoiAll s.data.toList = .ok v) (w : World) :
    Calls Tryz.prog 112 #[.string s] w fun e w' => e = .returned (.int .i64 v) ∧ Below w.heap.size w w' := by
  have HA := Lib.hid (atoi_ok s hs h w)
  clear h
  go_enter Tryz.func112, Tryz.ntmps112
  go_wp2_with (first | (go_at_call 123; refine HA.out.mono ?_; rintro e w1 ⟨rfl, hb1⟩) | (go_at_call 85; refine (must_true _).mono ?_; rintro e w2 ⟨rfl, rfl⟩))
  go_ret
  exact ⟨rfl, hb1⟩
theorem add_none (g o j : Nat) : (⟨g, o, none⟩ : Addr).add j = ⟨g, o + j, none⟩ := by
  unfold Addr.add
  split
  · rename_i h; subst h; rfl
  · rfl
/-- the place of a word among the names -/
theorem index_ok {B : Nat} {w : World} {g n c : Nat} {xs : List ByteArray} (hp : Rd StrAt 1 B w (.slice (some ⟨g, 0, none⟩) n c) xs) (x : ByteArray) :
    Calls Tryz.prog 111 #[.slice (some ⟨g, 0, none⟩) n c, .string x] w fun e w' => e = .returned (.int .i64 (Lib.idxOfS xs x)) ∧ w' = w := by
  have hlen := hp.len
  obtain ⟨A, c', e, h1, h2, h3⟩ := id hp
  injection e with e1 e2 e3
  subst e2
  have := Tryz.slices_Index_string g 0 xs.length c xs x w (Nat.le_refl _) hlen (fun j hj => by
    obtain ⟨ad, e, _, hc⟩ := hp.str hj
    injection e with e
    subst e
    rw [List.getD_eq_getElem?_getD]
    rw [add_none] at hc
    exact hc)
  rwa [List.take_length] at this
/-- point of take: it succeeds -/
theorem point_ok {w : World} {a b : Addr} {B h g n c gw cw : Nat} {xs ws : List ByteArray} (i : Nat) (hb : w.cell? b = some (.pointer (some ⟨h, 0, none⟩))) (h1 : w.cell? ⟨h, 1, none⟩ = some (.slice (some ⟨g, 0, none⟩) n c)) (ha : w.cell? a = some (.slice (some ⟨gw, 0, none⟩) ws.length cw))
    (hp : Rd StrAt 1 B w (.slice (some ⟨g, 0, none⟩) n c) xs) (hw : Rd StrAt 1 B w (.slice (some ⟨gw, 0, none⟩) ws.length cw) ws) (hB : B ≤ w.heap.size) (hi : i < ws.length) (hsmall : ws.length ≤ 1000000) (h0 : 0 ≤ Lib.idxOfS xs (ws[i]?.getD ByteArray.empty)) :
    Calls Tryz.prog 110 #[.int .i64 i, .pointer (some a), .pointer (some b)] w fun e w' => e = .returned (.int .i64 (Lib.idxOfS xs (ws[i]?.getD ByteArray.empty))) ∧ Below w.heap.size w w' := by
  have HI := Lib.hid (fun (y : Aft w) => index_ok (Aft.rd hp hB y) (ws[i]?.getD ByteArray.empty))
  obtain ⟨ad, e, _, hc⟩ := hw.str hi
  injection e with e
  subst e
  rw [add_none, Nat.zero_add] at hc
  have C1 := Aft.cell hb
  have C2 := Aft.cell h1
  have C3 := Aft.cell ha
  have C4 := Aft.cell hc
  have hge : decide (0 ≤ Lib.idxOfS xs (ws[i]?.getD ByteArray.empty)) = true := decide_eq_true h0
  clear h0 hw hp
  generalize ws[i]?.getD ByteArray.empty = x at *
  generalize Lib.idxOfS xs x = r at *
  go_enter Tryz.func110, Tryz.ntmps110
  go_upto_region 2 with (go_at_call 85; refine (must_true _).mono ?_; rintro e w2 ⟨rfl, rfl⟩)
  refine wp_region_aft (by kernel_rfl) (by kernel_rfl) ?_
  repeat (first | go_big_quiet_step ((go_at_call 111; exact Aft.call_same (HI.out _))) | quiet_step ((go_at_call 111; exact Aft.call_same (HI.out _))))
  refine wpQuiet_nil ?_
  rintro wx ⟨⟨_, hbx⟩, rfl⟩
  go_wp2_with (go_at_call 85; refine (must_true _).mono ?_; rintro e w2 ⟨rfl, rfl⟩)
  go_ret
  exact ⟨rfl, hbx⟩
end Go.Proofs.YtajdgdelhlfniaaGreatDoor
namespace Go.Proofs.YtajdgdelhlfniaaGreatDoor

/-- the word at a place -/
def wd (ws : List ByteArray) (i : Nat) : ByteArray := ws[i]?.getD ByteArray.empty
/-- the number that a word is -/
def numF (x : ByteArray) : Option Int := match Lib.atoiAll x.data.toList with | .ok v => some v | _ => none
/-- the point that a word names -/
def pointF (pts ws : List ByteArray) (i : Nat) : Option Int := if i < ws.length ∧ 0 ≤ Lib.idxOfS pts (wd ws i) then some (Lib.idxOfS pts (wd ws i)) else none
def addN (s : ShR) (x : NoteR) : ShR := { s with notes := s.notes ++ [x] }
def addP (s : ShR) (p : ByteArray) : ShR := { s with pts := s.pts ++ [p] }
/-- a sheet with a line more; none: the line is none -/
def takeF (s : ShR) (ws : List ByteArray) : Option ShR :=
  if wd ws 0 = wSheet then (if ws.length = 2 then (numF (wd ws 1)).map fun v => { s with iv := v } else none)
  else if wd ws 0 = wPoint then (if ws.length = 2 then some (addP s (wd ws 1)) else none)
  else if wd ws 0 = wLake then (if ws.length = 3 then (pointF s.pts ws 1).bind fun a => (pointF s.pts ws 2).map fun b => addN s ⟨3, a, b, 0, 0⟩ else none)
  else if wd ws 0 = wSpot ∨ wd ws 0 = wContour then
    (if ws.length = 4 then (pointF s.pts ws 1).bind fun a => (numF (wd ws 2)).bind fun lo => (numF (wd ws 3)).map fun hi => addN s ⟨if wd ws 0 = wContour then 2 else 1, a, 0, lo, hi⟩ else none)
  else if wd ws 0 = wSlope then
    (if ws.length = 5 then (pointF s.pts ws 1).bind fun a => (pointF s.pts ws 2).bind fun b => (numF (wd ws 3)).bind fun lo => (numF (wd ws 4)).map fun hi => addN s ⟨4, a, b, lo, hi⟩ else none)
  else none
def takesF (s : ShR) : List (List ByteArray) → Option ShR
  | [] => some s
  | ws :: r => (takeF s ws).bind fun t => takesF t r
def zeroS : ShR := ⟨0, [], []⟩
theorem takeF_len {s t : ShR} {ws : List ByteArray} (h : takeF s ws = some t) : t.pts.length + t.notes.length ≤ s.pts.length + s.notes.length + 1 := by
  unfold takeF at h
  split at h
  · split at h
    · simp only [Option.map_eq_some_iff] at h
      obtain ⟨v, _, rfl⟩ := h
      simp
    · cases h
  · split at h
    · split at h
      · simp only [Option.some.injEq] at h
        subst h
        simp [addP]; omega
      · cases h
    · split at h
      · split at h
        · simp only [Option.bind_eq_some_iff, Option.map_eq_some_iff] at h
          obtain ⟨_, _, _, _, rfl⟩ := h
          simp [addN]; omega
        · cases h
      · split at h
        · split at h
          · simp only [Option.bind_eq_some_iff, Option.map_eq_some_iff] at h
            obtain ⟨_, _, _, _, _, _, rfl⟩ := h
            simp [addN]; omega
          · cases h
        · split at h
          · split at h
            · simp only [Option.bind_eq_some_iff, Option.map_eq_some_iff] at h
              obtain ⟨_, _, _, _, _, _, _, _, rfl⟩ := h
              simp [addN]; omega
            · cases h
          · cases h
end Go.Proofs.YtajdgdelhlfniaaGreatDoor
namespace Go.Proofs.YtajdgdelhlfniaaGreatDoor
open Go.RowKit

def ntW (a b c d e : Int) : NoteR := ⟨a, b, c, d, e⟩
/-- the sheet that is read, in its box -/
structure SheetAt (base : Nat) (w : World) (H : Nat) (vp vn : Value) (s : ShR) : Prop where
  row : w.heap[H]? = some (.cells #[.int .i64 s.iv, vp, vn] 25)
  pts : Own base 9 w vp s.pts
  nts : Own base 69 w vn s.notes

theorem wpList_mkfn2 {P : Program} {ops : Array Oper} {rest : List Oper} {o : Oper} {a : Act} {w : World} {Q : Exit → Act → World → Prop} (hgd : o.guard = none) (f : FuncId) (xs : Array Operand) (ho : o.op = .makeFunc (.func f) #[] xs)
    {cs : Array Value} (hv : xs.toList.map a.eval = cs.toList) (h : wpList P ops Q rest (a.put o.dst (.func (.func f) #[] cs)) w) : wpList P ops Q (o :: rest) a w := by
  refine wpList_plain hgd fun K hK => ?_
  unfold Oper.wp execOp
  rw [ho]
  have e : xs.map a.eval = cs := by
    rw [← Array.toList_inj, Array.toList_map]
    exact hv
  have e0 : (#[] : Array Operand).map a.eval = #[] := by simp
  simp only [Sem.run_bind, Sem.run_pure, e, e0, run_mkfn, Result.andThen_ok]
  exact hK _ _ h
/-- the two boxes of take's parameters, and the words -/
structure TakeW (w W : World) (H gw cw n : Nat) : Prop where
  b0 : W.heap[w.heap.size]? = some (.cells #[.pointer (some ⟨H, 0, none⟩)] 115)
  b1 : W.heap[w.heap.size + 1]? = some (.cells #[.slice (some ⟨gw, 0, none⟩) n cw] 22)
  below : Below w.heap.size w W
  size : W.heap.size = w.heap.size + 2
theorem takeW_made (w : World) (H gw cw n : Nat) : ∃ W, W = (w.alloc (.cells #[.pointer (some ⟨H, 0, none⟩)] 115)).alloc (.cells #[.slice (some ⟨gw, 0, none⟩) n cw] 22) ∧ TakeW w W H gw cw n := by
  refine ⟨_, rfl, ?_, ?_, ?_, by simp⟩
  · rw [Below.heap_alloc _ _ _ (by simp)]
    exact heap_alloc_new w _
  · have := heap_alloc_new (w.alloc (.cells #[.pointer (some ⟨H, 0, none⟩)] 115)) (.cells #[.slice (some ⟨gw, 0, none⟩) n cw] 22)
    rw [World.size_alloc] at this
    exact this
  · exact ((Below.refl _ _).alloc (Nat.le_refl _) _).alloc (by simp) _
theorem wordAt {B : Nat} {w : World} {gw n cw : Nat} {ws : List ByteArray} (hw : Rd StrAt 1 B w (.slice (some ⟨gw, 0, none⟩) n cw) ws) {i : Nat} (hi : i < ws.length) : w.cell? ⟨gw, i, none⟩ = some (.string (ws[i]?.getD ByteArray.empty)) := by
  obtain ⟨ad, e, _, hc⟩ := hw.str hi
  injection e with e
  subst e
  rw [add_none, Nat.zero_add] at hc
  exact hc

theorem Own.setOther {α : Type} {At : World → Addr → α → Prop} {sz : Nat} [E : Enc α At sz] {base : Nat} {e : TypeId} {w : World} {v : Value} {xs : List α} (h : Own base e w v xs) {H : Nat} {cs : Array Value} {T : TypeId} (hr : w.heap[H]? = some (.cells cs T)) (hT : T ≠ e) (i : Nat) (u : Value) : Own base e (w.setCell ⟨H, i, none⟩ u) v xs := by
  rcases h with ⟨hl, h0 | ⟨g, cap, cur, rfl, hbb, hh, r⟩⟩
  · exact ⟨hl, .inl h0⟩
  · refine ⟨hl, .inr ⟨g, cap, cur, rfl, hbb, (Below.heap_setCell _ _ _ _ ?_).trans hh, r⟩⟩
    rintro rfl
    rw [hr] at hh
    injection hh with hh
    injection hh with _ hh _
    exact hT hh
theorem row3 {w : World} {g : Nat} {cs : Array Value} {T : TypeId} (h : w.heap[g]? = some (.cells cs T)) (i : Nat) (x : Value) : (w.setCell ⟨g, i, none⟩ x).heap[g]? = some (.cells (cs.setIfInBounds i x) T) := by
  simp [World.setCell, Array.getElem?_modify, h]
theorem SheetAt.below {base H : Nat} {w w' : World} {vp vn : Value} {s : ShR} (h : SheetAt base w H vp vn s) (hb : Below w.heap.size w w') : SheetAt base w' H vp vn s :=
  ⟨(hb.block _ (lt_of_block h.row)).trans h.row, h.pts.below hb, h.nts.below hb⟩
theorem SheetAt.setIv {base H : Nat} {w : World} {vp vn : Value} {s : ShR} (h : SheetAt base w H vp vn s) (v : Int) : SheetAt base (w.setCell ⟨H, 0, none⟩ (.int .i64 v)) H vp vn { s with iv := v } :=
  ⟨(row3 h.row 0 _).trans (by simp), h.pts.setOther h.row (by decide) 0 _, h.nts.setOther h.row (by decide) 0 _⟩
theorem keep_set {w wx : World} {H i : Nat} {u : Value} (hb : Below w.heap.size w wx) : ∀ k, k < w.heap.size → ¬k = H → (wx.setCell ⟨H, i, none⟩ u).heap[k]? = w.heap[k]? :=
  fun k hk hne => (Below.heap_setCell _ _ _ _ hne).trans (hb.block k hk)

set_option maxRecDepth 100000 in
set_option maxHeartbeats 1000000 in
theorem take_sheet {w : World} {base H gw cw : Nat} {vp vn : Value} {s : ShR} {ws : List ByteArray} {v : Int} (hs : SheetAt base w H vp vn s) (hw : Rd StrAt 1 w.heap.size w (.slice (some ⟨gw, 0, none⟩) ws.length cw) ws)
    (hl : ws.length = 2) (hk : ws[0]?.getD ByteArray.empty = wSheet) (hsz : (ws[1]?.getD ByteArray.empty).size ≤ 100000) (hv : Lib.atoiAll (ws[1]?.getD ByteArray.empty).data.toList = .ok v) :
    Calls Tryz.prog 82 #[.pointer (some ⟨H, 0, none⟩), .slice (some ⟨gw, 0, none⟩) ws.length cw] w fun e w' => e = .returned (.tuple #[]) ∧ (SheetAt base w' H vp vn { s with iv := v } ∧ (∀ k, k < w.heap.size → k ≠ H → w'.heap[k]? = w.heap[k]?) ∧ Below 0 w w') := by
  obtain ⟨W2, hW2, hT⟩ := takeW_made w H gw cw 2
  have x0 := wordAt hw (i := 0) (by omega)
  have x1 := wordAt hw (i := 1) (by omega)
  rw [hk] at x0
  rw [hl] at *
  have x0 := (hT.below.cell (cell_lt x0)).trans x0
  have x1 := (hT.below.cell (cell_lt x1)).trans x1
  have C1 := Aft.cell x1
  have C2 := Aft.cell (cellOf hT.b0 0 rfl)
  have C3 := Aft.cell (cellOf hT.b1 0 rfl)
  have p0 := cellOf hT.b0 0 rfl
  have p1 := cellOf hT.b1 0 rfl
  have HN := Lib.hid (number_ok _ hsz hv)
  have HT := Lib.hid hT
  have HS := Lib.hid hs
  unfold wSheet at x0
  clear hT hs hw hk hv
  generalize ws[1]?.getD ByteArray.empty = x at *
  go_enter Tryz.func82, Tryz.ntmps82
  go_upto_region 1 with (fail)
  rw [← hW2]
  clear hW2
  go_upto_region 6 with (first | (refine wpList_mkfn2 rfl _ _ rfl (cs := #[.pointer (some ⟨w.heap.size + 1, 0, none⟩), .pointer (some ⟨w.heap.size, 0, none⟩)]) rfl ?_; simp only [Act.put, List.setIfInBounds_toArray, List.set_cons_succ, List.set_cons_zero]) | (go_at_call 85; refine (must_true _).mono ?_; rintro e wm ⟨rfl, hw⟩; subst wm; dsimp only))
  refine region_quiet_tail (C := fun w' => ∃ x : Aft W2, w' = x.1) 7 (by kernel_rfl) (by kernel_rfl) ⟨⟨W2.drew, (Below.refl _ _).drew⟩, rfl⟩ ?_
  simp only [List.take_succ_cons, List.take_zero, List.drop_succ_cons, List.drop_zero]
  repeat (first | go_big_quiet_step ((go_at_call 112; exact Aft.call (HN.out _))) | quiet_step ((go_at_call 112; exact Aft.call (HN.out _))))
  refine wpQuiet_nil ?_
  rintro wx ⟨⟨_, hbx⟩, rfl⟩
  have hwx := HT.out.below.trans (hbx.mono HT.out.below.size)
  have rx := (hwx.block _ (lt_of_block HS.out.row)).trans HS.out.row
  have qx := cellOf rx 0 rfl
  have fx : wx.frozen? ⟨H, 0, none⟩ = false := by simp [World.frozen?, rx]
  clear C1 C2 C3 p0 p1 x0 x1
  go_wp2
  go_end0
  exact ⟨rfl, (HS.out.below hwx).setIv v, keep_set hwx, (hwx.mono (Nat.zero_le _)).setCell (Nat.zero_le _) _⟩
end Go.Proofs.YtajdgdelhlfniaaGreatDoor
