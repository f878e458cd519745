/- Walks of the layer sheet: the reference's Ints, Words, Spans. Walks of the layer sheet: the reference's Same, Has, Inside. -/
import Derived.Test.YtajdgdelhlfniaaGreatDoorH27
import Derived.WalkKit
import Derived.Deep.Quiet
set_option linter.unusedSimpArgs false
set_option linter.unusedVariables false
namespace Go.Proofs.YtajdgdelhlfniaaGreatDoor
open Go.RowKit

theorem retB {a b : Bool} (h : a = b) : Ending.returned (.bool a) = .returned (.bool b) := by rw [h]
theorem str_ne {x y : ByteArray} (h : ¬ x = y) : (x.toList == y.toList) = false := by
  rw [ByteArray.toList_eq, ByteArray.toList_eq]
  refine beq_false_of_ne fun e => h ?_
  obtain ⟨⟨d⟩⟩ := x
  obtain ⟨⟨d'⟩⟩ := y
  simp at e
  rw [e]

set_option maxRecDepth 100000 in
theorem ints_any {B B' : Nat} {w : World} {v v' : Value} {xs ys : List Int} (hx : Rd IntAt 1 B w v xs) (hy : Rd IntAt 1 B' w v' ys) (_hn : xs.length ≤ 1000000) :
    Calls Tryz.prog 30 #[v, v'] w fun e w' => e = .returned (.bool (decide (xs = ys))) ∧ Qt w w' := by
  obtain ⟨A, c, rfl, _⟩ := id hx
  obtain ⟨A', c', rfl, _⟩ := id hy
  by_cases hlen : xs.length = ys.length
  · have hne : ((xs.length : Int) != (ys.length : Int)) = false := by simp [hlen]
    have Hl := Lib.hid hlen
    clear hlen
    go_enter Tryz.func30, Tryz.ntmps30
    go_wp2
    go_loopw [5] (fun i wr => ∃ k : Nat, k ≤ xs.length ∧ i = .int .i64 k ∧ (∀ j, j < k → xs[j]? = ys[j]?) ∧ Qt w wr) (fun i _ => xs.length - (intOf i).toNat)
    case atStart => exact ⟨0, Nat.zero_le _, rfl, fun j hj => by omega, Qt.refl _⟩
    case round =>
      obtain ⟨k, hk, rfl, hall, hq⟩ := hrel
      by_cases h1 : k < xs.length
      · obtain ⟨ad, rfl, _, d0⟩ := (hx.qt hq).int h1
        have hl := Hl.out
        obtain ⟨ad', rfl, _, e0⟩ := (hy.qt hq).int (i := k) (by omega)
        have hk2 : k < ys.length := by omega
        clear hl
        have HA := Lib.hid hall
        have HQ := Lib.hid hq
        have Hx := Lib.hid (show xs[k]? = some (xs[k]?.getD 0) by simp [h1])
        have Hy := Lib.hid (show ys[k]? = some (ys[k]?.getD 0) by simp [hk2])
        clear hall hq
        generalize xs[k]?.getD 0 = x at *
        generalize ys[k]?.getD 0 = y at *
        by_cases hxy : x = y
        · have Hxy := Lib.hid hxy
          have hb : (x != y) = false := by simp [hxy]
          clear hxy
          go_wp2
          go_quiet (fail)
          go_wp2
          go_roundw
          case rel => exact ⟨k + 1, by omega, by go_num, fun j hj => by
            by_cases hjk : j < k
            · exact HA.out j hjk
            · obtain rfl : j = k := by omega
              rw [Hx.out, Hy.out]
              rw [Hxy.out], HQ.out.drewN _⟩
          case measure => simp [intOf]; omega
        · have Hxy := Lib.hid hxy
          have hb : (x != y) = true := by simpa using hxy
          clear hxy
          go_wp2
          go_quiet (fail)
          go_wp2
          go_ret
          refine ⟨retB ?_, HQ.out.drewN _⟩
          symm
          refine decide_eq_false fun e => Hxy.out ?_
          rw [e] at Hx
          exact Option.some.inj (Hx.out.symm.trans Hy.out)
      · have hkk : k = xs.length := by omega
        subst hkk
        have HA := Lib.hid hall
        have HQ := Lib.hid hq
        clear hall hq
        go_wp2
        go_ret
        refine ⟨retB ?_, HQ.out⟩
        symm
        rw [decide_eq_true_eq]
        apply List.ext_getElem?
        intro j
        by_cases hj : j < xs.length
        · exact HA.out j hj
        · have := Hl.out
          rw [List.getElem?_eq_none (by omega), List.getElem?_eq_none (by omega)]
  · have hne : ((xs.length : Int) != (ys.length : Int)) = true := by simpa using fun h => hlen (by exact_mod_cast h)
    have Hf := Lib.hid (show decide (xs = ys) = false from decide_eq_false fun e => hlen (by rw [e]))
    clear hlen
    go_enter Tryz.func30, Tryz.ntmps30
    go_wp2
    go_ret
    exact ⟨retB Hf.out.symm, Qt.refl _⟩

set_option maxRecDepth 100000 in
theorem words_any {B B' : Nat} {w : World} {v v' : Value} {xs ys : List ByteArray} (hx : Rd StrAt 1 B w v xs) (hy : Rd StrAt 1 B' w v' ys) (_hn : xs.length ≤ 1000000) :
    Calls Tryz.prog 89 #[v, v'] w fun e w' => e = .returned (.bool (decide (xs = ys))) ∧ Qt w w' := by
  obtain ⟨A, c, rfl, _⟩ := id hx
  obtain ⟨A', c', rfl, _⟩ := id hy
  by_cases hlen : xs.length = ys.length
  · have hne : ((xs.length : Int) != (ys.length : Int)) = false := by simp [hlen]
    have Hl := Lib.hid hlen
    clear hlen
    go_enter Tryz.func89, Tryz.ntmps89
    go_wp2
    go_loopw [5] (fun i wr => ∃ k : Nat, k ≤ xs.length ∧ i = .int .i64 k ∧ (∀ j, j < k → xs[j]? = ys[j]?) ∧ Qt w wr) (fun i _ => xs.length - (intOf i).toNat)
    case atStart => exact ⟨0, Nat.zero_le _, rfl, fun j hj => by omega, Qt.refl _⟩
    case round =>
      obtain ⟨k, hk, rfl, hall, hq⟩ := hrel
      by_cases h1 : k < xs.length
      · obtain ⟨ad, rfl, _, d0⟩ := (hx.qt hq).str h1
        have hl := Hl.out
        obtain ⟨ad', rfl, _, e0⟩ := (hy.qt hq).str (i := k) (by omega)
        have hk2 : k < ys.length := by omega
        clear hl
        have HA := Lib.hid hall
        have HQ := Lib.hid hq
        have Hx := Lib.hid (show xs[k]? = some (xs[k]?.getD ByteArray.empty) by simp [h1])
        have Hy := Lib.hid (show ys[k]? = some (ys[k]?.getD ByteArray.empty) by simp [hk2])
        clear hall hq
        generalize xs[k]?.getD ByteArray.empty = x at *
        generalize ys[k]?.getD ByteArray.empty = y at *
        by_cases hxy : x = y
        · have Hxy := Lib.hid hxy
          have hb : (x.toList == y.toList) = true := by rw [hxy]; exact beq_self_eq_true _
          have hb2 : (x.toList != y.toList) = false := by rw [bne, hb]; rfl
          clear hxy
          go_wp2
          go_quiet (fail)
          go_wp2
          go_roundw
          case rel => exact ⟨k + 1, by omega, by go_num, fun j hj => by
            by_cases hjk : j < k
            · exact HA.out j hjk
            · obtain rfl : j = k := by omega
              rw [Hx.out, Hy.out]
              rw [Hxy.out], HQ.out.drewN _⟩
          case measure => simp [intOf]; omega
        · have Hxy := Lib.hid hxy
          have hb : (x.toList == y.toList) = false := str_ne hxy
          have hb2 : (x.toList != y.toList) = true := by rw [bne, hb]; rfl
          clear hxy
          go_wp2
          go_quiet (fail)
          go_wp2
          go_ret
          refine ⟨retB ?_, HQ.out.drewN _⟩
          symm
          refine decide_eq_false fun e => Hxy.out ?_
          rw [e] at Hx
          exact Option.some.inj (Hx.out.symm.trans Hy.out)
      · have hkk : k = xs.length := by omega
        subst hkk
        have HA := Lib.hid hall
        have HQ := Lib.hid hq
        clear hall hq
        go_wp2
        go_ret
        refine ⟨retB ?_, HQ.out⟩
        symm
        rw [decide_eq_true_eq]
        apply List.ext_getElem?
        intro j
        by_cases hj : j < xs.length
        · exact HA.out j hj
        · have := Hl.out
          rw [List.getElem?_eq_none (by omega), List.getElem?_eq_none (by omega)]
  · have hne : ((xs.length : Int) != (ys.length : Int)) = true := by simpa using fun h => hlen (by exact_mod_cast h)
    have Hf := Lib.hid (show decide (xs = ys) = false from decide_eq_false fun e => hlen (by rw [e]))
    clear hlen
    go_enter Tryz.func89, Tryz.ntmps89
    go_wp2
    go_ret
    exact ⟨retB Hf.out.symm, Qt.refl _⟩

set_option maxRecDepth 100000 in
theorem spans_any {B B' : Nat} {w : World} {v v' : Value} {xs ys : List (Int × Int)} (hx : Rd SpanAt 2 B w v xs) (hy : Rd SpanAt 2 B' w v' ys) (_hn : xs.length ≤ 1000000) :
    Calls Tryz.prog 25 #[v, v'] w fun e w' => e = .returned (.bool (decide (xs = ys))) ∧ Qt w w' := by
  obtain ⟨A, c, rfl, _⟩ := id hx
  obtain ⟨A', c', rfl, _⟩ := id hy
  by_cases hlen : xs.length = ys.length
  · have hne : ((xs.length : Int) != (ys.length : Int)) = false := by simp [hlen]
    have Hl := Lib.hid hlen
    clear hlen
    go_enter Tryz.func25, Tryz.ntmps25
    go_wp2
    go_loopw [5] (fun i wr => ∃ k : Nat, k ≤ xs.length ∧ i = .int .i64 k ∧ (∀ j, j < k → xs[j]? = ys[j]?) ∧ Qt w wr) (fun i _ => xs.length - (intOf i).toNat)
    case atStart => exact ⟨0, Nat.zero_le _, rfl, fun j hj => by omega, Qt.refl _⟩
    case round =>
      obtain ⟨k, hk, rfl, hall, hq⟩ := hrel
      by_cases h1 : k < xs.length
      · obtain ⟨ad, rfl, _, d0, d1⟩ := (hx.qt hq).span h1
        have hl := Hl.out
        obtain ⟨ad', rfl, _, e0, e1⟩ := (hy.qt hq).span (i := k) (by omega)
        have hk2 : k < ys.length := by omega
        clear hl
        have HA := Lib.hid hall
        have HQ := Lib.hid hq
        have Hx := Lib.hid (show xs[k]? = some (xs[k]?.getD default) by simp [h1])
        have Hy := Lib.hid (show ys[k]? = some (ys[k]?.getD default) by simp [hk2])
        clear hall hq
        generalize xs[k]?.getD default = x at *
        generalize ys[k]?.getD default = y at *
        obtain ⟨x1, x2⟩ := x
        obtain ⟨y1, y2⟩ := y
        simp only at d0 d1 e0 e1
        by_cases hxy : x1 = y1 ∧ x2 = y2
        · have Hxy := Lib.hid hxy
          obtain ⟨g1, g2⟩ := id hxy
          have hb1 : (x1 == y1) = true := by simp [g1]
          have hb2 : (x2 == y2) = true := by simp [g2]
          clear g1 g2
          clear hxy
          go_wp2
          go_quiet (fail)
          go_wp2
          go_roundw
          case rel => exact ⟨k + 1, by omega, by go_num, fun j hj => by
            by_cases hjk : j < k
            · exact HA.out j hjk
            · obtain rfl : j = k := by omega
              rw [Hx.out, Hy.out]
              obtain ⟨g1, g2⟩ := Hxy.out; rw [g1, g2], HQ.out.drewN _⟩
          case measure => simp [intOf]; omega
        · have Hxy := Lib.hid hxy
          by_cases g1 : x1 = y1
          rotate_left
          · have hb1 : (x1 == y1) = false := by simp [g1]
            clear hxy g1
            go_wp2
            go_quiet (fail)
            go_wp2
            go_ret
            refine ⟨retB ?_, HQ.out.drewN _⟩
            symm
            refine decide_eq_false fun e => Hxy.out ?_
            rw [e] at Hx
            exact (fun e => by simpa using e) (Option.some.inj (Hx.out.symm.trans Hy.out))
          have hb1 : (x1 == y1) = true := by simp [g1]
          have hb2 : (x2 == y2) = false := by simpa using fun h => hxy ⟨g1, h⟩
          clear hxy g1
          go_wp2
          go_quiet (fail)
          go_wp2
          go_ret
          refine ⟨retB ?_, HQ.out.drewN _⟩
          symm
          refine decide_eq_false fun e => Hxy.out ?_
          rw [e] at Hx
          exact (fun e => by simpa using e) (Option.some.inj (Hx.out.symm.trans Hy.out))
      · have hkk : k = xs.length := by omega
        subst hkk
        have HA := Lib.hid hall
        have HQ := Lib.hid hq
        clear hall hq
        go_wp2
        go_ret
        refine ⟨retB ?_, HQ.out⟩
        symm
        rw [decide_eq_true_eq]
        apply List.ext_getElem?
        intro j
        by_cases hj : j < xs.length
        · exact HA.out j hj
        · have := Hl.out
          rw [List.getElem?_eq_none (by omega), List.getElem?_eq_none (by omega)]
  · have hne : ((xs.length : Int) != (ys.length : Int)) = true := by simpa using fun h => hlen (by exact_mod_cast h)
    have Hf := Lib.hid (show decide (xs = ys) = false from decide_eq_false fun e => hlen (by rw [e]))
    clear hlen
    go_enter Tryz.func25, Tryz.ntmps25
    go_wp2
    go_ret
    exact ⟨retB Hf.out.symm, Qt.refl _⟩
end Go.Proofs.YtajdgdelhlfniaaGreatDoor
namespace Go.Proofs.YtajdgdelhlfniaaGreatDoor
open Go.RowKit

/-- two sheets are equal -/
def EqS (a b : ShR) : Prop := a.iv = b.iv ∧ a.pts = b.pts ∧ a.notes = b.notes
instance (a b : ShR) : Decidable (EqS a b) := by unfold EqS; exact inferInstance
theorem eqS_iff {a b : ShR} : EqS a b ↔ a = b := by
  obtain ⟨x1, x2, x3⟩ := a
  obtain ⟨y1, y2, y3⟩ := b
  simp [EqS]

set_option maxRecDepth 100000 in
set_option maxHeartbeats 1000000 in
theorem same_any {B B' : Nat} {w : World} {v v' : Value} {a b : ShR} (ha : RdSh B w v a) (hb : RdSh B' w v' b) (hB : B ≤ w.heap.size) (hB' : B' ≤ w.heap.size) (hn : a.pts.length ≤ 1000000) (hn2 : a.notes.length ≤ 1000000) :
    Calls Tryz.prog 41 #[v, v'] w fun e w' => e = .returned (.bool (decide (EqS a b))) ∧ Below w.heap.size w w' := by
  obtain ⟨vp, vn, rfl, hp, hno⟩ := id ha
  obtain ⟨vp', vn', rfl, hp', hno'⟩ := id hb
  obtain ⟨A, c, rfl, _⟩ := id hno
  obtain ⟨A', c', rfl, _⟩ := id hno'
  obtain ⟨W1, hW1, r1, z1, b1⟩ := box_any w #[.int .i64 a.iv, vp, .slice A a.notes.length c] 25
  obtain ⟨W2, hW2, r2, z2, b2⟩ := box_any W1 #[.int .i64 b.iv, vp', .slice A' b.notes.length c'] 25
  have b12 : Below w.heap.size w W2 := b1.trans (b2.mono b1.size)
  have r1' := (b2.block _ (by omega)).trans r1
  rw [z1] at r2
  have m0 := cellOf r1' 0 rfl
  have m1 := cellOf r1' 1 rfl
  have m2 := cellOf r1' 2 rfl
  have n0 := cellOf r2 0 rfl
  have n1 := cellOf r2 1 rfl
  have n2 := cellOf r2 2 rfl
  have R1 := Lib.hid r1'
  have R2 := Lib.hid r2
  have B12 := Lib.hid b12
  have hxn := Lib.hid (hno.below (b12.mono hB))
  have hyn := Lib.hid (hno'.below (b12.mono hB'))
  have HW := Lib.hid (words_any (hp.below (b12.mono hB)) (hp'.below (b12.mono hB')) hn)
  by_cases hiv : a.iv = b.iv
  rotate_left
  · have hf : (a.iv != b.iv) = true := by simpa using hiv
    have HR := Lib.hid (show decide (EqS a b) = false from decide_eq_false fun h => hiv h.1)
    clear hiv hp hno hp' hno' ha hb b1 b2 b12 r1 r1' r2 z1 z2
    go_enter Tryz.func41, Tryz.ntmps41
    go_upto_region 1 with (fail)
    rw [← hW1, ← hW2]
    clear hW1 hW2
    go_wp2
    go_ret
    exact ⟨retB HR.out.symm, B12.out⟩
  have hf : (a.iv != b.iv) = false := by simp [hiv]
  have HIv := Lib.hid hiv
  by_cases hpt : a.pts = b.pts
  rotate_left
  · have HR := Lib.hid (show decide (EqS a b) = false from decide_eq_false fun h => hpt h.2.1)
    rw [decide_eq_false hpt] at HW
    clear hpt hiv hp hno hp' hno' ha hb b1 b2 b12 r1 r1' r2 z1 z2
    go_enter Tryz.func41, Tryz.ntmps41
    go_upto_region 1 with (fail)
    rw [← hW1, ← hW2]
    clear hW1 hW2
    go_wp2_with (go_at_call 89; refine HW.out.mono ?_; rintro e wq ⟨rfl, hq⟩)
    go_ret
    exact ⟨retB HR.out.symm, B12.out.trans ((hq.below _).mono B12.out.size)⟩
  rw [decide_eq_true hpt] at HW
  have HPt := Lib.hid hpt
  have HR := Lib.hid (show decide (EqS a b) = decide (a.notes = b.notes) by unfold EqS; simp [hiv, hpt])
  clear hpt hiv hp hno hp' hno' ha hb b1 b2 b12 r1 r1' r2 z1 z2
  rw [HR.out]
  generalize a.notes = xs at *
  generalize b.notes = ys at *
  by_cases hlen : xs.length = ys.length
  rotate_left
  · have hne : ((xs.length : Int) != (ys.length : Int)) = true := by simpa using fun h => hlen (by exact_mod_cast h)
    have HF := Lib.hid (show decide (xs = ys) = false from decide_eq_false fun h => hlen (by rw [h]))
    clear hlen
    go_enter Tryz.func41, Tryz.ntmps41
    go_upto_region 1 with (fail)
    rw [← hW1, ← hW2]
    clear hW1 hW2
    go_wp2_with (go_at_call 89; refine HW.out.mono ?_; rintro e wq ⟨rfl, hq⟩; have m2 := (hq.cell m2 : wq.cell? _ = _); have n2 := (hq.cell n2 : wq.cell? _ = _))
    go_ret
    exact ⟨retB HF.out.symm, B12.out.trans ((hq.below _).mono B12.out.size)⟩
  have hne : ((xs.length : Int) != (ys.length : Int)) = false := by simp [hlen]
  have Hl := Lib.hid hlen
  clear hlen
  go_enter Tryz.func41, Tryz.ntmps41
  go_upto_region 1 with (fail)
  rw [← hW1, ← hW2]
  clear hW1 hW2
  go_wp2_with (go_at_call 89; refine HW.out.mono ?_; rintro e wq ⟨rfl, hq⟩; have m2 := (hq.cell m2 : wq.cell? _ = _); have n2 := (hq.cell n2 : wq.cell? _ = _))
  have Hq := Lib.hid hq
  clear hq m0 m1 m2 n0 n1 n2
  go_loopw [5] (fun i wr => ∃ k : Nat, k ≤ xs.length ∧ i = .int .i64 k ∧ (∀ j, j < k → xs[j]? = ys[j]?) ∧ Qt W2 wr) (fun i _ => xs.length - (intOf i).toNat)
  case atStart => exact ⟨0, Nat.zero_le _, rfl, fun j hj => by omega, Hq.out⟩
  case round =>
      obtain ⟨k, hk, rfl, hall, hq⟩ := hrel
      have m2 := hq.cell (cellOf R1.out 2 rfl)
      have n2 := hq.cell (cellOf R2.out 2 rfl)
      by_cases h1 : k < xs.length
      · obtain ⟨ad, rfl, _, d0, d1, d2, d3, d4⟩ := (hxn.out.qt hq).note h1
        have hl := Hl.out
        obtain ⟨ad', rfl, _, e0, e1, e2, e3, e4⟩ := (hyn.out.qt hq).note (i := k) (by omega)
        have hk2 : k < ys.length := by omega
        clear hl
        have HA := Lib.hid hall
        have HQ := Lib.hid hq
        have Hx := Lib.hid (show xs[k]? = some (xs[k]?.getD default) by simp [h1])
        have Hy := Lib.hid (show ys[k]? = some (ys[k]?.getD default) by simp [hk2])
        clear hall hq
        generalize xs[k]?.getD default = x at *
        generalize ys[k]?.getD default = y at *
        obtain ⟨x1, x2, x3, x4, x5⟩ := x
        obtain ⟨y1, y2, y3, y4, y5⟩ := y
        simp only at d0 d1 d2 d3 d4 e0 e1 e2 e3 e4
        by_cases hxy : x1 = y1 ∧ x2 = y2 ∧ x3 = y3 ∧ x4 = y4 ∧ x5 = y5
        · have Hxy := Lib.hid hxy
          obtain ⟨g1, g2, g3, g4, g5⟩ := id hxy
          have hb1 : (x1 == y1) = true := by simp [g1]
          have hb2 : (x2 == y2) = true := by simp [g2]
          have hb3 : (x3 == y3) = true := by simp [g3]
          have hb4 : (x4 == y4) = true := by simp [g4]
          have hb5 : (x5 == y5) = true := by simp [g5]
          clear g1 g2 g3 g4 g5
          clear hxy
          go_wp2
          go_quiet (fail)
          go_wp2
          go_roundw
          case rel => exact ⟨k + 1, by omega, by go_num, fun j hj => by
            by_cases hjk : j < k
            · exact HA.out j hjk
            · obtain rfl : j = k := by omega
              obtain ⟨g1, g2, g3, g4, g5⟩ := Hxy.out
              rw [Hx.out, Hy.out, g1, g2, g3, g4, g5], HQ.out.drewN _⟩
          case measure => simp [intOf]; omega
        · have Hxy := Lib.hid hxy
          by_cases g1 : x1 = y1
          rotate_left
          · have hb1 : (x1 == y1) = false := by simp [g1]
            clear hxy g1
            go_wp2
            go_quiet (fail)
            go_wp2
            go_ret
            refine ⟨retB ?_, B12.out.trans (((HQ.out.drewN _).below _).mono B12.out.size)⟩
            symm
            refine decide_eq_false fun e => Hxy.out ?_
            rw [e] at Hx
            exact (fun e => by simpa using e) (Option.some.inj (Hx.out.symm.trans Hy.out))
          have hb1 : (x1 == y1) = true := by simp [g1]
          by_cases g2 : x2 = y2
          rotate_left
          · have hb2 : (x2 == y2) = false := by simp [g2]
            clear hxy g2
            go_wp2
            go_quiet (fail)
            go_wp2
            go_ret
            refine ⟨retB ?_, B12.out.trans (((HQ.out.drewN _).below _).mono B12.out.size)⟩
            symm
            refine decide_eq_false fun e => Hxy.out ?_
            rw [e] at Hx
            exact (fun e => by simpa using e) (Option.some.inj (Hx.out.symm.trans Hy.out))
          have hb2 : (x2 == y2) = true := by simp [g2]
          by_cases g3 : x3 = y3
          rotate_left
          · have hb3 : (x3 == y3) = false := by simp [g3]
            clear hxy g3
            go_wp2
            go_quiet (fail)
            go_wp2
            go_ret
            refine ⟨retB ?_, B12.out.trans (((HQ.out.drewN _).below _).mono B12.out.size)⟩
            symm
            refine decide_eq_false fun e => Hxy.out ?_
            rw [e] at Hx
            exact (fun e => by simpa using e) (Option.some.inj (Hx.out.symm.trans Hy.out))
          have hb3 : (x3 == y3) = true := by simp [g3]
          by_cases g4 : x4 = y4
          rotate_left
          · have hb4 : (x4 == y4) = false := by simp [g4]
            clear hxy g4
            go_wp2
            go_quiet (fail)
            go_wp2
            go_ret
            refine ⟨retB ?_, B12.out.trans (((HQ.out.drewN _).below _).mono B12.out.size)⟩
            symm
            refine decide_eq_false fun e => Hxy.out ?_
            rw [e] at Hx
            exact (fun e => by simpa using e) (Option.some.inj (Hx.out.symm.trans Hy.out))
          have hb4 : (x4 == y4) = true := by simp [g4]
          have hb5 : (x5 == y5) = false := by simpa using fun h => hxy ⟨g1, g2, g3, g4, h⟩
          clear hxy g1 g2 g3 g4
          go_wp2
          go_quiet (fail)
          go_wp2
          go_ret
          refine ⟨retB ?_, B12.out.trans (((HQ.out.drewN _).below _).mono B12.out.size)⟩
          symm
          refine decide_eq_false fun e => Hxy.out ?_
          rw [e] at Hx
          exact (fun e => by simpa using e) (Option.some.inj (Hx.out.symm.trans Hy.out))
      · have hkk : k = xs.length := by omega
        subst hkk
        have HA := Lib.hid hall
        have HQ := Lib.hid hq
        clear hall hq
        go_wp2
        go_ret
        refine ⟨retB ?_, B12.out.trans ((HQ.out.below _).mono B12.out.size)⟩
        symm
        rw [decide_eq_true_eq]
        apply List.ext_getElem?
        intro j
        by_cases hj : j < xs.length
        · exact HA.out j hj
        · have := Hl.out
          rw [List.getElem?_eq_none (by omega), List.getElem?_eq_none (by omega)]

set_option maxRecDepth 100000 in
theorem has_any {B : Nat} {w : World} {vt : Value} {t : List Int} (h : Rd IntAt 1 B w vt t) (hn : t.length ≤ 1000000) (x : Int) :
    Calls Tryz.prog 48 #[vt, .int .i64 x] w fun e w' => e = .returned (.bool (decide (x ∈ t))) ∧ w = w' := by
  obtain ⟨A, c, rfl, _⟩ := id h
  have H := Lib.hid h
  clear h
  go_enter Tryz.func48, Tryz.ntmps48
  go_wp2
  go_loop [5] (fun i => ∃ k : Nat, k ≤ t.length ∧ i = .int .i64 k ∧ ∀ j, j < k → t[j]?.getD 0 ≠ x) (fun i => t.length - (intOf i).toNat)
  case atStart => exact ⟨0, Nat.zero_le _, rfl, by intro j hj; omega⟩
  case round =>
    obtain ⟨k, hk, rfl, hno⟩ := hrel
    have Hno := Lib.hid hno
    clear hno
    by_cases hlt : k < t.length
    · obtain ⟨ad, rfl, _, d0⟩ := H.out.int hlt
      have hmem : t[k]?.getD 0 ∈ t := by rw [List.getElem?_eq_getElem hlt]; exact List.getElem_mem hlt
      have Hm := Lib.hid hmem
      clear hmem
      obtain ⟨y, hy⟩ : ∃ y, t[k]?.getD 0 = y := ⟨_, rfl⟩
      rw [hy] at d0 Hm
      have Hy := Lib.hid hy
      clear hy
      by_cases hx : y = x
      · subst hx
        go_wp2
        go_ret
        exact ⟨ret_bool (by simpa using Hm.out), rfl⟩
      · have hxb : (y == x) = false := beq_false_of_ne hx
        have Hx := Lib.hid hx
        clear hx
        go_wp2
        go_round
        case rel => exact ⟨k + 1, by omega, by go_num, fun j hj => by
          by_cases e : j < k
          · exact Hno.out j e
          · obtain rfl : j = k := by omega
            rw [Hy.out]; exact Hx.out⟩
        case measure => simp [intOf]; omega
    · have hkn : k = t.length := by omega
      subst hkn
      have hnm : x ∉ t := fun hm => by
        obtain ⟨j, hj, e⟩ := List.getElem_of_mem hm
        exact Hno.out j hj (by rw [List.getElem?_eq_getElem hj]; exact e)
      have Hnm := Lib.hid hnm
      clear hnm
      go_wp2
      go_ret
      exact ⟨ret_bool (by simpa using Hnm.out), rfl⟩
theorem inside_any {w : World} (n lo hi : Int) :
    Calls Tryz.prog 47 #[.int .i64 n, .agg #[.int .i64 lo, .int .i64 hi]] w fun e w' => e = .returned (.bool (inB n lo hi)) ∧ Below w.heap.size w w' := by
  obtain ⟨W1, hW1, r1, z1, b1⟩ := box_any w #[.int .i64 lo, .int .i64 hi] 40
  have c0 := cellOf r1 0 rfl
  have c1 := cellOf r1 1 rfl
  have HB := Lib.hid b1
  clear r1 z1 b1
  go_enter Tryz.func47, Tryz.ntmps47
  go_upto_region 1 with (fail)
  rw [← hW1]
  clear hW1
  go_wp2_with (go_at_call 62; refine (in_any _ _ _ _).mono ?_; rintro e w2 ⟨rfl, hw⟩; subst hw)
  go_ret
  exact ⟨rfl, HB.out⟩
end Go.Proofs.YtajdgdelhlfniaaGreatDoor
