/- Walks of the layer order: what Check asks of hours and of parts' names. -/
import Derived.Test.YtkmaapkbonkjfaaW4
namespace Go.Proofs.Ytkmaapkbonkjfaa
open Go.RowKit

theorem hour1_any (n : Int) (w : World) : Calls Try.prog 46 #[.int .i64 n] w fun e w' => e = .returned (.bool (outB 0 24 [n])) ∧ Below w.heap.size w w' := by
  obtain ⟨W1, hW1, r1, z1, b1⟩ := box_any w #[.int .i64 n] 3
  have hv := Rd.one w n
  rw [← hW1] at hv
  have h := Lib.hid (out_any 0 24 hv (by omega))
  clear hv
  go_enter Try.func46, Try.ntmps46
  go_wp2_with (go_at_call 44; rw [← hW1]; refine h.out.mono ?_; rintro e w' ⟨rfl, hb⟩)
  go_ret
  exact ⟨rfl, b1.trans (hb.mono (by omega))⟩

theorem idxHour_any {B : Nat} {w : World} {v : Value} {xs : List Int} (hv : Rd IntAt 1 B w v xs) (hB : B ≤ w.heap.size) :
    Calls Try.prog 45 #[v, .func (.func 46) #[] #[]] w fun e w' => e = .returned (.int .i64 (idxOf xs.length fun i => outB 0 24 [xs[i]?.getD 0])) ∧ Below w.heap.size w w' := by
  have hlen := hv.len
  obtain ⟨A, cap, rfl, h1, h2, _⟩ := id hv
  go_enter Try.func45, Try.ntmps45
  go_wp2
  go_loopw [8] (fun i wr => ∃ k : Nat, k ≤ xs.length ∧ i = .int .i64 k ∧ (∀ j, j < k → outB 0 24 [xs[j]?.getD 0] = false) ∧ Below w.heap.size w wr) (fun i _ => xs.length - (intOf i).toNat)
  case atStart => exact ⟨0, Nat.zero_le _, rfl, fun _ h => by omega, Below.refl _ _⟩
  case round =>
    obtain ⟨k, hk, rfl, hno, hbr⟩ := hrel
    have Hno := Lib.hid hno
    have hvr := hv.below (hbr.mono hB)
    clear hno hv
    by_cases hlt : k < xs.length
    · obtain ⟨ad, rfl, _, hc⟩ := hvr.int hlt
      clear hvr
      by_cases ho : outB 0 24 [xs[k]?.getD 0] = true
      · have hr := Lib.hid (idxOf_some (fst?_some hlt (p := fun i => outB 0 24 [xs[i]?.getD 0]) ho Hno.out))
        generalize xs[k]?.getD 0 = x at ho hc
        go_wp2_with (go_at_call 46; refine (hour1_any _ _).mono ?_; rintro e w1 ⟨rfl, hb1⟩)
        go_ret
        exact ⟨ret_int hr.out.symm, hbr.trans (hb1.mono hbr.size)⟩
      · have ho := Bool.eq_false_iff.2 ho
        have Ho := Lib.hid ho
        generalize xs[k]?.getD 0 = x at ho hc
        go_wp2_with (go_at_call 46; refine (hour1_any _ _).mono ?_; rintro e w1 ⟨rfl, hb1⟩)
        go_roundw
        case rel => exact ⟨k + 1, by omega, by go_num, fun j hj => by
          by_cases h : j < k
          · exact Hno.out j h
          · obtain rfl : j = k := by omega
            exact Ho.out, hbr.trans (hb1.mono hbr.size)⟩
        case measure => simp [intOf]; omega
    · have hr := Lib.hid (idxOf_none (fst?_none (n := xs.length) (p := fun i => outB 0 24 [xs[i]?.getD 0]) (fun j hj => Hno.out j (by omega))))
      clear hvr
      go_wp2
      go_ret
      exact ⟨ret_int hr.out.symm, hbr⟩

theorem same1_any (x p : PartR) (a : Addr) (w : World) (ha : w.cell? a = some (.string p.name)) :
    Calls Try.prog 49 #[.agg #[.string x.name, .int .i64 x.batch, .int .i64 x.long, .int .i64 x.stock], .pointer (some a)] w fun e w' => e = .returned (.bool (x.name.toList == p.name.toList)) ∧ Below w.heap.size w w' := by
  obtain ⟨W1, hW1, r1, z1, b1⟩ := box_any w #[.string x.name, .int .i64 x.batch, .int .i64 x.long, .int .i64 x.stock] 57
  have c0 := cellOf r1 0 rfl
  have ca := (b1.cell (cell_lt ha)).trans ha
  go_enter Try.func49, Try.ntmps49
  go_upto_region 1 with (fail)
  rw [← hW1]
  clear hW1
  go_wp2
  go_ret
  exact ⟨rfl, b1⟩

theorem idxSame_any {B : Nat} {w : World} {v : Value} {xs : List PartR} (p : PartR) (a : Addr) (hv : Rd PartAt 4 B w v xs) (ha : w.cell? a = some (.string p.name)) (hB : B ≤ w.heap.size) :
    Calls Try.prog 77 #[v, .func (.func 49) #[] #[.pointer (some a)]] w fun e w' => e = .returned (.int .i64 (idxOf xs.length fun i => (xs[i]?.getD default).name.toList == p.name.toList)) ∧ Below w.heap.size w w' := by
  have hlen := hv.len
  obtain ⟨A, cap, rfl, h1, h2, _⟩ := id hv
  go_enter Try.func77, Try.ntmps77
  go_wp2
  go_loopw [8] (fun i wr => ∃ k : Nat, k ≤ xs.length ∧ i = .int .i64 k ∧ (∀ j, j < k → ((xs[j]?.getD default).name.toList == p.name.toList) = false) ∧ Below w.heap.size w wr) (fun i _ => xs.length - (intOf i).toNat)
  case atStart => exact ⟨0, Nat.zero_le _, rfl, fun _ h => by omega, Below.refl _ _⟩
  case round =>
    obtain ⟨k, hk, rfl, hno, hbr⟩ := hrel
    have Hno := Lib.hid hno
    have hvr := hv.below (hbr.mono hB)
    have har := (hbr.cell (cell_lt ha)).trans ha
    clear hno hv
    by_cases hlt : k < xs.length
    · obtain ⟨ad, rfl, _, p0, p1, p2, p3⟩ := hvr.part hlt
      clear hvr
      by_cases ho : ((xs[k]?.getD default).name.toList == p.name.toList) = true
      · have hr := Lib.hid (idxOf_some (fst?_some hlt (p := fun i => (xs[i]?.getD default).name.toList == p.name.toList) ho Hno.out))
        generalize xs[k]?.getD default = x at ho p0 p1 p2 p3
        go_wp2_with (go_at_call 49; refine (same1_any x p a _ har).mono ?_; rintro e w1 ⟨rfl, hb1⟩)
        go_ret
        exact ⟨ret_int hr.out.symm, hbr.trans (hb1.mono hbr.size)⟩
      · have ho := Bool.eq_false_iff.2 ho
        have Ho := Lib.hid ho
        generalize xs[k]?.getD default = x at ho p0 p1 p2 p3
        go_wp2_with (go_at_call 49; refine (same1_any x p a _ har).mono ?_; rintro e w1 ⟨rfl, hb1⟩)
        go_roundw
        case rel => exact ⟨k + 1, by omega, by go_num, fun j hj => by
          by_cases h : j < k
          · exact Hno.out j h
          · obtain rfl : j = k := by omega
            exact Ho.out, hbr.trans (hb1.mono hbr.size)⟩
        case measure => simp [intOf]; omega
    · have hr := Lib.hid (idxOf_none (fst?_none (n := xs.length) (p := fun i => (xs[i]?.getD default).name.toList == p.name.toList) (fun j hj => Hno.out j (by omega))))
      clear hvr
      go_wp2
      go_ret
      exact ⟨ret_int hr.out.symm, hbr⟩

theorem contSame_any {B : Nat} {w : World} {v : Value} {xs : List PartR} (p : PartR) (a : Addr) (hv : Rd PartAt 4 B w v xs) (ha : w.cell? a = some (.string p.name)) (hB : B ≤ w.heap.size) :
    Calls Try.prog 48 #[v, .func (.func 49) #[] #[.pointer (some a)]] w fun e w' => e = .returned (.bool (xs.any fun x => x.name.toList == p.name.toList)) ∧ Below w.heap.size w w' := by
  have e := Lib.hid (idxOf_any xs (fun x => x.name.toList == p.name.toList) (fun i => (xs[i]?.getD default).name.toList == p.name.toList) fun i hi => by simp [List.getElem?_eq_getElem hi])
  have h := Lib.hid (idxSame_any p a hv ha hB)
  generalize (idxOf xs.length fun i => (xs[i]?.getD default).name.toList == p.name.toList) = n at *
  go_enter Try.func48, Try.ntmps48
  go_wp2_with (go_at_call 77; refine h.out.mono ?_; rintro e w' ⟨rfl, hb⟩)
  go_ret
  exact ⟨ret_bool e.out, hb⟩
end Go.Proofs.Ytkmaapkbonkjfaa
