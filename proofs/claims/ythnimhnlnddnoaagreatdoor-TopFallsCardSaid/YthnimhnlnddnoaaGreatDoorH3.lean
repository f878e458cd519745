/- Parts of the proof of TpP: Out, Name, Name2, Cnt. -/
import Derived.Test.YthnimhnlnddnoaaGreatDoorH2
import Derived.Deep.Cut
import Derived.Laws.RangeAny
import Derived.Laws.RangeString
import Derived.Maps.Own
import Derived.Maps.Views
import Derived.Maps.AppendAt
import Derived.OwnWalk
set_option linter.unusedSimpArgs false
set_option linter.unusedVariables false
set_option maxRecDepth 100000
set_option maxHeartbeats 8000000
namespace Go.Proofs.YthnimhnlnddnoaaGreatDoor
open Go.RowKit
theorem in_any (a b c : Int) (w : World) : Calls Tryz.prog 45 #[.int .i64 a, .int .i64 b, .int .i64 c] w fun e w' => e = .returned (.bool (inB a b c)) ∧ w' = w := by
 go_enter Tryz.func45, Tryz.ntmps45
 go_wp2
 all_goals go_ret
 all_goals exact ⟨ret_bool (by simp [inB]; omega), rfl⟩
def idxOf (n : Nat) (p : Nat → Bool) : Int := match fst? n p with | some k => (k : Int) | none => -1
theorem idxOf_some {n k : Nat} {p : Nat → Bool} (h : fst? n p = some k) : idxOf n p = k := by unfold idxOf; rw [h]
theorem idxOf_none {n : Nat} {p : Nat → Bool} (h : fst? n p = none) : idxOf n p = -1 := by unfold idxOf; rw [h]
theorem idxOf_any {α : Type} (l : List α) (p : α → Bool) (q : Nat → Bool) (h : ∀ i (hi : i < l.length), q i = p l[i]) : decide (0 ≤ idxOf l.length q) = l.any p := by
 cases e : fst? l.length q with
 | some k =>
  rw [idxOf_some e]
  have := fst?_spec e
  have h2 : l.any p = true := List.any_eq_true.2 ⟨l[k]'this.1, List.getElem_mem _, by rw [← h]; exact this.2.1⟩
  rw [h2]
  simp
 | none =>
  rw [idxOf_none e]
  have h2 : l.any p = false := by
   rw [List.any_eq_false]
   intro x hx
   obtain ⟨i, hi, rfl⟩ := List.getElem_of_mem hx
   have := fst?_none_spec e i hi
   rw [h i hi] at this
   simp [this]
  rw [h2]
  simp
def outP (lo hi n : Int) : Bool := decide (n < lo) || decide (hi < n)
theorem out1_any (n lo hi : Int) (a b : Addr) (w : World) (ha : w.cell? a = some (.int .i64 lo)) (hb : w.cell? b = some (.int .i64 hi)) :
  Calls Tryz.prog 96 #[.int .i64 n, .pointer (some a), .pointer (some b)] w fun e w' => e = .returned (.bool (outP lo hi n)) ∧ w' = w := by
 by_cases h : n < lo
 ·go_enter Tryz.func96, Tryz.ntmps96
  go_wp2
  go_ret
  exact ⟨ret_bool (by simp [outP, h]), rfl⟩
 ·by_cases h2 : hi < n
  ·go_enter Tryz.func96, Tryz.ntmps96
   go_wp2
   go_ret
   exact ⟨ret_bool (by simp [outP, h2]), rfl⟩
  ·go_enter Tryz.func96, Tryz.ntmps96
   go_wp2
   go_ret
   exact ⟨ret_bool (by simp [outP, h, h2]), rfl⟩
theorem idxOut_any {B : Nat} {w : World} {v : Value} {xs : List Int} (lo hi : Int) (a b : Addr) (hv : Rd IntAt 1 B w v xs) (ha : w.cell? a = some (.int .i64 lo)) (hb : w.cell? b = some (.int .i64 hi)) :
  Calls Tryz.prog 113 #[v, .func (.func 96) #[] #[.pointer (some a), .pointer (some b)]] w fun e w' => e = .returned (.int .i64 (idxOf xs.length fun i => outP lo hi (xs[i]?.getD 0))) ∧ w' = w := by
 have hlen := hv.len
 obtain ⟨A, cap, rfl, h1, h2, _⟩ := id hv
 go_enter Tryz.func113, Tryz.ntmps113
 go_wp2
 go_loop [8] (fun i => ∃ k : Nat, k ≤ xs.length ∧ i = .int .i64 k ∧ (∀ j, j < k → outP lo hi (xs[j]?.getD 0) = false)) (fun i => xs.length - (intOf i).toNat)
 case atStart => exact ⟨0, Nat.zero_le _, rfl, fun _ h => by omega⟩
 case round =>
  obtain ⟨k, hk, rfl, hno⟩ := hrel
  have Hno := Lib.hid hno
  clear hno
  by_cases hlt : k < xs.length
  ·obtain ⟨ad, rfl, _, hc⟩ := hv.int hlt
   clear hv
   by_cases ho : outP lo hi (xs[k]?.getD 0) = true
   ·have hr := Lib.hid (idxOf_some (fst?_some hlt (p := fun i => outP lo hi (xs[i]?.getD 0)) ho Hno.out))
    generalize xs[k]?.getD 0 = x at ho hc
    go_wp2_with (go_at_call 96; refine (out1_any _ lo hi a b _ ha hb).mono ?_; rintro e w' ⟨rfl, rfl⟩)
    go_ret
    exact ⟨ret_int hr.out.symm, rfl⟩
   ·have ho := Bool.eq_false_iff.2 ho
    have Ho := Lib.hid ho
    generalize xs[k]?.getD 0 = x at ho hc
    go_wp2_with (go_at_call 96; refine (out1_any _ lo hi a b _ ha hb).mono ?_; rintro e w' ⟨rfl, rfl⟩)
    go_round
    case rel => exact ⟨k + 1, by omega, by go_num, fun j hj => by
     by_cases h : j < k
     ·exact Hno.out j h
     ·obtain rfl : j = k := by omega
      exact Ho.out⟩
    case measure => simp [intOf]; omega
  ·have hr := Lib.hid (idxOf_none (fst?_none (n := xs.length) (p := fun i => outP lo hi (xs[i]?.getD 0)) (fun j hj => Hno.out j (by omega))))
   clear hv
   go_wp2
   go_ret
   exact ⟨ret_int hr.out.symm, rfl⟩
theorem outB_idx (lo hi : Int) (xs : List Int) : decide (0 ≤ idxOf xs.length fun i => outP lo hi (xs[i]?.getD 0)) = outB lo hi xs :=
 idxOf_any xs (outP lo hi) _ fun i hi => by simp [List.getElem?_eq_getElem hi]
theorem contOut_any {B : Nat} {w : World} {v : Value} {xs : List Int} (lo hi : Int) (a b : Addr) (hv : Rd IntAt 1 B w v xs) (ha : w.cell? a = some (.int .i64 lo)) (hb : w.cell? b = some (.int .i64 hi)) :
  Calls Tryz.prog 76 #[v, .func (.func 96) #[] #[.pointer (some a), .pointer (some b)]] w fun e w' => e = .returned (.bool (outB lo hi xs)) ∧ w' = w := by
 have e := Lib.hid (outB_idx lo hi xs)
 have h := Lib.hid (idxOut_any lo hi a b hv ha hb)
 generalize (idxOf xs.length fun i => outP lo hi (xs[i]?.getD 0)) = n at *
 go_enter Tryz.func76, Tryz.ntmps76
 go_wp2_with (go_at_call 113; refine h.out.mono ?_; rintro e w' ⟨rfl, rfl⟩)
 go_ret
 exact ⟨ret_bool e.out, rfl⟩
theorem out_any {B : Nat} {w : World} {v : Value} {xs : List Int} (lo hi : Int) (hv : Rd IntAt 1 B w v xs) (hB : B ≤ w.heap.size) :
  Calls Tryz.prog 59 #[.int .i64 lo, .int .i64 hi, v] w fun e w' => e = .returned (.bool (outB lo hi xs)) ∧ Below w.heap.size w w' := by
 obtain ⟨W1, hW1, r1, z1, b1⟩ := box_any w #[.int .i64 lo] 3
 obtain ⟨W2, hW2, r2, z2, b2⟩ := box_any W1 #[.int .i64 hi] 3
 have c1 := (b2.cell (p := ⟨w.heap.size, 0, none⟩) (by simp; omega)).trans (cellOf r1 0 rfl)
 have c2 := cellOf r2 0 rfl
 have hv2 := hv.below ((b1.mono hB).trans (b2.mono (by omega)))
 have hbb := b1.trans (b2.mono (by omega : w.heap.size ≤ W1.heap.size))
 rw [z1] at c2
 have h := Lib.hid (contOut_any lo hi _ _ hv2 c1 c2)
 go_enter Tryz.func59, Tryz.ntmps59
 go_upto_region 1 with (fail)
 rw [← hW1, ← hW2]
 clear hW1 hW2
 go_wp2_with (go_at_call 76; refine h.out.mono ?_; rintro e w' ⟨rfl, rfl⟩)
 go_ret
 exact ⟨rfl, hbb⟩
end Go.Proofs.YthnimhnlnddnoaaGreatDoor
namespace Go.Proofs.YthnimhnlnddnoaaGreatDoor
open Go.RowKit
def okAt (l : List UInt8) (k : Nat) : Bool := if k = 0 then loB (l.getD 0 0) else restB (l.getD k 0)
theorem nameL_iff (l : List UInt8) : nameL l = true ↔ 0 < l.length ∧ (∀ k, k < l.length → okAt l k = true) ∧ l.length ≤ 16 := by
 cases l with
 | nil => simp [nameL]
 | cons c r =>
  simp only [nameL, Bool.and_eq_true, decide_eq_true_eq, List.all_eq_true, List.length_cons]
  constructor
  ·rintro ⟨⟨h1, h2⟩, h3⟩
   refine ⟨by omega, fun k hk => ?_, h3⟩
   unfold okAt
   cases k with
   | zero => simpa using h1
   | succ k =>
    have h3 : k < r.length := by simpa using hk
    simpa [h3] using h2 _ (List.getElem_mem h3)
  ·rintro ⟨_, h2, h3⟩
   refine ⟨⟨by simpa [okAt] using h2 0 (by omega), fun x hx => ?_⟩, h3⟩
   obtain ⟨i, hi, rfl⟩ := List.getElem_of_mem hx
   have := h2 (i + 1) (by omega)
   simpa [okAt, hi] using this
theorem okAt_iff {l : List UInt8} {k : Nat} : okAt l k = true ↔ (97 ≤ (l.getD k 0).toNat ∧ (l.getD k 0).toNat ≤ 122) ∨ (0 < k ∧ ((48 ≤ (l.getD k 0).toNat ∧ (l.getD k 0).toNat ≤ 57) ∨ (l.getD k 0).toNat = 45)) := by
 unfold okAt
 split
 ·rename_i h; subst h; simp [loB]
 ·simp [loB, restB]; omega
theorem byte_at (s : ByteArray) {k : Nat} (h : k < s.size) : (s[k]'h).toNat = (s.data.toList.getD k 0).toNat := by
 have h' : k < s.data.size := h
 rw [getD_at (by simpa using h') 0]
 simp
 rfl
theorem name_any (s : ByteArray) (w : World) (hs : s.size ≤ 9223372036854775807) :
  Calls Tryz.prog 35 #[.string s] w fun e w' => e = .returned (.bool (nameB s)) ∧ Below w.heap.size w w' := by
 have hsz : s.data.toList.length = s.size := by simp
 have Hiff := Lib.hid (nameL_iff s.data.toList)
 rw [hsz] at Hiff
 have Hsz := Lib.hid hsz
 clear hsz
 go_enter Tryz.func35, Tryz.ntmps35
 go_wp2
 go_loopw [] (fun wr => ∃ k : Nat, k ≤ s.size ∧ wr = w.iter s k ∧ (∀ j, j < k → okAt s.data.toList j = true)) (fun wr => s.size - wr.iterPos w.heap.size)
 case atStart => exact ⟨0, by omega, rfl, fun _ h => by omega⟩
 case round =>
  obtain ⟨k, hk, rfl, hno⟩ := hrel
  have Hno := Lib.hid hno
  clear hno
  by_cases hlt : k < s.size
  ·have hb := byte_at s hlt
   have Hok := Lib.hid (okAt_iff (l := s.data.toList) (k := k))
   by_cases ha : (s[k]'hlt).toNat < 128
   ·have hn := fun ty => run_next_ascii (P := Tryz.prog) w s k ty hlt ha
    rw [hb] at ha
    rw [hb] at hn
    clear hb
    generalize s.data.toList.getD k 0 = c at ha hn Hok
    obtain ⟨b45, e45, f45⟩ : ∃ b, ((c.toNat : Int) == 45) = b ∧ (b = true ↔ c.toNat = 45) := ⟨_, rfl, by simp; omega⟩
    by_cases hok : okAt s.data.toList k = true
    ·have hc := Hok.out.1 hok
     have HO := Lib.hid hok
     clear hok
     have hend : (∃ k_1, k_1 ≤ s.size ∧ w.iter s (k + 1) = w.iter s k_1 ∧ ∀ (j : Nat), j < k_1 → okAt s.data.toList j = true) ∧ s.size - (w.iter s (k + 1)).iterPos w.heap.size < s.size - (w.iter s k).iterPos w.heap.size :=
      ⟨⟨k + 1, by omega, rfl, fun j hj => by
       by_cases h : j < k
       ·exact Hno.out j h
       ·obtain rfl : j = k := by omega
        exact HO.out⟩, by simp; omega⟩
     have Hend := Lib.hid hend
     clear hend
     cases b45 with
     | true =>
      have h0 : 0 < k := by have := f45.1 rfl; omega
      have h1 : c.toNat < 48 := by have := f45.1 rfl; omega
      clear f45 hc
      go_wp2
      all_goals exact Hend.out
     | false =>
      have h1 : ¬ c.toNat = 45 := fun h => by simpa using f45.2 h
      clear f45
      go_wp2
      all_goals exact Hend.out
    ·have hc : ¬ _ := fun h => hok (Hok.out.2 h)
     have hres := Lib.hid (show nameB s = false from Bool.eq_false_iff.2 fun h => hok ((Hiff.out.1 h).2.1 k hlt))
     clear hok
     have hc1 : ¬ (97 ≤ c.toNat ∧ c.toNat ≤ 122) := fun h => hc (.inl h)
     have hc2 : ¬ (0 < k ∧ ((48 ≤ c.toNat ∧ c.toNat ≤ 57) ∨ c.toNat = 45)) := fun h => hc (.inr h)
     clear hc
     cases b45 with
     | true =>
      have h0 : ¬ 0 < k := fun h => hc2 ⟨h, .inr (f45.1 rfl)⟩
      have h1 : c.toNat < 48 := by have := f45.1 rfl; omega
      clear f45 hc2 hc1
      go_wp2
      go_ret
      exact ⟨ret_bool hres.out.symm, (Below.refl _ _).alloc (Nat.le_refl _) _⟩
     | false =>
      have h1 : ¬ c.toNat = 45 := fun h => by simpa using f45.2 h
      rcases (show c.toNat < 97 ∨ 122 < c.toNat by omega) with g1 | g1 <;> rcases (show ¬ 0 < k ∨ (0 < k ∧ c.toNat < 48) ∨ (0 < k ∧ 57 < c.toNat) by omega) with g2 | ⟨g2, g3⟩ | ⟨g2, g3⟩
      all_goals
       clear f45 hc2 hc1 h1
       try have d1 : decide ((c.toNat : Int) ≤ 122) = false := by simp; omega
       try have d2 : decide ((c.toNat : Int) ≤ 57) = false := by simp; omega
       go_wp2
       all_goals go_ret
       all_goals exact ⟨ret_bool hres.out.symm, (Below.refl _ _).alloc (Nat.le_refl _) _⟩
   ·have hn := fun ty => run_next_any (P := Tryz.prog) w s k ty hlt
    have hd := decode_high s k hlt (by omega)
    have hres := Lib.hid (show nameB s = false from Bool.eq_false_iff.2 fun h => by
     have := Hok.out.1 ((Hiff.out.1 h).2.1 k hlt)
     rw [← hb] at this
     omega)
    clear hb ha Hok
    obtain ⟨h1, h2⟩ := hd
    have e45 : ((((Utf8.decode s k).1 : Nat) : Int) == 45) = false := by simp; omega
    generalize (Utf8.decode s k).1 = r at *
    generalize (Utf8.decode s k).2 = m at *
    have d1 : decide ((r : Int) ≤ 122) = false := by simp; omega
    have d2 : decide ((r : Int) ≤ 57) = false := by simp; omega
    by_cases g2 : 0 < k
    all_goals go_wp2
    all_goals go_ret
    all_goals exact ⟨ret_bool hres.out.symm, (Below.refl _ _).alloc (Nat.le_refl _) _⟩
  ·have hn := fun ty => run_next_end (P := Tryz.prog) w s k ty hlt
   have hk2 := Lib.hid (show k = s.size by omega)
   have hres : nameB s = (!s.toList.isEmpty && decide ((s.size : Int) ≤ 16)) := by
    have h0 : s.toList.isEmpty = decide (s.size = 0) := by
     have : s.toList.length = s.size := by rw [ByteArray.toList_eq]; simp
     rw [← this]
     cases s.toList <;> simp
    rw [h0, Bool.eq_iff_iff]
    simp only [Bool.and_eq_true, Bool.not_eq_true', decide_eq_false_iff_not, decide_eq_true_eq]
    have := Hiff.out
    constructor
    ·intro h
     have := this.1 h
     omega
    ·rintro ⟨h1, h2⟩
     exact this.2 ⟨by omega, fun j hj => Hno.out j (by rw [hk2.out]; exact hj), by omega⟩
   have Hres := Lib.hid hres
   clear hres
   go_wp2
   ·have h : s.toList = [] := by assumption
    go_ret
    exact ⟨ret_bool (by rw [Hres.out, h]; rfl), (Below.refl _ _).alloc (Nat.le_refl _) _⟩
   ·go_ret
    exact ⟨ret_bool Hres.out.symm, (Below.refl _ _).alloc (Nat.le_refl _) _⟩
end Go.Proofs.YthnimhnlnddnoaaGreatDoor
namespace Go.Proofs.YthnimhnlnddnoaaGreatDoor
open Go.RowKit
theorem place_any {B : Nat} {w : World} {v : Value} {xs : List ByteArray} (s : ByteArray) (hv : Rd StrAt 1 B w v xs) :
  Calls Tryz.prog 56 #[v, .string s] w fun e w' => e = .returned (.int .i64 (idxOf xs.length fun i => (xs[i]?.getD ByteArray.empty).toList == s.toList)) ∧ w' = w := by
 have hlen := hv.len
 obtain ⟨A, cap, rfl, h1, h2, _⟩ := id hv
 go_enter Tryz.func56, Tryz.ntmps56
 go_wp2
 go_loop [5] (fun i => ∃ k : Nat, k ≤ xs.length ∧ i = .int .i64 k ∧ (∀ j, j < k → ((xs[j]?.getD ByteArray.empty).toList == s.toList) = false)) (fun i => xs.length - (intOf i).toNat)
 case atStart => exact ⟨0, Nat.zero_le _, rfl, fun _ h => by omega⟩
 case round =>
  obtain ⟨k, hk, rfl, hno⟩ := hrel
  have Hno := Lib.hid hno
  clear hno
  by_cases hlt : k < xs.length
  ·obtain ⟨ad, rfl, _, hc⟩ := hv.str hlt
   clear hv
   by_cases ho : ((xs[k]?.getD ByteArray.empty).toList == s.toList) = true
   ·have hr := Lib.hid (idxOf_some (fst?_some hlt (p := fun i => (xs[i]?.getD ByteArray.empty).toList == s.toList) ho Hno.out))
    generalize xs[k]?.getD ByteArray.empty = x at ho hc
    go_wp2
    go_ret
    exact ⟨ret_int hr.out.symm, rfl⟩
   ·have ho := Bool.eq_false_iff.2 ho
    have Ho := Lib.hid ho
    generalize xs[k]?.getD ByteArray.empty = x at ho hc
    go_wp2
    go_round
    case rel => exact ⟨k + 1, by omega, by go_num, fun j hj => by
     by_cases h : j < k
     ·exact Hno.out j h
     ·obtain rfl : j = k := by omega
      exact Ho.out⟩
    case measure => simp [intOf]; omega
  ·have hr := Lib.hid (idxOf_none (fst?_none (n := xs.length) (p := fun i => (xs[i]?.getD ByteArray.empty).toList == s.toList) (fun j hj => Hno.out j (by omega))))
   clear hv
   go_wp2
   go_ret
   exact ⟨ret_int hr.out.symm, rfl⟩
theorem nameRef_any (s : ByteArray) (w : World) (hs : s.size ≤ 9223372036854775807) :
  Calls Tryz.prog 55 #[.string s] w fun e w' => e = .returned (.bool (nameB s)) ∧ w' = w := by
 have hsz : s.data.toList.length = s.size := by simp
 have Hiff := Lib.hid (nameL_iff s.data.toList)
 rw [hsz] at Hiff
 clear hsz
 by_cases hr : inB s.size 1 16 = true
 ·have hr' := inB_iff.1 hr
  have HR := Lib.hid hr
  have h0 : 0 < s.size := by omega
  have e0 := byte_at s h0
  have Hok := Lib.hid (okAt_iff (l := s.data.toList) (k := 0))
  by_cases hc : 97 ≤ (s[0]'h0).toNat ∧ (s[0]'h0).toNat ≤ 122
  ·obtain ⟨hc1, hc2⟩ := hc
   have d1 : decide (((s[0]'h0).toNat : Int) < 97) = false := by simp; omega
   have d2 : decide ((122 : Int) < ((s[0]'h0).toNat : Int)) = false := by simp; omega
   have HC := Lib.hid (show okAt s.data.toList 0 = true from Hok.out.2 (.inl (by rw [← e0]; exact ⟨hc1, hc2⟩)))
   clear e0 hc1 hc2 Hok
   go_enter Tryz.func55, Tryz.ntmps55
   go_wp2_with (go_at_call 45; refine (in_any _ _ _ _).mono ?_; rintro e w' ⟨rfl, rfl⟩)
   clear d1 d2
   go_loop [3] (fun i => ∃ k : Nat, k ≤ s.size ∧ i = .int .i64 k ∧ (∀ j, j < k → okAt s.data.toList j = true)) (fun i => s.size - (intOf i).toNat)
   case atStart => exact ⟨0, Nat.zero_le _, rfl, fun _ h => by omega⟩
   case round =>
    obtain ⟨k, hk, rfl, hno⟩ := hrel
    have Hno := Lib.hid hno
    clear hno
    by_cases hlt : k < s.size
    ·have Hb := Lib.hid (byte_at s hlt)
     have Hok := Lib.hid (okAt_iff (l := s.data.toList) (k := k))
     rw [← Hb.out] at Hok
     by_cases hok : okAt s.data.toList k = true
     ·have hc := Hok.out.1 hok
      have HO := Lib.hid hok
      clear hok
      rcases (show (97 ≤ (s[k]'hlt).toNat ∧ (s[k]'hlt).toNat ≤ 122) ∨ (48 ≤ (s[k]'hlt).toNat ∧ (s[k]'hlt).toNat ≤ 57) ∨ (s[k]'hlt).toNat = 45 by omega) with g | g | g
      ·have d1 : decide (((s[k]'hlt).toNat : Int) < 97) = false := by simp; omega
       have d2 : decide ((122 : Int) < ((s[k]'hlt).toNat : Int)) = false := by simp; omega
       clear g hc
       go_wp2
       go_round
       case rel => exact ⟨k + 1, by omega, by go_num, fun j hj => by
        by_cases h : j < k
        ·exact Hno.out j h
        ·obtain rfl : j = k := by omega
         exact HO.out⟩
       case measure => simp [intOf]; omega
      ·have d1 : decide (((s[k]'hlt).toNat : Int) < 97) = true := by simp; omega
       have d3 : decide (((s[k]'hlt).toNat : Int) < 48) = false := by simp; omega
       have d4 : decide ((57 : Int) < ((s[k]'hlt).toNat : Int)) = false := by simp; omega
       clear g hc
       go_wp2
       go_round
       case rel => exact ⟨k + 1, by omega, by go_num, fun j hj => by
        by_cases h : j < k
        ·exact Hno.out j h
        ·obtain rfl : j = k := by omega
         exact HO.out⟩
       case measure => simp [intOf]; omega
      ·have d1 : decide (((s[k]'hlt).toNat : Int) < 97) = true := by simp; omega
       have d3 : decide (((s[k]'hlt).toNat : Int) < 48) = true := by simp; omega
       have d5 : (((s[k]'hlt).toNat : Int) != 45) = false := by simp; omega
       clear g hc
       go_wp2
       go_round
       case rel => exact ⟨k + 1, by omega, by go_num, fun j hj => by
        by_cases h : j < k
        ·exact Hno.out j h
        ·obtain rfl : j = k := by omega
         exact HO.out⟩
       case measure => simp [intOf]; omega
     ·have hres := Lib.hid (show nameB s = false from Bool.eq_false_iff.2 fun h => hok ((Hiff.out.1 h).2.1 k hlt))
      have hk0 : 0 < k := by
       rcases Nat.eq_zero_or_pos k with h | h
       ·subst h; exact absurd HC.out hok
       ·exact h
      have hc : ¬ _ := fun h => hok (Hok.out.2 h)
      have hc1 : ¬ (97 ≤ (s[k]'hlt).toNat ∧ (s[k]'hlt).toNat ≤ 122) := fun h => hc (.inl h)
      have hc2 : ¬ ((48 ≤ (s[k]'hlt).toNat ∧ (s[k]'hlt).toNat ≤ 57) ∨ (s[k]'hlt).toNat = 45) := fun h => hc (.inr ⟨hk0, h⟩)
      have d5 : (((s[k]'hlt).toNat : Int) != 45) = true := by simp; omega
      clear hok hc
      rcases (show 122 < (s[k]'hlt).toNat ∨ ((s[k]'hlt).toNat < 97 ∧ (s[k]'hlt).toNat < 48) ∨ ((s[k]'hlt).toNat < 97 ∧ 57 < (s[k]'hlt).toNat) by omega) with g | g | g
      ·have d1 : decide (((s[k]'hlt).toNat : Int) < 97) = false := by simp; omega
       have d2 : decide ((122 : Int) < ((s[k]'hlt).toNat : Int)) = true := by simp; omega
       have d3 : decide (((s[k]'hlt).toNat : Int) < 48) = false := by simp; omega
       have d4 : decide ((57 : Int) < ((s[k]'hlt).toNat : Int)) = true := by simp; omega
       clear g hc1 hc2
       go_wp2
       go_ret
       exact ⟨ret_bool hres.out.symm, rfl⟩
      ·have d1 : decide (((s[k]'hlt).toNat : Int) < 97) = true := by simp; omega
       have d3 : decide (((s[k]'hlt).toNat : Int) < 48) = true := by simp; omega
       clear g hc1 hc2
       go_wp2
       go_ret
       exact ⟨ret_bool hres.out.symm, rfl⟩
      ·have d1 : decide (((s[k]'hlt).toNat : Int) < 97) = true := by simp; omega
       have d3 : decide (((s[k]'hlt).toNat : Int) < 48) = false := by simp; omega
       have d4 : decide ((57 : Int) < ((s[k]'hlt).toNat : Int)) = true := by simp; omega
       clear g hc1 hc2
       go_wp2
       go_ret
       exact ⟨ret_bool hres.out.symm, rfl⟩
    ·have hk2 := Lib.hid (show k = s.size by omega)
     have hres := Lib.hid (show nameB s = true from Hiff.out.2 ⟨by omega, fun j hj => Hno.out j (by rw [hk2.out]; exact hj), by omega⟩)
     go_wp2
     go_ret
     exact ⟨ret_bool hres.out.symm, rfl⟩
  ·have hres := Lib.hid (show nameB s = false from Bool.eq_false_iff.2 fun h => by
    have h := Hok.out.1 ((Hiff.out.1 h).2.1 0 h0)
    rw [← e0] at h
    omega)
   rcases (show (s[0]'h0).toNat < 97 ∨ (97 ≤ (s[0]'h0).toNat ∧ 122 < (s[0]'h0).toNat) by omega) with g | g
   ·have d1 : decide (((s[0]'h0).toNat : Int) < 97) = true := by simp; omega
    clear hc Hok e0 g
    go_enter Tryz.func55, Tryz.ntmps55
    go_wp2_with (go_at_call 45; refine (in_any _ _ _ _).mono ?_; rintro e w' ⟨rfl, rfl⟩)
    go_ret
    exact ⟨ret_bool hres.out.symm, rfl⟩
   ·have d1 : decide (((s[0]'h0).toNat : Int) < 97) = false := by simp; omega
    have d2 : decide ((122 : Int) < ((s[0]'h0).toNat : Int)) = true := by simp; omega
    clear hc Hok e0 g
    go_enter Tryz.func55, Tryz.ntmps55
    go_wp2_with (go_at_call 45; refine (in_any _ _ _ _).mono ?_; rintro e w' ⟨rfl, rfl⟩)
    go_ret
    exact ⟨ret_bool hres.out.symm, rfl⟩
 ·have hr := Bool.eq_false_iff.2 hr
  have hr' := inB_false.1 hr
  have hres := Lib.hid (show nameB s = false from Bool.eq_false_iff.2 fun h => by
   have := Hiff.out.1 h
   omega)
  clear hr'
  go_enter Tryz.func55, Tryz.ntmps55
  go_wp2_with (go_at_call 45; refine (in_any _ _ _ _).mono ?_; rintro e w' ⟨rfl, rfl⟩)
  go_ret
  exact ⟨ret_bool hres.out.symm, rfl⟩
theorem fresh_any {B : Nat} {w : World} {v : Value} {xs : List ByteArray} (s : ByteArray) (hv : Rd StrAt 1 B w v xs) (hs : s.size ≤ 9223372036854775807) :
  Calls Tryz.prog 18 #[.string s, v] w fun e w' => e = .returned (.int .i64 (freshErr s xs)) ∧ w' = w := by
 have e := idxOf_any xs (fun x => x.toList == s.toList) (fun i => (xs[i]?.getD ByteArray.empty).toList == s.toList) fun i hi => by simp [List.getElem?_eq_getElem hi]
 have h := Lib.hid (place_any s hv)
 have hres : freshErr s xs = if nameB s = false then 6 else if (xs.any fun x => x.toList == s.toList) then 5 else 0 := rfl
 rw [← e] at hres
 clear e
 generalize (idxOf xs.length fun i => (xs[i]?.getD ByteArray.empty).toList == s.toList) = n at *
 generalize freshErr s xs = r at *
 by_cases hn : nameB s = true
 ·by_cases h0 : 0 ≤ n
  ·have hr := Lib.hid (show r = 5 by rw [hres, if_neg (by simp [hn])]; simp [h0])
   clear hres
   go_enter Tryz.func18, Tryz.ntmps18
   go_wp2_with (first | (go_at_call 55; refine (nameRef_any s _ hs).mono ?_; rintro e w' ⟨rfl, rfl⟩) | (go_at_call 56; refine h.out.mono ?_; rintro e w' ⟨rfl, rfl⟩))
   go_ret
   exact ⟨ret_int hr.out.symm, rfl⟩
  ·have hr := Lib.hid (show r = 0 by rw [hres, if_neg (by simp [hn])]; simp [h0])
   clear hres
   go_enter Tryz.func18, Tryz.ntmps18
   go_wp2_with (first | (go_at_call 55; refine (nameRef_any s _ hs).mono ?_; rintro e w' ⟨rfl, rfl⟩) | (go_at_call 56; refine h.out.mono ?_; rintro e w' ⟨rfl, rfl⟩))
   go_ret
   exact ⟨ret_int hr.out.symm, rfl⟩
 ·have hn := Bool.eq_false_iff.2 hn
  have hr := Lib.hid (show r = 6 by rw [hres, if_pos hn])
  clear hres
  go_enter Tryz.func18, Tryz.ntmps18
  go_wp2_with (first | (go_at_call 55; refine (nameRef_any s _ hs).mono ?_; rintro e w' ⟨rfl, rfl⟩) | (go_at_call 56; refine h.out.mono ?_; rintro e w' ⟨rfl, rfl⟩))
  go_ret
  exact ⟨ret_int hr.out.symm, rfl⟩
end Go.Proofs.YthnimhnlnddnoaaGreatDoor
namespace Go.Proofs.YthnimhnlnddnoaaGreatDoor
open Go.RowKit Go.Maps Go.WideMaps
def cnt (l : List ByteArray) (s : ByteArray) : Int := ((l.filter fun x => x.toList == s.toList).length : Int)
theorem cnt_nonneg (l : List ByteArray) (s : ByteArray) : 0 ≤ cnt l s := by unfold cnt; omega
theorem cnt_le (l : List ByteArray) (s : ByteArray) : cnt l s ≤ l.length := by unfold cnt; have := List.length_filter_le (fun x : ByteArray => x.toList == s.toList) l; omega
theorem cnt_zero (l : List ByteArray) (s : ByteArray) : cnt l s = 0 ↔ (l.any fun x => x.toList == s.toList) = false := by
 unfold cnt
 rw [List.any_eq_false]
 constructor
 ·intro h x hx
  have : l.filter (fun x => x.toList == s.toList) = [] := List.eq_nil_of_length_eq_zero (by omega)
  rw [List.filter_eq_nil_iff] at this
  exact this x hx
 ·intro h
  rw [List.filter_eq_nil_iff.2 h]
  rfl
theorem cnt_snoc_same (l : List ByteArray) (s : ByteArray) : cnt (l ++ [s]) s = cnt l s + 1 := by
 unfold cnt
 rw [List.filter_append]
 simp
theorem cnt_snoc_other {l : List ByteArray} {s x : ByteArray} (h : s.data.toList ≠ x.data.toList) : cnt (l ++ [s]) x = cnt l x := by
 unfold cnt
 rw [List.filter_append]
 have : (s.toList == x.toList) = false := by rw [ByteArray.toList_eq, ByteArray.toList_eq]; simpa using h
 simp [this]
theorem cnt_congr {l : List ByteArray} {s x : ByteArray} (h : s.data.toList = x.data.toList) : cnt l s = cnt l x := by
 unfold cnt
 rw [ByteArray.toList_eq, ByteArray.toList_eq, h]
def CntAt (w : World) (b : Nat) (l : List ByteArray) : Prop :=
 ∃ D : DataW Unit, w.ownsMap Tryz.prog 9 (plainElem Tryz.prog 3) b l.length D ∧ IsMap D ∧ ∀ s : ByteArray, D.atKey (.string s.data.toList) (.lit (.int .i64 0)) = .lit (.int .i64 (cnt l s))
theorem lawS : Keyed Tryz.prog 9 := string_keyed Tryz.underlying9
theorem zero3 (w : World) : (zeroValue 3).run Tryz.prog w = .ok (.int .i64 0) w := by kernel_rfl
theorem CntAt.made (w : World) : CntAt (w.alloc (.map #[] 0)) w.heap.size [] := ⟨.map [], World.ownsMap_made _ _ _ _, isMap_empty, fun s => by simp [cnt]; rfl⟩
theorem CntAt.grown {w w' : World} {b : Nat} {l : List ByteArray} (h : CntAt w b l) {row : Option Nat} (hg : w.grownBy w' row) (hne : some b ≠ row) : CntAt w' b l := by
 obtain ⟨D, h1, h2⟩ := h
 exact ⟨D, h1.kept hg hne, h2⟩
theorem CntAt.lt {w : World} {b : Nat} {l : List ByteArray} (h : CntAt w b l) : b < w.heap.size := by
 obtain ⟨D, h1, _⟩ := h
 exact h1.lt
theorem CntAt.lookup {w : World} {b : Nat} {l : List ByteArray} (h : CntAt w b l) (s : ByteArray) (hs : s.size ≤ maxLen) : (Instr.lookup 139 (.map (some b)) (.string s) false).run Tryz.prog w = .ok (.int .i64 (cnt l s)) w := by
 obtain ⟨D, h1, _, h3⟩ := h
 obtain ⟨c, hr, hat, _⟩ := h1.lookup_int lawS Tryz.underlying139 Tryz.underlying3 (zero3 w) (keyOf_string_mk Tryz.underlying9 hs)
 rw [h3] at hat
 cases hat
 exact hr
theorem lit_ne {a b : List UInt8} (h : a ≠ b) : Lit.string a ≠ Lit.string b := fun e => h (by injection e)
theorem CntAt.update {w : World} {b : Nat} {l : List ByteArray} (h : CntAt w b l) (s : ByteArray) (hs : s.size ≤ maxLen) (hl : l.length ≤ 1000) {n : Int} (hn : n = cnt l s + 1) :
  ∃ w', (Instr.mapUpdate 139 (.map (some b)) (.string s) (.int .i64 n)).run Tryz.prog w = .ok () w' ∧ CntAt w' b (l ++ [s]) ∧ w.grownBy w' (some b) := by
 obtain ⟨D, h1, h2, h3⟩ := h
 have hb := cnt_le l s
 have hb0 := cnt_nonneg l s
 have hwf : (Lit.int .i64 n).wf = true := by
  have e1 : IntKind.min .i64 = -9223372036854775808 := by decide
  have e2 : IntKind.max .i64 = 9223372036854775807 := by decide
  simp only [Lit.wf, e1, e2, Bool.and_eq_true, decide_eq_true_eq]
  omega
 obtain ⟨w', hr, ho, hg⟩ := h1.update lawS Tryz.underlying139 (by unfold maxLen; omega) (keyOf_string_mk Tryz.underlying9 hs) (plainElem_int Tryz.underlying3 hwf)
 refine ⟨w', hr, ⟨_, by simpa using ho, h2.put _ _, fun x => ?_⟩, hg⟩
 by_cases hx : s.data.toList = x.data.toList
 ·rw [← hx, atKey_put_same h2 (by simp [WideAt.IsKeyLit]), hn, cnt_congr (l := l ++ [s]) hx.symm, cnt_snoc_same]
 ·rw [atKey_put_other (lit_ne (Ne.symm hx)), h3, cnt_snoc_other hx]
theorem below_grown {w w' : World} (h : Below w.heap.size w w') (row : Option Nat) : w.grownBy w' row := ⟨h.os, h.tape, h.output, h.size, fun k hk _ => h.block k hk⟩
theorem grown_below {B b : Nat} {w w' : World} (h : w.grownBy w' (some b)) (hb : B ≤ b) (hw : B ≤ w.heap.size) : Below B w w' := ⟨h.os, h.tape, h.output, h.size, fun k hk => h.block k (by omega) (by simp; omega)⟩
end Go.Proofs.YthnimhnlnddnoaaGreatDoor
