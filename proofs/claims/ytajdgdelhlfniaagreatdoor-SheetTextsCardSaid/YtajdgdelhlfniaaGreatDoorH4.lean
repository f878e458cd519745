/- Walks of the layer sheet: the reference's Name, Place, Fresh. The map of names that were met: how often each one was. Walks of the layer sheet: first at strings, and what Check hands it. Walks of the layer sheet: what a note says; its error. -/
import Derived.Test.YtajdgdelhlfniaaGreatDoorH3
import Derived.Maps.Own
import Derived.Maps.Views
import Derived.Maps.AppendAt
import Derived.OwnWalk
import Derived.WalkKit
import Derived.Deep.Quiet
import Derived.IntWalk
set_option linter.unusedSimpArgs false
set_option linter.unusedVariables false
namespace Go.Proofs.YtajdgdelhlfniaaGreatDoor
open Go.RowKit

theorem place_any {B : Nat} {w : World} {v : Value} {xs : List ByteArray} (s : ByteArray) (hv : Rd StrAt 1 B w v xs) :
    Calls Tryz.prog 93 #[v, .string s] w fun e w' => e = .returned (.int .i64 (idxOf xs.length fun i => (xs[i]?.getD ByteArray.empty).toList == s.toList)) ∧ w' = w := by
  have hlen := hv.len
  obtain ⟨A, cap, rfl, h1, h2, _⟩ := id hv
  go_enter Tryz.func93, Tryz.ntmps93
  go_wp2
  go_loop [5] (fun i => ∃ k : Nat, k ≤ xs.length ∧ i = .int .i64 k ∧ (∀ j, j < k → ((xs[j]?.getD ByteArray.empty).toList == s.toList) = false)) (fun i => xs.length - (intOf i).toNat)
  case atStart => exact ⟨0, Nat.zero_le _, rfl, fun _ h => by omega⟩
  case round =>
    obtain ⟨k, hk, rfl, hno⟩ := hrel
    have Hno := Lib.hid hno
    clear hno
    by_cases hlt : k < xs.length
    · obtain ⟨ad, rfl, _, hc⟩ := hv.str hlt
      clear hv
      by_cases ho : ((xs[k]?.getD ByteArray.empty).toList == s.toList) = true
      · have hr := Lib.hid (idxOf_some (fst?_some hlt (p := fun i => (xs[i]?.getD ByteArray.empty).toList == s.toList) ho Hno.out))
        generalize xs[k]?.getD ByteArray.empty = x at ho hc
        go_wp2
        go_ret
        exact ⟨ret_int hr.out.symm, rfl⟩
      · have ho := Bool.eq_false_iff.2 ho
        have Ho := Lib.hid ho
        generalize xs[k]?.getD ByteArray.empty = x at ho hc
        go_wp2
        go_round
        case rel => exact ⟨k + 1, by omega, by go_num, fun j hj => by
          by_cases h : j < k
          · exact Hno.out j h
          · obtain rfl : j = k := by omega
            exact Ho.out⟩
        case measure => simp [intOf]; omega
    · have hr := Lib.hid (idxOf_none (fst?_none (n := xs.length) (p := fun i => (xs[i]?.getD ByteArray.empty).toList == s.toList) (fun j hj => Hno.out j (by omega))))
      clear hv
      go_wp2
      go_ret
      exact ⟨ret_int hr.out.symm, rfl⟩

set_option maxHeartbeats 1000000 in
theorem nameRef_any (s : ByteArray) (w : World) (hs : s.size ≤ 9223372036854775807) :
    Calls Tryz.prog 19 #[.string s] w fun e w' => e = .returned (.bool (nameB s)) ∧ w' = w := by
  have hsz : s.data.toList.length = s.size := by simp
  have Hiff := Lib.hid (nameL_iff s.data.toList)
  rw [hsz] at Hiff
  clear hsz
  by_cases hr : inB s.size 1 16 = true
  · have hr' := inB_iff.1 hr
    have HR := Lib.hid hr
    have h0 : 0 < s.size := by omega
    have e0 := byte_at s h0
    have Hok := Lib.hid (okAt_iff (l := s.data.toList) (k := 0))
    by_cases hc : 97 ≤ (s[0]'h0).toNat ∧ (s[0]'h0).toNat ≤ 122
    · obtain ⟨hc1, hc2⟩ := hc
      have d1 : decide (((s[0]'h0).toNat : Int) < 97) = false := by simp; omega
      have d2 : decide ((122 : Int) < ((s[0]'h0).toNat : Int)) = false := by simp; omega
      have HC := Lib.hid (show okAt s.data.toList 0 = true from Hok.out.2 (.inl (by rw [← e0]; exact ⟨hc1, hc2⟩)))
      clear e0 hc1 hc2 Hok
      go_enter Tryz.func19, Tryz.ntmps19
      go_wp2_with (go_at_call 62; refine (in_any _ _ _ _).mono ?_; rintro e w' ⟨rfl, rfl⟩)
      clear d1 d2
      go_loop [3] (fun i => ∃ k : Nat, k ≤ s.size ∧ i = .int .i64 k ∧ (∀ j, j < k → okAt s.data.toList j = true)) (fun i => s.size - (intOf i).toNat)
      case atStart => exact ⟨0, Nat.zero_le _, rfl, fun _ h => by omega⟩
      case round =>
        obtain ⟨k, hk, rfl, hno⟩ := hrel
        have Hno := Lib.hid hno
        clear hno
        by_cases hlt : k < s.size
        · have Hb := Lib.hid (byte_at s hlt)
          have Hok := Lib.hid (okAt_iff (l := s.data.toList) (k := k))
          rw [← Hb.out] at Hok
          by_cases hok : okAt s.data.toList k = true
          · have hc := Hok.out.1 hok
            have HO := Lib.hid hok
            clear hok
            rcases (show (97 ≤ (s[k]'hlt).toNat ∧ (s[k]'hlt).toNat ≤ 122) ∨ (48 ≤ (s[k]'hlt).toNat ∧ (s[k]'hlt).toNat ≤ 57) ∨ (s[k]'hlt).toNat = 45 by omega) with g | g | g
            · have d1 : decide (((s[k]'hlt).toNat : Int) < 97) = false := by simp; omega
              have d2 : decide ((122 : Int) < ((s[k]'hlt).toNat : Int)) = false := by simp; omega
              clear g hc
              go_wp2
              go_round
              case rel => exact ⟨k + 1, by omega, by go_num, fun j hj => by
                by_cases h : j < k
                · exact Hno.out j h
                · obtain rfl : j = k := by omega
                  exact HO.out⟩
              case measure => simp [intOf]; omega
            · have d1 : decide (((s[k]'hlt).toNat : Int) < 97) = true := by simp; omega
              have d3 : decide (((s[k]'hlt).toNat : Int) < 48) = false := by simp; omega
              have d4 : decide ((57 : Int) < ((s[k]'hlt).toNat : Int)) = false := by simp; omega
              clear g hc
              go_wp2
              go_round
              case rel => exact ⟨k + 1, by omega, by go_num, fun j hj => by
                by_cases h : j < k
                · exact Hno.out j h
                · obtain rfl : j = k := by omega
                  exact HO.out⟩
              case measure => simp [intOf]; omega
            · have d1 : decide (((s[k]'hlt).toNat : Int) < 97) = true := by simp; omega
              have d3 : decide (((s[k]'hlt).toNat : Int) < 48) = true := by simp; omega
              have d5 : (((s[k]'hlt).toNat : Int) != 45) = false := by simp; omega
              clear g hc
              go_wp2
              go_round
              case rel => exact ⟨k + 1, by omega, by go_num, fun j hj => by
                by_cases h : j < k
                · exact Hno.out j h
                · obtain rfl : j = k := by omega
                  exact HO.out⟩
              case measure => simp [intOf]; omega
          · have hres := Lib.hid (show nameB s = false from Bool.eq_false_iff.2 fun h => hok ((Hiff.out.1 h).2.1 k hlt))
            have hk0 : 0 < k := by
              rcases Nat.eq_zero_or_pos k with h | h
              · subst h; exact absurd HC.out hok
              · exact h
            have hc : ¬ _ := fun h => hok (Hok.out.2 h)
            have hc1 : ¬ (97 ≤ (s[k]'hlt).toNat ∧ (s[k]'hlt).toNat ≤ 122) := fun h => hc (.inl h)
            have hc2 : ¬ ((48 ≤ (s[k]'hlt).toNat ∧ (s[k]'hlt).toNat ≤ 57) ∨ (s[k]'hlt).toNat = 45) := fun h => hc (.inr ⟨hk0, h⟩)
            have d5 : (((s[k]'hlt).toNat : Int) != 45) = true := by simp; omega
            clear hok hc
            rcases (show 122 < (s[k]'hlt).toNat ∨ ((s[k]'hlt).toNat < 97 ∧ (s[k]'hlt).toNat < 48) ∨ ((s[k]'hlt).toNat < 97 ∧ 57 < (s[k]'hlt).toNat) by omega) with g | g | g
            · have d1 : decide (((s[k]'hlt).toNat : Int) < 97) = false := by simp; omega
              have d2 : decide ((122 : Int) < ((s[k]'hlt).toNat : Int)) = true := by simp; omega
              have d3 : decide (((s[k]'hlt).toNat : Int) < 48) = false := by simp; omega
              have d4 : decide ((57 : Int) < ((s[k]'hlt).toNat : Int)) = true := by simp; omega
              clear g hc1 hc2
              go_wp2
              go_ret
              exact ⟨ret_bool hres.out.symm, rfl⟩
            · have d1 : decide (((s[k]'hlt).toNat : Int) < 97) = true := by simp; omega
              have d3 : decide (((s[k]'hlt).toNat : Int) < 48) = true := by simp; omega
              clear g hc1 hc2
              go_wp2
              go_ret
              exact ⟨ret_bool hres.out.symm, rfl⟩
            · have d1 : decide (((s[k]'hlt).toNat : Int) < 97) = true := by simp; omega
              have d3 : decide (((s[k]'hlt).toNat : Int) < 48) = false := by simp; omega
              have d4 : decide ((57 : Int) < ((s[k]'hlt).toNat : Int)) = true := by simp; omega
              clear g hc1 hc2
              go_wp2
              go_ret
              exact ⟨ret_bool hres.out.symm, rfl⟩
        · have hk2 := Lib.hid (show k = s.size by omega)
          have hres := Lib.hid (show nameB s = true from Hiff.out.2 ⟨by omega, fun j hj => Hno.out j (by rw [hk2.out]; exact hj), by omega⟩)
          go_wp2
          go_ret
          exact ⟨ret_bool hres.out.symm, rfl⟩
    · have hres := Lib.hid (show nameB s = false from Bool.eq_false_iff.2 fun h => by
        have h := Hok.out.1 ((Hiff.out.1 h).2.1 0 h0)
        rw [← e0] at h
        omega)
      rcases (show (s[0]'h0).toNat < 97 ∨ (97 ≤ (s[0]'h0).toNat ∧ 122 < (s[0]'h0).toNat) by omega) with g | g
      · have d1 : decide (((s[0]'h0).toNat : Int) < 97) = true := by simp; omega
        clear hc Hok e0 g
        go_enter Tryz.func19, Tryz.ntmps19
        go_wp2_with (go_at_call 62; refine (in_any _ _ _ _).mono ?_; rintro e w' ⟨rfl, rfl⟩)
        go_ret
        exact ⟨ret_bool hres.out.symm, rfl⟩
      · have d1 : decide (((s[0]'h0).toNat : Int) < 97) = false := by simp; omega
        have d2 : decide ((122 : Int) < ((s[0]'h0).toNat : Int)) = true := by simp; omega
        clear hc Hok e0 g
        go_enter Tryz.func19, Tryz.ntmps19
        go_wp2_with (go_at_call 62; refine (in_any _ _ _ _).mono ?_; rintro e w' ⟨rfl, rfl⟩)
        go_ret
        exact ⟨ret_bool hres.out.symm, rfl⟩
  · have hr := Bool.eq_false_iff.2 hr
    have hr' := inB_false.1 hr
    have hres := Lib.hid (show nameB s = false from Bool.eq_false_iff.2 fun h => by
      have := Hiff.out.1 h
      omega)
    clear hr'
    go_enter Tryz.func19, Tryz.ntmps19
    go_wp2_with (go_at_call 62; refine (in_any _ _ _ _).mono ?_; rintro e w' ⟨rfl, rfl⟩)
    go_ret
    exact ⟨ret_bool hres.out.symm, rfl⟩

theorem fresh_any {B : Nat} {w : World} {v : Value} {xs : List ByteArray} (s : ByteArray) (hv : Rd StrAt 1 B w v xs) (hs : s.size ≤ 9223372036854775807) :
    Calls Tryz.prog 63 #[.string s, v] w fun e w' => e = .returned (.int .i64 (freshErr s xs)) ∧ w' = w := by
  have e := idxOf_any xs (fun x => x.toList == s.toList) (fun i => (xs[i]?.getD ByteArray.empty).toList == s.toList) fun i hi => by simp [List.getElem?_eq_getElem hi]
  have h := Lib.hid (place_any s hv)
  have hres : freshErr s xs = if nameB s = false then 6 else if (xs.any fun x => x.toList == s.toList) then 5 else 0 := rfl
  rw [← e] at hres
  clear e
  generalize (idxOf xs.length fun i => (xs[i]?.getD ByteArray.empty).toList == s.toList) = n at *
  generalize freshErr s xs = r at *
  by_cases hn : nameB s = true
  · by_cases h0 : 0 ≤ n
    · have hr := Lib.hid (show r = 5 by rw [hres, if_neg (by simp [hn])]; simp [h0])
      clear hres
      go_enter Tryz.func63, Tryz.ntmps63
      go_wp2_with (first | (go_at_call 19; refine (nameRef_any s _ hs).mono ?_; rintro e w' ⟨rfl, rfl⟩) | (go_at_call 93; refine h.out.mono ?_; rintro e w' ⟨rfl, rfl⟩))
      go_ret
      exact ⟨ret_int hr.out.symm, rfl⟩
    · have hr := Lib.hid (show r = 0 by rw [hres, if_neg (by simp [hn])]; simp [h0])
      clear hres
      go_enter Tryz.func63, Tryz.ntmps63
      go_wp2_with (first | (go_at_call 19; refine (nameRef_any s _ hs).mono ?_; rintro e w' ⟨rfl, rfl⟩) | (go_at_call 93; refine h.out.mono ?_; rintro e w' ⟨rfl, rfl⟩))
      go_ret
      exact ⟨ret_int hr.out.symm, rfl⟩
  · have hn := Bool.eq_false_iff.2 hn
    have hr := Lib.hid (show r = 6 by rw [hres, if_pos hn])
    clear hres
    go_enter Tryz.func63, Tryz.ntmps63
    go_wp2_with (first | (go_at_call 19; refine (nameRef_any s _ hs).mono ?_; rintro e w' ⟨rfl, rfl⟩) | (go_at_call 93; refine h.out.mono ?_; rintro e w' ⟨rfl, rfl⟩))
    go_ret
    exact ⟨ret_int hr.out.symm, rfl⟩
end Go.Proofs.YtajdgdelhlfniaaGreatDoor
namespace Go.Proofs.YtajdgdelhlfniaaGreatDoor
open Go.RowKit Go.Maps Go.WideMaps

/-- how often a string is in a list -/
def cnt (l : List ByteArray) (s : ByteArray) : Int := ((l.filter fun x => x.toList == s.toList).length : Int)
theorem cnt_nonneg (l : List ByteArray) (s : ByteArray) : 0 ≤ cnt l s := by unfold cnt; omega
theorem cnt_le (l : List ByteArray) (s : ByteArray) : cnt l s ≤ l.length := by unfold cnt; have := List.length_filter_le (fun x : ByteArray => x.toList == s.toList) l; omega
theorem cnt_zero (l : List ByteArray) (s : ByteArray) : cnt l s = 0 ↔ (l.any fun x => x.toList == s.toList) = false := by
  unfold cnt
  rw [List.any_eq_false]
  constructor
  · intro h x hx
    have : l.filter (fun x => x.toList == s.toList) = [] := List.eq_nil_of_length_eq_zero (by omega)
    rw [List.filter_eq_nil_iff] at this
    exact this x hx
  · intro h
    rw [List.filter_eq_nil_iff.2 h]
    rfl
theorem cnt_snoc_same (l : List ByteArray) (s : ByteArray) : cnt (l ++ [s]) s = cnt l s + 1 := by
  unfold cnt
  rw [List.filter_append]
  simp
theorem cnt_snoc_other {l : List ByteArray} {s x : ByteArray} (h : s.data.toList ≠ x.data.toList) : cnt (l ++ [s]) x = cnt l x := by
  unfold cnt
  rw [List.filter_append]
  have : (s.toList == x.toList) = false := by rw [ByteArray.toList_eq, ByteArray.toList_eq]; simpa using h
  simp [this]
theorem cnt_congr {l : List ByteArray} {s x : ByteArray} (h : s.data.toList = x.data.toList) : cnt l s = cnt l x := by
  unfold cnt
  rw [ByteArray.toList_eq, ByteArray.toList_eq, h]

/-- block b is the map of how often each string is in l -/
def CntAt (w : World) (b : Nat) (l : List ByteArray) : Prop :=
  ∃ D : DataW Unit, w.ownsMap Tryz.prog 9 (plainElem Tryz.prog 3) b l.length D ∧ IsMap D ∧ ∀ s : ByteArray, D.atKey (.string s.data.toList) (.lit (.int .i64 0)) = .lit (.int .i64 (cnt l s))
theorem lawS : Keyed Tryz.prog 9 := string_keyed Tryz.underlying9
theorem zero3 (w : World) : (zeroValue 3).run Tryz.prog w = .ok (.int .i64 0) w := by kernel_rfl
theorem CntAt.made (w : World) : CntAt (w.alloc (.map #[] 0)) w.heap.size [] := ⟨.map [], World.ownsMap_made _ _ _ _, isMap_empty, fun s => by simp [cnt]; rfl⟩
theorem CntAt.grown {w w' : World} {b : Nat} {l : List ByteArray} (h : CntAt w b l) {row : Option Nat} (hg : w.grownBy w' row) (hne : some b ≠ row) : CntAt w' b l := by
  obtain ⟨D, h1, h2⟩ := h
  exact ⟨D, h1.kept hg hne, h2⟩
theorem CntAt.lt {w : World} {b : Nat} {l : List ByteArray} (h : CntAt w b l) : b < w.heap.size := by
  obtain ⟨D, h1, _⟩ := h
  exact h1.lt
theorem CntAt.lookup {w : World} {b : Nat} {l : List ByteArray} (h : CntAt w b l) (s : ByteArray) (hs : s.size ≤ maxLen) : (Instr.lookup 81 (.map (some b)) (.string s) false).run Tryz.prog w = .ok (.int .i64 (cnt l s)) w := by
  obtain ⟨D, h1, _, h3⟩ := h
  obtain ⟨c, hr, hat, _⟩ := h1.lookup_int lawS Tryz.underlying81 Tryz.underlying3 (zero3 w) (keyOf_string_mk Tryz.underlying9 hs)
  rw [h3] at hat
  cases hat
  exact hr
theorem lit_ne {a b : List UInt8} (h : a ≠ b) : Lit.string a ≠ Lit.string b := fun e => h (by injection e)
theorem CntAt.update {w : World} {b : Nat} {l : List ByteArray} (h : CntAt w b l) (s : ByteArray) (hs : s.size ≤ maxLen) (hl : l.length ≤ 1000) {n : Int} (hn : n = cnt l s + 1) :
    ∃ w', (Instr.mapUpdate 81 (.map (some b)) (.string s) (.int .i64 n)).run Tryz.prog w = .ok () w' ∧ CntAt w' b (l ++ [s]) ∧ w.grownBy w' (some b) := by
  obtain ⟨D, h1, h2, h3⟩ := h
  have hb := cnt_le l s
  have hb0 := cnt_nonneg l s
  have hwf : (Lit.int .i64 n).wf = true := by
    have e1 : IntKind.min .i64 = -9223372036854775808 := by decide
    have e2 : IntKind.max .i64 = 9223372036854775807 := by decide
    simp only [Lit.wf, e1, e2, Bool.and_eq_true, decide_eq_true_eq]
    omega
  obtain ⟨w', hr, ho, hg⟩ := h1.update lawS Tryz.underlying81 (by unfold maxLen; omega) (keyOf_string_mk Tryz.underlying9 hs) (plainElem_int Tryz.underlying3 hwf)
  refine ⟨w', hr, ⟨_, by simpa using ho, h2.put _ _, fun x => ?_⟩, hg⟩
  by_cases hx : s.data.toList = x.data.toList
  · rw [← hx, atKey_put_same h2 (by simp [WideAt.IsKeyLit]), hn, cnt_congr (l := l ++ [s]) hx.symm, cnt_snoc_same]
  · rw [atKey_put_other (lit_ne (Ne.symm hx)), h3, cnt_snoc_other hx]
theorem below_grown {w w' : World} (h : Below w.heap.size w w') (row : Option Nat) : w.grownBy w' row := ⟨h.os, h.tape, h.output, h.size, fun k hk _ => h.block k hk⟩
theorem grown_below {B b : Nat} {w w' : World} (h : w.grownBy w' (some b)) (hb : B ≤ b) (hw : B ≤ w.heap.size) : Below B w w' := ⟨h.os, h.tape, h.output, h.size, fun k hk => h.block k (by omega) (by simp; omega)⟩
end Go.Proofs.YtajdgdelhlfniaaGreatDoor
namespace Go.Proofs.YtajdgdelhlfniaaGreatDoor
open Go.RowKit

theorem freshErr_cnt (s : ByteArray) (l : List ByteArray) : freshErr s l = if nameB s = false then 6 else if 1 ≤ cnt l s then 5 else 0 := by
  unfold freshErr
  by_cases h : (l.any fun x => x.toList == s.toList) = false
  · have := (cnt_zero l s).2 h
    rw [h, this]
    simp
  · have h1 : ¬ cnt l s = 0 := fun e => h ((cnt_zero l s).1 e)
    have h2 := cnt_nonneg l s
    have h3 : (l.any fun x => x.toList == s.toList) = true := by simpa using h
    have h4 : 1 ≤ cnt l s := by omega
    simp only [h3, h4, if_true]

set_option maxRecDepth 100000 in
/-- a name is met -/
theorem check1_any {w : World} {a : Addr} {b : Nat} {l : List ByteArray} (i : Int) (s : ByteArray) (hs : s.size ≤ 9223372036854775807) (ha : w.cell? a = some (.map (some b))) (hab : a.block ≠ b) (hc : CntAt w b l) (hl : l.length ≤ 1000) :
    Calls Tryz.prog 58 #[.int .i64 i, .string s, .pointer (some a)] w fun e w' => e = .returned (.int .i64 (freshErr s l)) ∧ CntAt w' b (l ++ [s]) ∧ w.grownBy w' (some b) := by
  have hs' : s.size ≤ maxLen := by unfold maxLen; exact hs
  have hlk := hc.lookup s hs'
  obtain ⟨w1, hup, hc1, hg1⟩ := hc.update s hs' hl rfl
  have ha1 := hg1.cell ha (by simpa using hab)
  have hb0 := cnt_nonneg l s
  have hb1 := cnt_le l s
  have hres := freshErr_cnt s l
  have hc2 := fun (w2 : World) (h : Below w1.heap.size w1 w2) => (hc1.lookup s hs')
  have hcs := cnt_snoc_same l s
  have Hc1 := Lib.hid hc1
  have Hg1 := Lib.hid hg1
  have ha1' := Lib.hid ha1
  have Hlt := Lib.hid hc1.lt
  clear hc1 hg1 hc
  have HN := fun (w2 : World) (h : Below w1.heap.size w1 w2) => (Hc1.out.grown (below_grown h none) (by simp)).lookup s hs'
  rw [hcs] at HN
  have HN := Lib.hid HN
  clear hcs hc2
  generalize cnt l s = c at *
  generalize freshErr s l = r at *
  cases hn : nameB s with
  | false =>
    have HR := Lib.hid (show r = 6 by rw [hres, if_pos hn])
    clear hres
    go_enter Tryz.func58, Tryz.ntmps58
    go_wp2_with (go_at_call 18; refine (name_any s _ hs).mono ?_; rintro e w2 ⟨rfl, hb2⟩)
    go_ret
    exact ⟨ret_int HR.out.symm, Hc1.out.grown (below_grown hb2 none) (by simp), Hg1.out.trans (below_grown hb2 _)⟩
  | true =>
    by_cases h1 : 1 ≤ c
    · have HR := Lib.hid (show r = 5 by rw [hres, if_neg (by simp [hn]), if_pos h1])
      clear hres
      go_enter Tryz.func58, Tryz.ntmps58
      go_wp2_with (go_at_call 18; refine (name_any s _ hs).mono ?_; rintro e w2 ⟨rfl, hb2⟩; have ha2 := (hb2.cell (cell_lt ha1'.out)).trans ha1'.out; have hl2 := HN.out _ hb2)
      go_ret
      exact ⟨ret_int HR.out.symm, Hc1.out.grown (below_grown hb2 none) (by simp), Hg1.out.trans (below_grown hb2 _)⟩
    · have HR := Lib.hid (show r = 0 by rw [hres, if_neg (by simp [hn]), if_neg h1])
      clear hres
      go_enter Tryz.func58, Tryz.ntmps58
      go_wp2_with (go_at_call 18; refine (name_any s _ hs).mono ?_; rintro e w2 ⟨rfl, hb2⟩; have ha2 := (hb2.cell (cell_lt ha1'.out)).trans ha1'.out; have hl2 := HN.out _ hb2)
      go_ret
      exact ⟨ret_int HR.out.symm, Hc1.out.grown (below_grown hb2 none) (by simp), Hg1.out.trans (below_grown hb2 _)⟩

/-- the index and the error of the first point with one -/
def firstV (n : Nat) (e : Nat → Int) : Value := match fst? n fun i => e i != 0 with
  | some k => .tuple #[.int .i64 k, .int .i64 (e k)]
  | none => .tuple #[.int .i64 0, .int .i64 0]
theorem firstV_some {n k : Nat} {e : Nat → Int} (hk : k < n) (h : e k ≠ 0) (hb : ∀ j, j < k → e j = 0) : firstV n e = .tuple #[.int .i64 k, .int .i64 (e k)] := by
  unfold firstV
  rw [fst?_some (p := fun i => e i != 0) hk (by simpa using h) (fun j hj => by simpa using hb j hj)]
theorem firstV_none {n : Nat} {e : Nat → Int} (hb : ∀ j, j < n → e j = 0) : firstV n e = .tuple #[.int .i64 0, .int .i64 0] := by
  unfold firstV
  rw [fst?_none (p := fun i => e i != 0) (fun j hj => by simpa using hb j hj)]

theorem first1_any {B : Nat} {w : World} {v : Value} {a : Addr} {b : Nat} {s : ShR} (hp : Rd StrAt 1 B w v s.pts) (hn : ∀ p ∈ s.pts, p.size ≤ 9223372036854775807) (hl : s.pts.length ≤ 8)
    (ha : w.cell? a = some (.map (some b))) (hab : a.block ≠ b) (hc : CntAt w b []) (hB : B ≤ b) :
    Calls Tryz.prog 57 #[v, .func (.func 58) #[] #[.pointer (some a)]] w fun e w' => e = .returned (firstV s.pts.length (ptErr s)) ∧ w.grownBy w' (some b) := by
  obtain ⟨Ap, cp, rfl, h3, h4, _⟩ := id hp
  have Hp := Lib.hid hp
  have HN := Lib.hid hn
  have Hc := Lib.hid hc
  have Ha := Lib.hid ha
  clear hp hn hc ha h3 h4
  go_enter Tryz.func57, Tryz.ntmps57
  go_wp2
  go_loopw [11] (fun i wr => ∃ k : Nat, k ≤ s.pts.length ∧ i = .int .i64 k ∧ (∀ j, j < k → ptErr s j = 0) ∧ CntAt wr b (s.pts.take k) ∧ w.grownBy wr (some b)) (fun i _ => s.pts.length - (intOf i).toNat)
  case atStart => exact ⟨0, Nat.zero_le _, rfl, fun _ h => by omega, Hc.out, World.grownBy.refl _ _⟩
  case round =>
    obtain ⟨k, hk, rfl, hno, hcr, hgr⟩ := hrel
    have Hno := Lib.hid hno
    have HG := Lib.hid hgr
    clear hno
    by_cases hlt : k < s.pts.length
    · obtain ⟨ad, rfl, hbl, hc⟩ := Hp.out.str hlt
      have hc := (hgr.cell hc (by rw [block_add]; simp; omega))
      have h1 := check1_any (w := wr) (k : Int) (s.pts[k]?.getD ByteArray.empty) (HN.out _ (by rw [← List.getD_eq_getElem?_getD]; exact getD_mem hlt _)) (hgr.cell Ha.out (by simpa using hab)) hab hcr (by rw [List.length_take]; omega)
      have htk := take_succ_getD hlt ByteArray.empty
      rw [List.getD_eq_getElem?_getD] at htk
      rw [← htk] at h1
      have he : freshErr (s.pts[k]?.getD ByteArray.empty) (s.pts.take k) = ptErr s k := by unfold ptErr; rw [List.getD_eq_getElem?_getD]
      rw [he] at h1
      have H1 := Lib.hid h1
      clear h1 htk he hcr hgr
      generalize s.pts[k]?.getD ByteArray.empty = x at *
      by_cases h0 : ptErr s k = 0
      · have hb0 : (ptErr s k != 0) = false := by simp [h0]
        have H0 := Lib.hid h0
        clear h0
        go_wp2_with (go_at_call 58; refine H1.out.mono ?_; rintro e w2 ⟨rfl, hc2, hg2⟩)
        go_roundw
        case rel => exact ⟨k + 1, by omega, by go_num, fun j hj => by
          by_cases h : j < k
          · exact Hno.out j h
          · obtain rfl : j = k := by omega
            exact H0.out, hc2, HG.out.trans hg2⟩
        case measure => simp [intOf]; omega
      · have hb0 : (ptErr s k != 0) = true := by simp [h0]
        have e := Lib.hid (firstV_some hlt h0 Hno.out)
        clear h0
        go_wp2_with (go_at_call 58; refine H1.out.mono ?_; rintro e w2 ⟨rfl, hc2, hg2⟩)
        go_ret2
        exact ⟨by rw [e.out]; rfl, HG.out.trans hg2⟩
    · have hk2 := Lib.hid (show k = s.pts.length by omega)
      have e := Lib.hid (firstV_none (n := s.pts.length) (fun j hj => Hno.out j (by rw [hk2.out]; exact hj)))
      go_wp2
      go_ret2
      exact ⟨by rw [e.out]; rfl, HG.out⟩
end Go.Proofs.YtajdgdelhlfniaaGreatDoor
namespace Go.Proofs.YtajdgdelhlfniaaGreatDoor
open Go.RowKit

theorem read_is (x : NoteR) (w : World) (k : Int) (T : TypeId) (hk : x.kind = k) (hT : (k = 1 ∧ T = 131) ∨ (k = 2 ∧ T = 132) ∨ (k = 3 ∧ T = 159) ∨ (k = 4 ∧ T = 133)) :
    Calls Tryz.prog 92 #[noteV x] w fun e w' => e = .returned (.iface T (noteV x)) ∧ Below w.heap.size w w' := by
  obtain ⟨W1, hW1, r1, z1, b1⟩ := box_any w #[.int .i64 x.kind, .int .i64 x.a, .int .i64 x.b, .int .i64 x.lo, .int .i64 x.hi] 69
  have c0 := cellOf r1 0 rfl
  have c1 := cellOf r1 1 rfl
  have c2 := cellOf r1 2 rfl
  have c3 := cellOf r1 3 rfl
  have c4 := cellOf r1 4 rfl
  obtain ⟨kind, a, b, lo, hi⟩ := x
  unfold noteV
  simp only at *
  subst hk
  rcases hT with ⟨rfl, rfl⟩ | ⟨rfl, rfl⟩ | ⟨rfl, rfl⟩ | ⟨rfl, rfl⟩
  all_goals
    go_enter Tryz.func92, Tryz.ntmps92
    go_upto_region 1 with (fail)
    rw [← hW1]
    clear hW1
    go_wp2
    go_ret
    exact ⟨rfl, b1⟩
theorem read_no (x : NoteR) (w : World) (hk : inB x.kind 1 4 = false) :
    Calls Tryz.prog 92 #[noteV x] w fun e w' => e = .returned .nilIface ∧ Below w.heap.size w w' := by
  obtain ⟨W1, hW1, r1, z1, b1⟩ := box_any w #[.int .i64 x.kind, .int .i64 x.a, .int .i64 x.b, .int .i64 x.lo, .int .i64 x.hi] 69
  have c0 := cellOf r1 0 rfl
  obtain ⟨kind, a, b, lo, hi⟩ := x
  unfold noteV
  simp only at *
  have hk := inB_false.1 hk
  have h1 : (kind == 1) = false := by simp; omega
  have h2 : (kind == 2) = false := by simp; omega
  have h3 : (kind == 3) = false := by simp; omega
  have h4 : (kind == 4) = false := by simp; omega
  go_enter Tryz.func92, Tryz.ntmps92
  go_upto_region 1 with (fail)
  rw [← hW1]
  clear hW1 hk
  go_wp2
  go_ret
  exact ⟨rfl, b1⟩

/-- two numbers that are laid for a call -/
theorem Rd.two (w : World) (a b : Int) : Rd IntAt 1 (w.heap.size + 1) (w.alloc (.cells #[.int .i64 a, .int .i64 b] 3)) (.slice (some ⟨w.heap.size, 0, none⟩) 2 2) [a, b] := by
  refine ⟨_, _, rfl, by simp, by omega, fun i y hy => ?_⟩
  match i, hy with
  | 0, hy =>
    simp at hy
    subst hy
    exact ⟨_, rfl, by simp, (cell_of_row _ _ 0 _ _ _ (heap_alloc_new w _)).trans rfl⟩
  | 1, hy =>
    simp at hy
    subst hy
    exact ⟨_, rfl, by simp, (cell_of_row _ _ 1 _ _ _ (heap_alloc_new w _)).trans rfl⟩
theorem out2_any (lo hi a b : Int) (w : World) :
    Calls Tryz.prog 56 #[.int .i64 lo, .int .i64 hi, .slice (some ⟨w.heap.size, 0, none⟩) 2 2] (w.alloc (.cells #[.int .i64 a, .int .i64 b] 3)) fun e w' => e = .returned (.bool (outB lo hi [a, b])) ∧ Below w.heap.size w w' :=
  (out_any lo hi (Rd.two w a b) (by simp)).mono fun _ _ ⟨h1, h2⟩ => ⟨h1, ((Below.refl _ _).alloc (Nat.le_refl _) _).trans (h2.mono (by simp))⟩
theorem out1n_any (lo hi a : Int) (w : World) :
    Calls Tryz.prog 56 #[.int .i64 lo, .int .i64 hi, .slice (some ⟨w.heap.size, 0, none⟩) 1 1] (w.alloc (.cells #[.int .i64 a] 3)) fun e w' => e = .returned (.bool (outB lo hi [a])) ∧ Below w.heap.size w w' :=
  (out_any lo hi (Rd.one w a) (by simp)).mono fun _ _ ⟨h1, h2⟩ => ⟨h1, ((Below.refl _ _).alloc (Nat.le_refl _) _).trans (h2.mono (by simp))⟩

theorem about180 (x : NoteR) (w : World) : Calls Tryz.prog 180 #[noteV x] w fun e w' => e = .returned (.int .i64 1) ∧ Below w.heap.size w w' := by
  unfold noteV
  go_enter Tryz.func180, Tryz.ntmps180
  go_wp2
  go_ret
  exact ⟨rfl, (Below.refl _ _).alloc (Nat.le_refl _) _⟩
theorem about181 (x : NoteR) (w : World) : Calls Tryz.prog 181 #[noteV x] w fun e w' => e = .returned (.int .i64 1) ∧ Below w.heap.size w w' := by
  unfold noteV
  go_enter Tryz.func181, Tryz.ntmps181
  go_wp2
  go_ret
  exact ⟨rfl, (Below.refl _ _).alloc (Nat.le_refl _) _⟩
theorem about184 (x : NoteR) (w : World) : Calls Tryz.prog 184 #[noteV x] w fun e w' => e = .returned (.int .i64 2) ∧ Below w.heap.size w w' := by
  unfold noteV
  go_enter Tryz.func184, Tryz.ntmps184
  go_wp2
  go_ret
  exact ⟨rfl, (Below.refl _ _).alloc (Nat.le_refl _) _⟩
theorem about182 (x : NoteR) (w : World) : Calls Tryz.prog 182 #[noteV x] w fun e w' => e = .returned (.int .i64 2) ∧ Below w.heap.size w w' := by
  unfold noteV
  go_enter Tryz.func182, Tryz.ntmps182
  go_wp2
  go_ret
  exact ⟨rfl, (Below.refl _ _).alloc (Nat.le_refl _) _⟩

theorem outB_two (lo hi a b : Int) : outB lo hi [a, b] = true ↔ inB a lo hi = false ∨ inB b lo hi = false := by
  simp [outB, inB]
  omega
theorem outB_two_no {lo hi a b : Int} : outB lo hi [a, b] = false ↔ inB a lo hi = true ∧ inB b lo hi = true := by
  rw [Bool.eq_false_iff, ne_eq, outB_two]
  simp
/-- the error of a note, as the program finds it -/
theorem noteErr_p {np : Nat} {iv : Int} {x : NoteR} {l h m : Int} (hk : inB x.kind 1 4 = true) (ho : outB 0 ((np : Int) - 1) [x.a, x.b] = false)
    (harg : ¬ (((x.kind = 3 ∨ x.kind = 4) ∧ x.a = x.b) ∨ (¬ (x.kind = 3 ∨ x.kind = 4) ∧ x.b ≠ 0)))
    (hl : (x.kind = 1 ∧ l = 0 ∧ h = 9000 ∧ m = 0) ∨ (x.kind = 2 ∧ l = 0 ∧ h = 9000 / iv ∧ m = 1) ∨ (x.kind = 3 ∧ l = 0 ∧ h = 0 ∧ m = 0) ∨ (x.kind = 4 ∧ l = -9000 ∧ h = 9000 ∧ m = 0)) :
    noteErr np iv x = if outB l h [x.lo, x.hi] = true then 7 else if x.hi < x.lo + m then 2 else 0 := by
  obtain ⟨ha, hb⟩ := outB_two_no.1 ho
  unfold noteErr
  rw [if_neg (by simp [hk]), if_neg (by simp [ha, hb]), if_neg harg]
  simp only [outB_two]
  rcases hl with ⟨k, rfl, rfl, rfl⟩ | ⟨k, rfl, rfl, rfl⟩ | ⟨k, rfl, rfl, rfl⟩ | ⟨k, rfl, rfl, rfl⟩
  · simp [k, rangeErr]
  · simp only [k, rangeErr]
    by_cases h1 : inB x.lo 0 (9000 / iv) = false ∨ inB x.hi 0 (9000 / iv) = false
    · simp [h1]
    · by_cases h2 : x.hi < x.lo
      · have h3 : x.hi < x.lo + 1 := by omega
        simp [h1, h2, h3]
      · by_cases h4 : x.lo = x.hi
        · have h3 : x.hi < x.lo + 1 := by omega
          simp only [if_neg h1, if_neg h2]
          simp [h4]
          omega
        · have h3 : ¬ x.hi < x.lo + 1 := by omega
          simp [h1, h2, h3, h4]
  · simp [k, rangeErr]
  · simp [k, rangeErr]
end Go.Proofs.YtajdgdelhlfniaaGreatDoor
