/- Walks of the layer sheet: sheet.Name and the reference's Name, Place, Fresh. Walks of the layer sheet: the reference's Name, Place, Fresh. -/
import Derived.Test.YtajdgdelhlfniaaGreatDoorGPure
import Derived.Laws.RangeAny
import Derived.Laws.RangeString
set_option linter.unusedSimpArgs false
set_option linter.unusedVariables false
namespace Go.Proofs.YtajdgdelhlfniaaGreatDoor
open Go.RowKit

def okAt (l : List UInt8) (k : Nat) : Bool := if k = 0 then loB (l.getD 0 0) else restB (l.getD k 0)
theorem nameL_iff (l : List UInt8) : nameL l = true ↔ 0 < l.length ∧ (∀ k, k < l.length → okAt l k = true) ∧ l.length ≤ 16 := by
  cases l with
  | nil => simp [nameL]
  | cons c r =>
    simp only [nameL, Bool.and_eq_true, decide_eq_true_eq, List.all_eq_true, List.length_cons]
    constructor
    · rintro ⟨⟨h1, h2⟩, h3⟩
      refine ⟨by omega, fun k hk => ?_, h3⟩
      unfold okAt
      cases k with
      | zero => simpa using h1
      | succ k =>
        have h3 : k < r.length := by simpa using hk
        simpa [h3] using h2 _ (List.getElem_mem h3)
    · rintro ⟨_, h2, h3⟩
      refine ⟨⟨by simpa [okAt] using h2 0 (by omega), fun x hx => ?_⟩, h3⟩
      obtain ⟨i, hi, rfl⟩ := List.getElem_of_mem hx
      have := h2 (i + 1) (by omega)
      simpa [okAt, hi] using this
theorem okAt_iff {l : List UInt8} {k : Nat} : okAt l k = true ↔ (97 ≤ (l.getD k 0).toNat ∧ (l.getD k 0).toNat ≤ 122) ∨ (0 < k ∧ ((48 ≤ (l.getD k 0).toNat ∧ (l.getD k 0).toNat ≤ 57) ∨ (l.getD k 0).toNat = 45)) := by
  unfold okAt
  split
  · rename_i h; subst h; simp [loB]
  · simp [loB, restB]; omega
theorem byte_at (s : ByteArray) {k : Nat} (h : k < s.size) : (s[k]'h).toNat = (s.data.toList.getD k 0).toNat := by
  have h' : k < s.data.size := h
  rw [getD_at (by simpa using h') 0]
  simp
  rfl

set_option maxHeartbeats 1000000 in
theorem name_any (s : ByteArray) (w : World) (hs : s.size ≤ 9223372036854775807) :
    Calls Tryz.prog 18 #[.string s] w fun e w' => e = .returned (.bool (nameB s)) ∧ Below w.heap.size w w' := by
  have hsz : s.data.toList.length = s.size := by simp
  have Hiff := Lib.hid (nameL_iff s.data.toList)
  rw [hsz] at Hiff
  have Hsz := Lib.hid hsz
  clear hsz
  go_enter Tryz.func18, Tryz.ntmps18
  go_wp2
  go_loopw [] (fun wr => ∃ k : Nat, k ≤ s.size ∧ wr = w.iter s k ∧ (∀ j, j < k → okAt s.data.toList j = true)) (fun wr => s.size - wr.iterPos w.heap.size)
  case atStart => exact ⟨0, by omega, rfl, fun _ h => by omega⟩
  case round =>
    obtain ⟨k, hk, rfl, hno⟩ := hrel
    have Hno := Lib.hid hno
    clear hno
    by_cases hlt : k < s.size
    · have hb := byte_at s hlt
      have Hok := Lib.hid (okAt_iff (l := s.data.toList) (k := k))
      by_cases ha : (s[k]'hlt).toNat < 128
      · have hn := fun ty => run_next_ascii (P := Tryz.prog) w s k ty hlt ha
        rw [hb] at ha
        rw [hb] at hn
        clear hb
        generalize s.data.toList.getD k 0 = c at ha hn Hok
        obtain ⟨b45, e45, f45⟩ : ∃ b, ((c.toNat : Int) == 45) = b ∧ (b = true ↔ c.toNat = 45) := ⟨_, rfl, by simp; omega⟩
        by_cases hok : okAt s.data.toList k = true
        · have hc := Hok.out.1 hok
          have HO := Lib.hid hok
          clear hok
          have hend : (∃ k_1, k_1 ≤ s.size ∧ w.iter s (k + 1) = w.iter s k_1 ∧ ∀ (j : Nat), j < k_1 → okAt s.data.toList j = true) ∧ s.size - (w.iter s (k + 1)).iterPos w.heap.size < s.size - (w.iter s k).iterPos w.heap.size :=
            ⟨⟨k + 1, by omega, rfl, fun j hj => by
              by_cases h : j < k
              · exact Hno.out j h
              · obtain rfl : j = k := by omega
                exact HO.out⟩, by simp; omega⟩
          have Hend := Lib.hid hend
          clear hend
          cases b45 with
          | true =>
            have h0 : 0 < k := by have := f45.1 rfl; omega
            have h1 : c.toNat < 48 := by have := f45.1 rfl; omega
            clear f45 hc
            go_wp2
            all_goals exact Hend.out
          | false =>
            have h1 : ¬ c.toNat = 45 := fun h => by simpa using f45.2 h
            clear f45
            go_wp2
            all_goals exact Hend.out
        · have hc : ¬ _ := fun h => hok (Hok.out.2 h)
          have hres := Lib.hid (show nameB s = false from Bool.eq_false_iff.2 fun h => hok ((Hiff.out.1 h).2.1 k hlt))
          clear hok
          have hc1 : ¬ (97 ≤ c.toNat ∧ c.toNat ≤ 122) := fun h => hc (.inl h)
          have hc2 : ¬ (0 < k ∧ ((48 ≤ c.toNat ∧ c.toNat ≤ 57) ∨ c.toNat = 45)) := fun h => hc (.inr h)
          clear hc
          cases b45 with
          | true =>
            have h0 : ¬ 0 < k := fun h => hc2 ⟨h, .inr (f45.1 rfl)⟩
            have h1 : c.toNat < 48 := by have := f45.1 rfl; omega
            clear f45 hc2 hc1
            go_wp2
            go_ret
            exact ⟨ret_bool hres.out.symm, (Below.refl _ _).alloc (Nat.le_refl _) _⟩
          | false =>
            have h1 : ¬ c.toNat = 45 := fun h => by simpa using f45.2 h
            rcases (show c.toNat < 97 ∨ 122 < c.toNat by omega) with g1 | g1 <;> rcases (show ¬ 0 < k ∨ (0 < k ∧ c.toNat < 48) ∨ (0 < k ∧ 57 < c.toNat) by omega) with g2 | ⟨g2, g3⟩ | ⟨g2, g3⟩
            all_goals
              clear f45 hc2 hc1 h1
              try have d1 : decide ((c.toNat : Int) ≤ 122) = false := by simp; omega
              try have d2 : decide ((c.toNat : Int) ≤ 57) = false := by simp; omega
              go_wp2
              all_goals go_ret
              all_goals exact ⟨ret_bool hres.out.symm, (Below.refl _ _).alloc (Nat.le_refl _) _⟩
      · have hn := fun ty => run_next_any (P := Tryz.prog) w s k ty hlt
        have hd := decode_high s k hlt (by omega)
        have hres := Lib.hid (show nameB s = false from Bool.eq_false_iff.2 fun h => by
          have := Hok.out.1 ((Hiff.out.1 h).2.1 k hlt)
          rw [← hb] at this
          omega)
        clear hb ha Hok
        obtain ⟨h1, h2⟩ := hd
        have e45 : ((((Utf8.decode s k).1 : Nat) : Int) == 45) = false := by simp; omega
        generalize (Utf8.decode s k).1 = r at *
        generalize (Utf8.decode s k).2 = m at *
        have d1 : decide ((r : Int) ≤ 122) = false := by simp; omega
        have d2 : decide ((r : Int) ≤ 57) = false := by simp; omega
        by_cases g2 : 0 < k
        all_goals go_wp2
        all_goals go_ret
        all_goals exact ⟨ret_bool hres.out.symm, (Below.refl _ _).alloc (Nat.le_refl _) _⟩
    · have hn := fun ty => run_next_end (P := Tryz.prog) w s k ty hlt
      have hk2 := Lib.hid (show k = s.size by omega)
      have hres : nameB s = (!s.toList.isEmpty && decide ((s.size : Int) ≤ 16)) := by
        have h0 : s.toList.isEmpty = decide (s.size = 0) := by
          have : s.toList.length = s.size := by rw [ByteArray.toList_eq]; simp
          rw [← this]
          cases s.toList <;> simp
        rw [h0, Bool.eq_iff_iff]
        simp only [Bool.and_eq_true, Bool.not_eq_true', decide_eq_false_iff_not, decide_eq_true_eq]
        have := Hiff.out
        constructor
        · intro h
          have := this.1 h
          omega
        · rintro ⟨h1, h2⟩
          exact this.2 ⟨by omega, fun j hj => Hno.out j (by rw [hk2.out]; exact hj), by omega⟩
      have Hres := Lib.hid hres
      clear hres
      go_wp2
      · have h : s.toList = [] := by assumption
        go_ret
        exact ⟨ret_bool (by rw [Hres.out, h]; rfl), (Below.refl _ _).alloc (Nat.le_refl _) _⟩
      · go_ret
        exact ⟨ret_bool Hres.out.symm, (Below.refl _ _).alloc (Nat.le_refl _) _⟩
end Go.Proofs.YtajdgdelhlfniaaGreatDoor
namespace Go.Proofs.YtajdgdelhlfniaaGreatDoor
open Go.RowKit

theorem place_any {B : Nat} {w : World} {v : Value} {xs : List ByteArray} (s : ByteArray) (hv : Rd StrAt 1 B w v xs) :
    Calls Tryz.prog 93 #[v, .string s] w fun e w' => e = .returned (.int .i64 (idxOf xs.length fun i => (xs[i]?.getD ByteArray.empty).toList == s.toList)) ∧ w' = w := by
  have hlen := hv.len
  obtain ⟨A, cap, rfl, h1, h2, _⟩ := id hv
  go_enter Tryz.func93, Tryz.ntmps93
  go_wp2
  go_loop [5] (fun i => ∃ k : Nat, k ≤ xs.length ∧ i = .int .i64 k ∧ (∀ j, j < k → ((xs[j]?.getD ByteArray.empty).toList == s.toList) = false)) (fun i => xs.length - (intOf i).toNat)
  case atStart => exact ⟨0, Nat.zero_le _, rfl, fun _ h => by omega⟩
  case round =>
    obtain ⟨k, hk, rfl, hno⟩ := hrel
    have Hno := Lib.hid hno
    clear hno
    by_cases hlt : k < xs.length
    · obtain ⟨ad, rfl, _, hc⟩ := hv.str hlt
      clear hv
      by_cases ho : ((xs[k]?.getD ByteArray.empty).toList == s.toList) = true
      · have hr := Lib.hid (idxOf_some (fst?_some hlt (p := fun i => (xs[i]?.getD ByteArray.empty).toList == s.toList) ho Hno.out))
        generalize xs[k]?.getD ByteArray.empty = x at ho hc
        go_wp2
        go_ret
        exact ⟨ret_int hr.out.symm, rfl⟩
      · have ho := Bool.eq_false_iff.2 ho
        have Ho := Lib.hid ho
        generalize xs[k]?.getD ByteArray.empty = x at ho hc
        go_wp2
        go_round
        case rel => exact ⟨k + 1, by omega, by go_num, fun j hj => by
          by_cases h : j < k
          · exact Hno.out j h
          · obtain rfl : j = k := by omega
            exact Ho.out⟩
        case measure => simp [intOf]; omega
    · have hr := Lib.hid (idxOf_none (fst?_none (n := xs.length) (p := fun i => (xs[i]?.getD ByteArray.empty).toList == s.toList) (fun j hj => Hno.out j (by omega))))
      clear hv
      go_wp2
      go_ret
      exact ⟨ret_int hr.out.symm, rfl⟩

set_option maxHeartbeats 1000000 in
theorem nameRef_any (s : ByteArray) (w : World) (hs : s.size ≤ 9223372036854775807) :
    Calls Tryz.prog 19 #[.string s] w fun e w' => e = .returned (.bool (nameB s)) ∧ w' = w := by
  have hsz : s.data.toList.length = s.size := by simp
  have Hiff := Lib.hid (nameL_iff s.data.toList)
  rw [hsz] at Hiff
  clear hsz
  by_cases hr : inB s.size 1 16 = true
  · have hr' := inB_iff.1 hr
    have HR := Lib.hid hr
    have h0 : 0 < s.size := by omega
    have e0 := byte_at s h0
    have Hok := Lib.hid (okAt_iff (l := s.data.toList) (k := 0))
    by_cases hc : 97 ≤ (s[0]'h0).toNat ∧ (s[0]'h0).toNat ≤ 122
    · obtain ⟨hc1, hc2⟩ := hc
      have d1 : decide (((s[0]'h0).toNat : Int) < 97) = false := by simp; omega
      have d2 : decide ((122 : Int) < ((s[0]'h0).toNat : Int)) = false := by simp; omega
      have HC := Lib.hid (show okAt s.data.toList 0 = true from Hok.out.2 (.inl (by rw [← e0]; exact ⟨hc1, hc2⟩)))
      clear e0 hc1 hc2 Hok
      go_enter Tryz.func19, Tryz.ntmps19
      go_wp2_with (go_at_call 62; refine (in_any _ _ _ _).mono ?_; rintro e w' ⟨rfl, rfl⟩)
      clear d1 d2
      go_loop [3] (fun i => ∃ k : Nat, k ≤ s.size ∧ i = .int .i64 k ∧ (∀ j, j < k → okAt s.data.toList j = true)) (fun i => s.size - (intOf i).toNat)
      case atStart => exact ⟨0, Nat.zero_le _, rfl, fun _ h => by omega⟩
      case round =>
        obtain ⟨k, hk, rfl, hno⟩ := hrel
        have Hno := Lib.hid hno
        clear hno
        by_cases hlt : k < s.size
        · have Hb := Lib.hid (byte_at s hlt)
          have Hok := Lib.hid (okAt_iff (l := s.data.toList) (k := k))
          rw [← Hb.out] at Hok
          by_cases hok : okAt s.data.toList k = true
          · have hc := Hok.out.1 hok
            have HO := Lib.hid hok
            clear hok
            rcases (show (97 ≤ (s[k]'hlt).toNat ∧ (s[k]'hlt).toNat ≤ 122) ∨ (48 ≤ (s[k]'hlt).toNat ∧ (s[k]'hlt).toNat ≤ 57) ∨ (s[k]'hlt).toNat = 45 by omega) with g | g | g
            · have d1 : decide (((s[k]'hlt).toNat : Int) < 97) = false := by simp; omega
              have d2 : decide ((122 : Int) < ((s[k]'hlt).toNat : Int)) = false := by simp; omega
              clear g hc
              go_wp2
              go_round
              case rel => exact ⟨k + 1, by omega, by go_num, fun j hj => by
                by_cases h : j < k
                · exact Hno.out j h
                · obtain rfl : j = k := by omega
                  exact HO.out⟩
              case measure => simp [intOf]; omega
            · have d1 : decide (((s[k]'hlt).toNat : Int) < 97) = true := by simp; omega
              have d3 : decide (((s[k]'hlt).toNat : Int) < 48) = false := by simp; omega
              have d4 : decide ((57 : Int) < ((s[k]'hlt).toNat : Int)) = false := by simp; omega
              clear g hc
              go_wp2
              go_round
              case rel => exact ⟨k + 1, by omega, by go_num, fun j hj => by
                by_cases h : j < k
                · exact Hno.out j h
                · obtain rfl : j = k := by omega
                  exact HO.out⟩
              case measure => simp [intOf]; omega
            · have d1 : decide (((s[k]'hlt).toNat : Int) < 97) = true := by simp; omega
              have d3 : decide (((s[k]'hlt).toNat : Int) < 48) = true := by simp; omega
              have d5 : (((s[k]'hlt).toNat : Int) != 45) = false := by simp; omega
              clear g hc
              go_wp2
              go_round
              case rel => exact ⟨k + 1, by omega, by go_num, fun j hj => by
                by_cases h : j < k
                · exact Hno.out j h
                · obtain rfl : j = k := by omega
                  exact HO.out⟩
              case measure => simp [intOf]; omega
          · have hres := Lib.hid (show nameB s = false from Bool.eq_false_iff.2 fun h => hok ((Hiff.out.1 h).2.1 k hlt))
            have hk0 : 0 < k := by
              rcases Nat.eq_zero_or_pos k with h | h
              · subst h; exact absurd HC.out hok
              · exact h
            have hc : ¬ _ := fun h => hok (Hok.out.2 h)
            have hc1 : ¬ (97 ≤ (s[k]'hlt).toNat ∧ (s[k]'hlt).toNat ≤ 122) := fun h => hc (.inl h)
            have hc2 : ¬ ((48 ≤ (s[k]'hlt).toNat ∧ (s[k]'hlt).toNat ≤ 57) ∨ (s[k]'hlt).toNat = 45) := fun h => hc (.inr ⟨hk0, h⟩)
            have d5 : (((s[k]'hlt).toNat : Int) != 45) = true := by simp; omega
            clear hok hc
            rcases (show 122 < (s[k]'hlt).toNat ∨ ((s[k]'hlt).toNat < 97 ∧ (s[k]'hlt).toNat < 48) ∨ ((s[k]'hlt).toNat < 97 ∧ 57 < (s[k]'hlt).toNat) by omega) with g | g | g
            · have d1 : decide (((s[k]'hlt).toNat : Int) < 97) = false := by simp; omega
              have d2 : decide ((122 : Int) < ((s[k]'hlt).toNat : Int)) = true := by simp; omega
              have d3 : decide (((s[k]'hlt).toNat : Int) < 48) = false := by simp; omega
              have d4 : decide ((57 : Int) < ((s[k]'hlt).toNat : Int)) = true := by simp; omega
              clear g hc1 hc2
              go_wp2
              go_ret
              exact ⟨ret_bool hres.out.symm, rfl⟩
            · have d1 : decide (((s[k]'hlt).toNat : Int) < 97) = true := by simp; omega
              have d3 : decide (((s[k]'hlt).toNat : Int) < 48) = true := by simp; omega
              clear g hc1 hc2
              go_wp2
              go_ret
              exact ⟨ret_bool hres.out.symm, rfl⟩
            · have d1 : decide (((s[k]'hlt).toNat : Int) < 97) = true := by simp; omega
              have d3 : decide (((s[k]'hlt).toNat : Int) < 48) = false := by simp; omega
              have d4 : decide ((57 : Int) < ((s[k]'hlt).toNat : Int)) = true := by simp; omega
              clear g hc1 hc2
              go_wp2
              go_ret
              exact ⟨ret_bool hres.out.symm, rfl⟩
        · have hk2 := Lib.hid (show k = s.size by omega)
          have hres := Lib.hid (show nameB s = true from Hiff.out.2 ⟨by omega, fun j hj => Hno.out j (by rw [hk2.out]; exact hj), by omega⟩)
          go_wp2
          go_ret
          exact ⟨ret_bool hres.out.symm, rfl⟩
    · have hres := Lib.hid (show nameB s = false from Bool.eq_false_iff.2 fun h => by
        have h := Hok.out.1 ((Hiff.out.1 h).2.1 0 h0)
        rw [← e0] at h
        omega)
      rcases (show (s[0]'h0).toNat < 97 ∨ (97 ≤ (s[0]'h0).toNat ∧ 122 < (s[0]'h0).toNat) by omega) with g | g
      · have d1 : decide (((s[0]'h0).toNat : Int) < 97) = true := by simp; omega
        clear hc Hok e0 g
        go_enter Tryz.func19, Tryz.ntmps19
        go_wp2_with (go_at_call 62; refine (in_any _ _ _ _).mono ?_; rintro e w' ⟨rfl, rfl⟩)
        go_ret
        exact ⟨ret_bool hres.out.symm, rfl⟩
      · have d1 : decide (((s[0]'h0).toNat : Int) < 97) = false := by simp; omega
        have d2 : decide ((122 : Int) < ((s[0]'h0).toNat : Int)) = true := by simp; omega
        clear hc Hok e0 g
        go_enter Tryz.func19, Tryz.ntmps19
        go_wp2_with (go_at_call 62; refine (in_any _ _ _ _).mono ?_; rintro e w' ⟨rfl, rfl⟩)
        go_ret
        exact ⟨ret_bool hres.out.symm, rfl⟩
  · have hr := Bool.eq_false_iff.2 hr
    have hr' := inB_false.1 hr
    have hres := Lib.hid (show nameB s = false from Bool.eq_false_iff.2 fun h => by
      have := Hiff.out.1 h
      omega)
    clear hr'
    go_enter Tryz.func19, Tryz.ntmps19
    go_wp2_with (go_at_call 62; refine (in_any _ _ _ _).mono ?_; rintro e w' ⟨rfl, rfl⟩)
    go_ret
    exact ⟨ret_bool hres.out.symm, rfl⟩

theorem fresh_any {B : Nat} {w : World} {v : Value} {xs : List ByteArray} (s : ByteArray) (hv : Rd StrAt 1 B w v xs) (hs : s.size ≤ 9223372036854775807) :
    Calls Tryz.prog 63 #[.string s, v] w fun e w' => e = .returned (.int .i64 (freshErr s xs)) ∧ w' = w := by
  have e := idxOf_any xs (fun x => x.toList == s.toList) (fun i => (xs[i]?.getD ByteArray.empty).toList == s.toList) fun i hi => by simp [List.getElem?_eq_getElem hi]
  have h := Lib.hid (place_any s hv)
  have hres : freshErr s xs = if nameB s = false then 6 else if (xs.any fun x => x.toList == s.toList) then 5 else 0 := rfl
  rw [← e] at hres
  clear e
  generalize (idxOf xs.length fun i => (xs[i]?.getD ByteArray.empty).toList == s.toList) = n at *
  generalize freshErr s xs = r at *
  by_cases hn : nameB s = true
  · by_cases h0 : 0 ≤ n
    · have hr := Lib.hid (show r = 5 by rw [hres, if_neg (by simp [hn])]; simp [h0])
      clear hres
      go_enter Tryz.func63, Tryz.ntmps63
      go_wp2_with (first | (go_at_call 19; refine (nameRef_any s _ hs).mono ?_; rintro e w' ⟨rfl, rfl⟩) | (go_at_call 93; refine h.out.mono ?_; rintro e w' ⟨rfl, rfl⟩))
      go_ret
      exact ⟨ret_int hr.out.symm, rfl⟩
    · have hr := Lib.hid (show r = 0 by rw [hres, if_neg (by simp [hn])]; simp [h0])
      clear hres
      go_enter Tryz.func63, Tryz.ntmps63
      go_wp2_with (first | (go_at_call 19; refine (nameRef_any s _ hs).mono ?_; rintro e w' ⟨rfl, rfl⟩) | (go_at_call 93; refine h.out.mono ?_; rintro e w' ⟨rfl, rfl⟩))
      go_ret
      exact ⟨ret_int hr.out.symm, rfl⟩
  · have hn := Bool.eq_false_iff.2 hn
    have hr := Lib.hid (show r = 6 by rw [hres, if_pos hn])
    clear hres
    go_enter Tryz.func63, Tryz.ntmps63
    go_wp2_with (first | (go_at_call 19; refine (nameRef_any s _ hs).mono ?_; rintro e w' ⟨rfl, rfl⟩) | (go_at_call 93; refine h.out.mono ?_; rintro e w' ⟨rfl, rfl⟩))
    go_ret
    exact ⟨ret_int hr.out.symm, rfl⟩
end Go.Proofs.YtajdgdelhlfniaaGreatDoor
