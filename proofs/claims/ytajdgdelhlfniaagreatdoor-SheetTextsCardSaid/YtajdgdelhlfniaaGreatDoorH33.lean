/- Walks of the reference of the layer sheet: Digits, Decimal, Signed, Cut. Walks of the reference of the layer sheet: Decimal, Signed. -/
import Derived.Test.YtajdgdelhlfniaaGreatDoorH32
import Derived.Test.YtajdgdelhlfniaaGreatDoorH5
import Derived.Test.YtajdgdelhlfniaaGreatDoorH12
import Derived.Laws.BytesArg
import Derived.Lib.ItoaLen
set_option linter.unusedSimpArgs false
set_option linter.unusedVariables false
namespace Go.Proofs.YtajdgdelhlfniaaGreatDoor
open Go.RowKit

theorem conv_byte (w : World) (g : Nat) (x : Int) (h : w.cell? ⟨g, 0, none⟩ = some (.int .u8 x)) : (convert 149 9 (.slice (some ⟨g, 0, none⟩) 1 1)).run Tryz.prog w = .ok (.string (toB [UInt8.ofNat x.toNat])) w := by
  have := run_convert_bytes_arg (P := Tryz.prog) w 149 5 (by kernel_rfl) (by kernel_rfl) g 0 1 1 [x] rfl (fun i hi => by
    obtain rfl : i = 0 := by omega
    simpa using h) 9 (by kernel_rfl)
  rw [this]
  rfl
theorem digits_small {u : Nat} (h : u < 10) : Lib.decDigits u = [UInt8.ofNat (48 + u)] := by rw [Lib.decDigits, dif_pos h]
theorem digits_big {u : Nat} (h : ¬ u < 10) : Lib.decDigits u = Lib.decDigits (u / 10) ++ Lib.decDigits (u % 10) := by
  rw [digits_small (Nat.mod_lt _ (by omega))]
  conv => lhs; rw [Lib.decDigits, dif_neg h]
theorem digits_len {u : Nat} (h : u ≤ 1000000000000) : (Lib.decDigits u).length ≤ 20 := by
  rw [Lib.decDigits_length]
  exact Lib.nDigits_le20 u (by omega)
theorem cat_fits {a b : List UInt8} (h : a.length + b.length ≤ 1000000) : ¬ 9223372036854775807 < (toB a).size + (toB b).size := by
  rw [toB_size, toB_size]
  omega
set_option maxRecDepth 100000 in
set_option maxHeartbeats 4000000 in
theorem digits_nat : ∀ (u : Nat), u ≤ 1000000000000 → ∀ w : World, Calls Tryz.prog 107 #[.int .i64 u] w fun e w' => e = .returned (.string (toB (Lib.decDigits u))) ∧ Below w.heap.size w w' := by
  intro u
  induction u using Nat.strongRecOn with
  | ind u ih =>
    intro hu w
    by_cases h : u < 10
    · have hd := Lib.hid (digits_small h)
      have w1 : IntKind.i64.wrap (48 + (u : Int)) = 48 + (u : Int) := IntWalk.i64_in _ (by omega)
      have w2 : IntKind.u8.wrap (48 + (u : Int)) = 48 + (u : Int) := IntWalk.u8_in _ (by omega)
      have hc := conv_byte (w.alloc (.cells #[.int .u8 (48 + (u : Int))] 5)) w.heap.size (48 + (u : Int)) (cellOf (heap_alloc_new w _) 0 rfl)
      have h1 : ((u : Int) < 10) := by omega
      go_enter Tryz.func107, Tryz.ntmps107
      go_wp2
      go_ret
      exact ⟨by rw [hd.out]; rfl, (Below.refl _ _).alloc (Nat.le_refl _) _⟩
    · have hd := Lib.hid (digits_big h)
      have HQ := Lib.hid (ih (u / 10) (by omega) (by omega))
      have HR := Lib.hid (ih (u % 10) (by omega) (by omega))
      have e1 : (u : Int).tdiv 10 = ((u / 10 : Nat) : Int) := rfl
      have e2 : (u : Int).tmod 10 = ((u % 10 : Nat) : Int) := rfl
      have q1 : u / 10 ≤ 1000000000000 := by omega
      have q2 : u % 10 < 10 := Nat.mod_lt _ (by omega)
      generalize u / 10 = q at *
      generalize u % 10 = r at *
      have w1 : IntKind.i64.wrap (q : Int) = q := IntWalk.i64_in _ (by omega)
      have w2 : IntKind.i64.wrap (r : Int) = r := IntWalk.i64_in _ (by omega)
      have h1 : ¬ ((u : Int) < 10) := by omega
      clear ih
      have hs := cat_fits (a := Lib.decDigits q) (b := Lib.decDigits r) (by have := digits_len (u := q) (by omega); have := digits_len (u := r) (by omega); omega)
      go_enter Tryz.func107, Tryz.ntmps107
      go_wp2_with (first | (go_at_call 107; (with_reducible refine Calls.mono (HQ.out w) ?_); rintro e X ⟨rfl, hX⟩) | (go_at_call 107; (with_reducible refine Calls.mono (HR.out _) ?_); rintro e Y ⟨rfl, hY⟩))
      go_ret
      exact ⟨by rw [hd.out, ← toB_append]; rfl, hX.trans (hY.mono hX.size)⟩
theorem itB_toB (n : Int) : itB n = toB (Lib.itoa n) := rfl
theorem digits_any (n : Int) (hn : -1000000000000 ≤ n ∧ n ≤ 1000000000000) (w : World) : Calls Tryz.prog 107 #[.int .i64 n] w fun e w' => e = .returned (.string (itB n)) ∧ Below w.heap.size w w' := by
  by_cases h : n < 0
  · obtain ⟨k, hk⟩ : ∃ k : Nat, -n = k := ⟨n.natAbs, by omega⟩
    have HR := Lib.hid (digits_nat k (by omega))
    have hd := Lib.hid (show Lib.itoa n = [45] ++ Lib.decDigits k by unfold Lib.itoa; rw [if_pos h, show n.natAbs = k by omega]; rfl)
    have hs := cat_fits (a := [45]) (b := Lib.decDigits k) (by have := digits_len (u := k) (by omega); simp; omega)
    have e45 : (⟨#[45]⟩ : ByteArray) = toB [45] := rfl
    have w1 : IntKind.i64.wrap (k : Int) = k := IntWalk.i64_in _ (by omega)
    go_enter Tryz.func107, Tryz.ntmps107
    go_upto_region 2 with (fail)
    rw [e45]
    go_wp2_with (go_at_call 107; (with_reducible refine Calls.mono (HR.out _) ?_); rintro e X ⟨rfl, hX⟩)
    go_ret
    exact ⟨by rw [itB_toB, hd.out, ← toB_append]; rfl, hX⟩
  · obtain ⟨k, hk⟩ : ∃ k : Nat, n = k := ⟨n.toNat, by omega⟩
    subst hk
    have := digits_nat k (by omega) w
    have e : itB (k : Int) = toB (Lib.decDigits k) := by
      rw [itB_toB]
      unfold Lib.itoa
      rw [if_neg h, Int.toNat_natCast]
    rw [e]
    exact this

/-! ### Cut -/
set_option maxRecDepth 100000 in
set_option maxHeartbeats 4000000 in
theorem cut_any (s : ByteArray) (c : UInt8) (hs : s.size ≤ 10000) (w : World) :
    Calls Tryz.prog 86 #[.string s, .int .u8 c.toNat] w fun e w' => ∃ g cp, e = .returned (.slice (some ⟨g, 0, none⟩) (cutB s c).length cp) ∧ Rd StrAt 1 w'.heap.size w' (.slice (some ⟨g, 0, none⟩) (cutB s c).length cp) (cutB s c) ∧ Below w.heap.size w w' := by
  have hsz : s.data.toList.length = s.size := by simp
  have Hsz := Lib.hid hsz
  clear hsz
  go_enter Tryz.func86, Tryz.ntmps86
  go_wp2
  go_loopw [5, 6, 7] (fun lv a i wr => ∃ (k m len : Nat) (A : Option Addr) (cp : Nat) (out : List ByteArray), m ≤ k ∧ k ≤ s.size ∧ i = .int .i64 k ∧ a = .int .i64 m ∧ lv = .slice A len cp ∧ out.length = len ∧ len ≤ m ∧ Own w.heap.size 9 wr (.slice A len cp) out ∧ Below w.heap.size w wr ∧ cutL c s.data.toList = out.map (·.data.toList) ++ cutL c (s.data.toList.drop m) ∧ (∀ j, m ≤ j → j < k → s.data.toList.getD j 0 ≠ c)) (fun _ _ i _ => s.size - (intOf i).toNat)
  case atStart => exact ⟨0, 0, 0, none, 0, [], Nat.le_refl _, Nat.zero_le _, rfl, rfl, rfl, rfl, Nat.le_refl _, Own.nil _ _ _, Below.refl _ _, rfl, fun j _ hj => by omega⟩
  case round =>
    obtain ⟨k, m, len, A, cp, out, hmk, hk, rfl, rfl, rfl, hln, hlm, hown, hbr, hcut, hno⟩ := hrel
    have HLn := Lib.hid hln
    have Hown := Lib.hid hown
    have Hbr := Lib.hid hbr
    have HCut := Lib.hid hcut
    have HNo := Lib.hid hno
    clear hln hown hbr hcut hno
    by_cases hlt : k < s.size
    · have Hb := Lib.hid (byte_at s hlt)
      by_cases hc : (s[k]'hlt).toNat = c.toNat
      · have hcb : (((s[k]'hlt).toNat : Int) == (c.toNat : Int)) = true := by simp [hc]
        have Hc := Lib.hid hc
        clear hc
        obtain ⟨A2, c2', w2, hrun, hown2, hb2, _⟩ := append_str Hown.out (s.extract m k) (by rw [HLn.out]; omega) Hbr.out.size
        rw [HLn.out] at hrun hown2
        have Hown2 := Lib.hid hown2
        have Hb2 := Lib.hid (Hbr.out.trans hb2)
        have HSt := Lib.hid (cutL_step (c := c) (l := s.data.toList) hmk (by rw [Hsz.out]; exact hlt) HNo.out (UInt8.toNat_inj.1 (by rw [← Hb.out]; exact Hc.out)))
        have w1 : IntKind.i64.wrap ((k : Int) + 1) = (k : Int) + 1 := IntWalk.i64_in _ (by omega)
        clear hown2 hb2
        go_wp2_with (at_builtin; refine wpList_append_run rfl (.tmp 19) (.tmp 24) 22 rfl rfl rfl hrun ?_)
        go_roundw
        case rel => exact ⟨k + 1, k + 1, len + 1, A2, c2', _, Nat.le_refl _, by omega, by go_num, by go_num, rfl, by rw [List.length_append, HLn.out]; rfl, by omega, Hown2.out, Hb2.out, by rw [HCut.out, HSt.out, List.map_append, extract_list]; simp [toB_data], fun j h1 h2 => by omega⟩
        case measure => simp [intOf]; omega
      · have hcb : (((s[k]'hlt).toNat : Int) == (c.toNat : Int)) = false := by simp; omega
        have Hc := Lib.hid hc
        clear hc
        go_wp2
        go_roundw
        case rel => exact ⟨k + 1, m, len, A, cp, out, by omega, by omega, by go_num, rfl, rfl, HLn.out, hlm, Hown.out, Hbr.out, HCut.out, fun j h1 h2 => by
          by_cases e : j = k
          · subst e
            intro e2
            apply Hc.out
            rw [Hb.out, e2]
          · exact HNo.out j h1 (by omega)⟩
        case measure => simp [intOf]; omega
    · have hke : k = s.size := by omega
      have HE := Lib.hid (show cutB s c = out ++ [s.extract m s.size] by
        unfold cutB
        rw [HCut.out, cutL_end (fun j h1 h2 => HNo.out j h1 (by rw [hke, ← Hsz.out]; exact h2)), List.map_append, List.map_map, extract_list, List.take_of_length_le (by rw [Hsz.out]; exact Nat.le_refl _)]
        congr 1
        conv => rhs; rw [← List.map_id out]
        exact List.map_congr_left fun x _ => toB_list x)
      have hms : m ≤ s.size := by omega
      clear hke
      obtain ⟨A2, c2', w2, hrun, hown2, hb2, _⟩ := append_str Hown.out (s.extract m s.size) (by rw [HLn.out]; omega) Hbr.out.size
      rw [HLn.out] at hrun hown2
      have Hown2 := Lib.hid hown2
      have Hb2 := Lib.hid (Hbr.out.trans hb2)
      clear hown2 hb2
      go_wp2_with (at_builtin; refine wpList_append_run rfl (.tmp 28) (.tmp 32) 22 rfl rfl rfl hrun ?_)
      go_ret
      obtain ⟨g2, rfl⟩ : ∃ g2, A2 = some ⟨g2, 0, none⟩ := by
        rcases id Hown2.out with ⟨_, ⟨e, _⟩ | ⟨g', cap, cur, e, _⟩⟩
        · cases e
        · exact ⟨g', (Value.slice.inj e).1⟩
      refine ⟨g2, c2', ?_, ?_, Hb2.out⟩
      · rw [HE.out, List.length_append, HLn.out]; rfl
      · rw [HE.out, List.length_append, HLn.out]
        have := Hown2.out.rd
        exact this
end Go.Proofs.YtajdgdelhlfniaaGreatDoor
namespace Go.Proofs.YtajdgdelhlfniaaGreatDoor
open Go.RowKit

theorem all_take_succ {l : List UInt8} {k : Nat} (hk : k < l.length) {p : UInt8 → Bool} (h : (l.take k).all p = true) (h2 : p (l.getD k 0) = true) : (l.take (k + 1)).all p = true := by
  rw [take_succ_getD hk 0, List.all_append, h]
  simpa using h2
theorem valD_take {l : List UInt8} {k : Nat} (hk : k < l.length) : valD (l.take (k + 1)) = 10 * valD (l.take k) + (((l.getD k 0).toNat : Int) - 48) := by rw [take_succ_getD hk 0, valD_snoc]
set_option maxRecDepth 100000 in
set_option maxHeartbeats 4000000 in
theorem decimal_any (s : ByteArray) (hs : s.size ≤ 1000000) (w : World) :
    Calls Tryz.prog 115 #[.string s] w fun e w' => e = .returned (.int .i64 (decimalF s)) ∧ w = w' := by
  have hsz : s.data.toList.length = s.size := by simp
  have Hsz := Lib.hid hsz
  clear hsz
  by_cases hi : inB s.size 1 9 = false
  · have hD := Lib.hid (show decimalF s = -1 by unfold decimalF; rw [if_pos hi])
    have HI := Lib.hid (in_s s.size 1 9)
    rw [hi] at HI
    go_enter Tryz.func115, Tryz.ntmps115
    go_wp2_with (go_at_call 62; (with_reducible refine Calls.mono (HI.out _) ?_); rintro e X ⟨rfl, hX⟩; subst hX)
    go_ret
    exact ⟨by rw [hD.out]; rfl, rfl⟩
  · have hi : inB s.size 1 9 = true := by simpa using hi
    have HI := Lib.hid (in_s s.size 1 9)
    rw [hi] at HI
    have hr := inB_iff.1 hi
    have h0 : 0 < s.size := by omega
    have e0 := byte_at s h0
    by_cases hz : 1 < s.size ∧ (s.data.toList.getD 0 0).toNat = 48
    · have hD := Lib.hid (show decimalF s = -1 by unfold decimalF; rw [if_neg (by simp [hi]), if_pos hz])
      obtain ⟨h1, h2⟩ := hz
      have d1 : (((s[0]'h0).toNat : Int) == 48) = true := by rw [e0, h2]; rfl
      have d2 : ((1 : Int) < (s.size : Int)) := by omega
      clear e0 h2
      go_enter Tryz.func115, Tryz.ntmps115
      go_wp2_with (go_at_call 62; (with_reducible refine Calls.mono (HI.out _) ?_); rintro e X ⟨rfl, hX⟩; subst hX)
      go_ret
      exact ⟨by rw [hD.out]; rfl, rfl⟩
    · have hD := Lib.hid (show decimalF s = if s.data.toList.all isDig = true then valD s.data.toList else -1 by unfold decimalF; rw [if_neg (by simp [hi]), if_neg hz])
      go_enter Tryz.func115, Tryz.ntmps115
      by_cases h1 : 1 < s.size
      · have hb : (((s[0]'h0).toNat : Int) == 48) = false := by
          have : (s[0]'h0).toNat ≠ 48 := fun e => hz ⟨h1, by rw [← e0]; exact e⟩
          simp; omega
        have d2 : ((1 : Int) < (s.size : Int)) := by omega
        clear hz e0
        go_upto_region 4 with (go_at_call 62; (with_reducible refine Calls.mono (HI.out _) ?_); rintro e X ⟨rfl, hX⟩; subst hX)
        clear hb
        go_wp2
        go_loopw [3, 4] (fun v i wr => ∃ k : Nat, k ≤ s.size ∧ i = .int .i64 k ∧ v = .int .i64 (valD (s.data.toList.take k)) ∧ (s.data.toList.take k).all isDig = true ∧ w = wr) (fun _ i _ => s.size - (intOf i).toNat)
        case atStart => exact ⟨0, Nat.zero_le _, rfl, rfl, rfl, rfl⟩
        case round =>
          obtain ⟨k, hk, rfl, rfl, hall, hwr⟩ := hrel
          subst hwr
          have HAll := Lib.hid hall
          have hv := valD_le _ hall
          clear hall
          by_cases hlt : k < s.size
          · have Hb := Lib.hid (byte_at s hlt)
            have hkl : k < s.data.toList.length := by rw [Hsz.out]; exact hlt
            have hp : valD (s.data.toList.take k) < 10 ^ 9 := by
              refine Int.lt_of_lt_of_le hv.2 ?_
              rw [List.length_take, Nat.min_eq_left (Nat.le_of_lt hkl)]
              exact_mod_cast Nat.pow_le_pow_right (n := 10) (by omega) (show k ≤ 9 by omega)
            have HVs := Lib.hid (valD_take hkl)
            have HAs := Lib.hid (fun h => all_take_succ hkl HAll.out h)
            have HNo := Lib.hid (show isDig (s.data.toList.getD k 0) = false → s.data.toList.all isDig = false from fun h => by
              cases ha : s.data.toList.all isDig with
              | false => rfl
              | true =>
                have := List.all_eq_true.1 ha _ (getD_mem hkl 0)
                rw [h] at this
                cases this)
            have hv0 := hv.1
            clear hv hkl
            generalize valD (s.data.toList.take k) = val at *
            have hby : (s[k]'hlt).toNat ≤ 255 := by have := (s[k]'hlt).toNat_lt; omega
            by_cases g1 : (s[k]'hlt).toNat < 48
            · have HNd := Lib.hid (HNo.out (by unfold isDig; rw [← Hb.out]; simp; omega))
              have d1 : decide (((s[k]'hlt).toNat : Int) < 48) = true := by simp; omega
              have hR := Lib.hid (show decimalF s = -1 by rw [hD.out, HNd.out]; rfl)
              clear g1
              go_wp2
              go_ret
              exact ⟨by rw [hR.out]; rfl, rfl⟩
            · have d1 : decide (((s[k]'hlt).toNat : Int) < 48) = false := by simp; omega
              by_cases g2 : 57 < (s[k]'hlt).toNat
              · have HNd := Lib.hid (HNo.out (by unfold isDig; rw [← Hb.out]; simp; omega))
                have d2 : decide ((57 : Int) < ((s[k]'hlt).toNat : Int)) = true := by simp; omega
                have hR := Lib.hid (show decimalF s = -1 by rw [hD.out, HNd.out]; rfl)
                clear g1 g2
                go_wp2
                go_ret
                exact ⟨by rw [hR.out]; rfl, rfl⟩
              · have d2 : decide ((57 : Int) < ((s[k]'hlt).toNat : Int)) = false := by simp; omega
                have HYs := Lib.hid (HAs.out (by unfold isDig; rw [← Hb.out]; simp; omega))
                rw [← Hb.out] at HVs
                generalize hx : (s[k]'hlt).toNat = x at *
                have HX := Lib.hid hx
                have w1 : IntKind.i64.wrap (10 * val) = 10 * val := IntWalk.i64_in _ (by omega)
                have w2 : IntKind.u8.wrap ((x : Int) - 48) = (x : Int) - 48 := IntWalk.u8_in _ (by omega)
                have w3 : IntKind.i64.wrap ((x : Int) - 48) = (x : Int) - 48 := IntWalk.i64_in _ (by omega)
                have w4 : IntKind.i64.wrap (10 * val + ((x : Int) - 48)) = 10 * val + ((x : Int) - 48) := IntWalk.i64_in _ (by omega)
                clear g1 g2
                go_wp2
                go_roundw
                case rel => exact ⟨k + 1, by omega, by go_num, by rw [HVs.out], HYs.out, by first | rfl | trivial⟩
                case measure => simp [intOf]; omega
          · have hke : k = s.size := by omega
            have hR := Lib.hid (show decimalF s = valD (s.data.toList.take k) by
              have h := HAll.out
              rw [hke, ← Hsz.out, List.take_length] at h ⊢
              rw [hD.out, if_pos h])
            clear hke hv
            generalize valD (s.data.toList.take k) = val at *
            go_wp2
            go_ret
            exact ⟨by rw [hR.out]; rfl, rfl⟩
      · have d2 : ¬ ((1 : Int) < (s.size : Int)) := by omega
        clear hz e0
        go_upto_region 4 with (go_at_call 62; (with_reducible refine Calls.mono (HI.out _) ?_); rintro e X ⟨rfl, hX⟩; subst hX)
        go_wp2
        go_loopw [3, 4] (fun v i wr => ∃ k : Nat, k ≤ s.size ∧ i = .int .i64 k ∧ v = .int .i64 (valD (s.data.toList.take k)) ∧ (s.data.toList.take k).all isDig = true ∧ w = wr) (fun _ i _ => s.size - (intOf i).toNat)
        case atStart => exact ⟨0, Nat.zero_le _, rfl, rfl, rfl, rfl⟩
        case round =>
          obtain ⟨k, hk, rfl, rfl, hall, hwr⟩ := hrel
          subst hwr
          have HAll := Lib.hid hall
          have hv := valD_le _ hall
          clear hall
          by_cases hlt : k < s.size
          · have Hb := Lib.hid (byte_at s hlt)
            have hkl : k < s.data.toList.length := by rw [Hsz.out]; exact hlt
            have hp : valD (s.data.toList.take k) < 10 ^ 9 := by
              refine Int.lt_of_lt_of_le hv.2 ?_
              rw [List.length_take, Nat.min_eq_left (Nat.le_of_lt hkl)]
              exact_mod_cast Nat.pow_le_pow_right (n := 10) (by omega) (show k ≤ 9 by omega)
            have HVs := Lib.hid (valD_take hkl)
            have HAs := Lib.hid (fun h => all_take_succ hkl HAll.out h)
            have HNo := Lib.hid (show isDig (s.data.toList.getD k 0) = false → s.data.toList.all isDig = false from fun h => by
              cases ha : s.data.toList.all isDig with
              | false => rfl
              | true =>
                have := List.all_eq_true.1 ha _ (getD_mem hkl 0)
                rw [h] at this
                cases this)
            have hv0 := hv.1
            clear hv hkl
            generalize valD (s.data.toList.take k) = val at *
            have hby : (s[k]'hlt).toNat ≤ 255 := by have := (s[k]'hlt).toNat_lt; omega
            by_cases g1 : (s[k]'hlt).toNat < 48
            · have HNd := Lib.hid (HNo.out (by unfold isDig; rw [← Hb.out]; simp; omega))
              have d1 : decide (((s[k]'hlt).toNat : Int) < 48) = true := by simp; omega
              have hR := Lib.hid (show decimalF s = -1 by rw [hD.out, HNd.out]; rfl)
              clear g1
              go_wp2
              go_ret
              exact ⟨by rw [hR.out]; rfl, rfl⟩
            · have d1 : decide (((s[k]'hlt).toNat : Int) < 48) = false := by simp; omega
              by_cases g2 : 57 < (s[k]'hlt).toNat
              · have HNd := Lib.hid (HNo.out (by unfold isDig; rw [← Hb.out]; simp; omega))
                have d2 : decide ((57 : Int) < ((s[k]'hlt).toNat : Int)) = true := by simp; omega
                have hR := Lib.hid (show decimalF s = -1 by rw [hD.out, HNd.out]; rfl)
                clear g1 g2
                go_wp2
                go_ret
                exact ⟨by rw [hR.out]; rfl, rfl⟩
              · have d2 : decide ((57 : Int) < ((s[k]'hlt).toNat : Int)) = false := by simp; omega
                have HYs := Lib.hid (HAs.out (by unfold isDig; rw [← Hb.out]; simp; omega))
                rw [← Hb.out] at HVs
                generalize hx : (s[k]'hlt).toNat = x at *
                have HX := Lib.hid hx
                have w1 : IntKind.i64.wrap (10 * val) = 10 * val := IntWalk.i64_in _ (by omega)
                have w2 : IntKind.u8.wrap ((x : Int) - 48) = (x : Int) - 48 := IntWalk.u8_in _ (by omega)
                have w3 : IntKind.i64.wrap ((x : Int) - 48) = (x : Int) - 48 := IntWalk.i64_in _ (by omega)
                have w4 : IntKind.i64.wrap (10 * val + ((x : Int) - 48)) = 10 * val + ((x : Int) - 48) := IntWalk.i64_in _ (by omega)
                clear g1 g2
                go_wp2
                go_roundw
                case rel => exact ⟨k + 1, by omega, by go_num, by rw [HVs.out], HYs.out, by first | rfl | trivial⟩
                case measure => simp [intOf]; omega
          · have hke : k = s.size := by omega
            have hR := Lib.hid (show decimalF s = valD (s.data.toList.take k) by
              have h := HAll.out
              rw [hke, ← Hsz.out, List.take_length] at h ⊢
              rw [hD.out, if_pos h])
            clear hke hv
            generalize valD (s.data.toList.take k) = val at *
            go_wp2
            go_ret
            exact ⟨by rw [hR.out]; rfl, rfl⟩
theorem decimalF_le (s : ByteArray) : -1 ≤ decimalF s ∧ decimalF s ≤ 1000000000 := by
  unfold decimalF
  split
  · omega
  · rename_i hi
    split
    · omega
    · split
      · rename_i ha
        have hr := inB_iff.1 (show inB s.size 1 9 = true by simpa using hi)
        have h := valD_le _ ha
        have h9 : (10 : Int) ^ s.data.toList.length ≤ 10 ^ 9 := by
          have : s.data.toList.length = s.size := by simp
          rw [this]
          exact_mod_cast Nat.pow_le_pow_right (n := 10) (by omega) (show s.size ≤ 9 by omega)
        omega
      · omega
set_option maxRecDepth 100000 in
set_option maxHeartbeats 4000000 in
theorem signed_any (s : ByteArray) (hs : s.size ≤ 1000000) (w : World) :
    Calls Tryz.prog 87 #[.string s] w fun e w' => e = .returned (.int .i64 (signedF s)) ∧ w = w' := by
  have HD := Lib.hid (decimal_any s hs w)
  have hdl := decimalF_le s
  by_cases hm : 1 < s.size ∧ (s.data.toList.getD 0 0).toNat = 45 ∧ 0 < decimalF (s.extract 1 s.size)
  · have hF := Lib.hid (show signedF s = - decimalF (s.extract 1 s.size) by unfold signedF; rw [if_pos hm])
    obtain ⟨h1, h2, h3⟩ := hm
    have HE := Lib.hid (decimal_any (s.extract 1 s.size) (by rw [ByteArray.size_extract]; omega) w)
    have hel := decimalF_le (s.extract 1 s.size)
    have h0 : 0 < s.size := by omega
    have e0 := byte_at s h0
    have d1 : (((s[0]'h0).toNat : Int) == 45) = true := by rw [e0, h2]; rfl
    have d2 : ((1 : Int) < (s.size : Int)) := by omega
    clear e0 h2
    generalize decimalF (s.extract 1 s.size) = d at *
    have w1 : IntKind.i64.wrap (-d) = -d := IntWalk.i64_in _ (by omega)
    go_enter Tryz.func87, Tryz.ntmps87
    go_wp2_with (go_at_call 115; (with_reducible refine Calls.mono HE.out ?_); rintro e X ⟨rfl, hX⟩; subst hX)
    go_ret
    exact ⟨by rw [hF.out]; rfl, rfl⟩
  · have hF := Lib.hid (show signedF s = if 0 ≤ decimalF s then decimalF s else 2000000000 by unfold signedF; rw [if_neg hm])
    have A115 : True := trivial
    by_cases h1 : 1 < s.size
    · have h0 : 0 < s.size := by omega
      have e0 := byte_at s h0
      have d2 : ((1 : Int) < (s.size : Int)) := by omega
      by_cases h2 : (s.data.toList.getD 0 0).toNat = 45
      · have h3 : ¬ 0 < decimalF (s.extract 1 s.size) := fun h => hm ⟨h1, h2, h⟩
        have HE := Lib.hid (decimal_any (s.extract 1 s.size) (by rw [ByteArray.size_extract]; omega) w)
        have d1 : (((s[0]'h0).toNat : Int) == 45) = true := by rw [e0, h2]; rfl
        clear e0 h2 hm
        generalize decimalF (s.extract 1 s.size) = d at *
        generalize decimalF s = d0 at *
        by_cases h4 : 0 ≤ d0
        · have hG := Lib.hid (show signedF s = d0 by rw [hF.out, if_pos h4])
          go_enter Tryz.func87, Tryz.ntmps87
          go_wp2_with (first | (go_at_call 115; (with_reducible refine Calls.mono HE.out ?_); rintro e X ⟨rfl, hX⟩; subst hX) | (go_at_call 115; (with_reducible refine Calls.mono HD.out ?_); rintro e X ⟨rfl, hX⟩; subst hX))
          go_ret
          exact ⟨by rw [hG.out]; rfl, rfl⟩
        · have hG := Lib.hid (show signedF s = 2000000000 by rw [hF.out, if_neg h4])
          go_enter Tryz.func87, Tryz.ntmps87
          go_wp2_with (first | (go_at_call 115; (with_reducible refine Calls.mono HE.out ?_); rintro e X ⟨rfl, hX⟩; subst hX) | (go_at_call 115; (with_reducible refine Calls.mono HD.out ?_); rintro e X ⟨rfl, hX⟩; subst hX))
          go_ret
          exact ⟨by rw [hG.out]; rfl, rfl⟩
      · have d1 : (((s[0]'h0).toNat : Int) == 45) = false := by
          have : (s[0]'h0).toNat ≠ 45 := fun e => h2 (by rw [← e0]; exact e)
          simp; omega
        clear e0 h2 hm
        generalize decimalF s = d0 at *
        by_cases h4 : 0 ≤ d0
        · have hG := Lib.hid (show signedF s = d0 by rw [hF.out, if_pos h4])
          go_enter Tryz.func87, Tryz.ntmps87
          go_wp2_with (go_at_call 115; (with_reducible refine Calls.mono HD.out ?_); rintro e X ⟨rfl, hX⟩; subst hX)
          go_ret
          exact ⟨by rw [hG.out]; rfl, rfl⟩
        · have hG := Lib.hid (show signedF s = 2000000000 by rw [hF.out, if_neg h4])
          go_enter Tryz.func87, Tryz.ntmps87
          go_wp2_with (go_at_call 115; (with_reducible refine Calls.mono HD.out ?_); rintro e X ⟨rfl, hX⟩; subst hX)
          go_ret
          exact ⟨by rw [hG.out]; rfl, rfl⟩
    · have d2 : ¬ ((1 : Int) < (s.size : Int)) := by omega
      clear hm
      generalize decimalF s = d0 at *
      by_cases h4 : 0 ≤ d0
      · have hG := Lib.hid (show signedF s = d0 by rw [hF.out, if_pos h4])
        go_enter Tryz.func87, Tryz.ntmps87
        go_wp2_with (go_at_call 115; (with_reducible refine Calls.mono HD.out ?_); rintro e X ⟨rfl, hX⟩; subst hX)
        go_ret
        exact ⟨by rw [hG.out]; rfl, rfl⟩
      · have hG := Lib.hid (show signedF s = 2000000000 by rw [hF.out, if_neg h4])
        go_enter Tryz.func87, Tryz.ntmps87
        go_wp2_with (go_at_call 115; (with_reducible refine Calls.mono HD.out ?_); rintro e X ⟨rfl, hX⟩; subst hX)
        go_ret
        exact ⟨by rw [hG.out]; rfl, rfl⟩
end Go.Proofs.YtajdgdelhlfniaaGreatDoor
