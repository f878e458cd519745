/- Walks of the layer order: Check of the reference. Walks of the layer order: Taken of the reference. Walks of the layer order: Of and Late of the reference. Walks of the layer order: Late of the reference. Walks of the layer order: Needed of the reference. -/
import Derived.Test.YtkmaapkbonkjfaaGCheck
import Derived.Test.YtkmaapkbonkjfaaGApp
import Derived.Test.YtkmaapkbonkjfaaGName
import Derived.Deep.Cut
import Derived.Test.YtkmaapkbonkjfaaGEnter
import Derived.Test.YtkmaapkbonkjfaaGW
import Derived.Test.YtkmaapkbonkjfaaGTail
import Derived.Test.YtkmaapkbonkjfaaGPure
import Derived.Deep.RegionHeld3
set_option linter.unusedSimpArgs false
set_option linter.unusedVariables false
namespace Go.Proofs.Ytkmaapkbonkjfaa
open Go.RowKit

theorem in_s (a b c : Int) (w : World) : Calls Try.prog 50 #[.int .i64 a, .int .i64 b, .int .i64 c] w fun e w' => e = .returned (.bool (inB a b c)) ∧ w = w' := (in_any a b c w).mono fun _ _ ⟨h1, h2⟩ => ⟨h1, h2.symm⟩
theorem fresh_s {B : Nat} {w : World} {v : Value} {xs : List ByteArray} (s : ByteArray) (hv : Rd StrAt 1 B w v xs) (hs : s.size ≤ 9223372036854775807) :
    Calls Try.prog 51 #[.string s, v] w fun e w' => e = .returned (.int .i64 (freshErr s xs)) ∧ w = w' := (fresh_any s hv hs).mono fun _ _ ⟨h1, h2⟩ => ⟨h1, h2.symm⟩
theorem append_str {base : Nat} {w : World} {v : Value} {xs : List ByteArray} (h : Own base 9 w v xs) (x : ByteArray) (hn : xs.length ≤ 100000) (hbase : base ≤ w.heap.size) :
    ∃ A c w', (Builtin.append_ #[82, 82] 82 #[v, .slice (some ⟨w.heap.size, 0, none⟩) 1 1]).run Try.prog (w.alloc (.cells #[.string x] 9)) = .ok (.slice A (xs.length + 1) c) w' ∧ Own base 9 w' (.slice A (xs.length + 1) c) (xs ++ [x]) ∧
      Below base w w' ∧ base ≤ w'.heap.size ∧ xs.length + 1 ≤ c ∧ c ≤ 9223372036854775807 :=
  append_one (bytes := 16) (by kernel_rfl) (by kernel_rfl) (by omega) (by omega) (by simp [Enc.enc]; intros; rfl) h x hn hbase rfl
theorem fresh_part (p : PartR) (l : List PartR) : freshErr p.name (l.map (·.name)) = if nameB p.name = false then 6 else if (l.any fun x => x.name.toList == p.name.toList) then 5 else 0 := by
  unfold freshErr
  rw [List.any_map]
  rfl

set_option maxRecDepth 100000 in
set_option maxHeartbeats 4000000 in
theorem rcheck_any {B : Nat} {w : World} {v : Value} {s : ShopR} (hs : RdShop B w v s) (hn : ∀ p ∈ s.parts, p.name.size ≤ 9223372036854775807) (hB : B ≤ w.heap.size) :
    Calls Try.prog 17 #[v] w fun e w' => e = .returned (checkV s) ∧ Below w.heap.size w w' := by
  obtain ⟨vh, vp, vo, rfl, hh, hp, ho⟩ := id hs
  obtain ⟨W, hW, c0, c1, c2, hz, hb, _⟩ := shop_box w vh vp vo
  obtain ⟨Ah, ch, rfl, h1, h2, _⟩ := id hh
  obtain ⟨Ap, cp, rfl, h3, h4, _⟩ := id hp
  obtain ⟨Ao, co, rfl, h5, h6, _⟩ := id ho
  have hh := hh.below (hb.mono hB)
  have hp := hp.below (hb.mono hB)
  have ho := ho.below (hb.mono hB)
  go_enter Try.func17, Try.ntmps17
  go_upto_region 1 with (fail)
  rw [← hW]
  clear hW hs
  have HN := Lib.hid hn
  have Hh := Lib.hid hh
  have Hp := Lib.hid hp
  have Ho := Lib.hid ho
  have Hb := Lib.hid hb
  have Hz := Lib.hid hz
  clear hn hh hp ho hb hz h1 h2 h3 h4 h5 h6
  have C0 := Lib.hid c0
  have C1 := Lib.hid c1
  have C2 := Lib.hid c2
  cases o1 : inB s.hours.length 1 20 with
  | false =>
    have e := Lib.hid (checkV_eq (check_long (s := s) (by simp [o1])))
    go_wp2_with (go_at_call 50; refine (in_s _ _ _ _).mono ?_; rintro e wx ⟨rfl, rfl⟩)
    go_ret3
    exact ⟨by rw [e.out]; rfl, Hb.out⟩
  | true =>
  cases o2 : inB s.parts.length 1 3 with
  | false =>
    have e := Lib.hid (checkV_eq (check_long (s := s) (by simp [o1, o2])))
    go_wp2_with (go_at_call 50; refine (in_s _ _ _ _).mono ?_; rintro e wx ⟨rfl, rfl⟩)
    go_ret3
    exact ⟨by rw [e.out]; rfl, Hb.out⟩
  | true =>
  by_cases o3 : 8 < (s.orders.length : Int)
  · have e := Lib.hid (checkV_eq (check_long (s := s) (by simp [o3])))
    go_wp2_with (go_at_call 50; refine (in_s _ _ _ _).mono ?_; rintro e wx ⟨rfl, rfl⟩)
    go_ret3
    exact ⟨by rw [e.out]; rfl, Hb.out⟩
  have hS : Short s := ⟨by have := inB_iff.1 o1; omega, by have := inB_iff.1 o2; omega, by omega⟩
  have hl1 := hS.h
  have hl2 := hS.p
  have hl3 := hS.o
  have HS := Lib.hid hS
  clear hS
  go_upto_region 4 with (go_at_call 50; refine (in_s _ _ _ _).mono ?_; rintro e wx ⟨rfl, rfl⟩)
  clear o1 o2 o3
  go_loop [5] (fun i => ∃ k : Nat, k ≤ s.hours.length ∧ i = .int .i64 k ∧ ∀ j, j < k → inB (s.hours.getD j 0) 0 24 = true) (fun i => s.hours.length - (intOf i).toNat)
  case atStart => exact ⟨0, Nat.zero_le _, rfl, fun j hj => by omega⟩
  case round =>
    obtain ⟨k, hk, rfl, hno⟩ := hrel
    have Hno := Lib.hid hno
    clear hno
    by_cases hlt : k < s.hours.length
    · obtain ⟨ad, rfl, _, d0⟩ := Hh.out.int hlt
      have Hd := Lib.hid (show s.hours.getD k 0 = s.hours[k]?.getD 0 from List.getD_eq_getElem?_getD ..)
      generalize s.hours[k]?.getD 0 = x at *
      cases hx : inB x 0 24 with
      | false =>
        have e := Lib.hid (checkV_eq (check_hour HS.out (fst?_some hlt (by rw [Hd.out, hx]; rfl) fun j hj => by rw [Hno.out j hj]; rfl)))
        go_wp2_with (go_at_call 50; refine (in_s _ _ _ _).mono ?_; rintro e wx ⟨rfl, rfl⟩)
        go_ret3
        exact ⟨by rw [e.out]; rfl, Hb.out⟩
      | true =>
        have Hx := Lib.hid hx
        go_wp2_with (go_at_call 50; refine (in_s _ _ _ _).mono ?_; rintro e wx ⟨rfl, rfl⟩)
        go_round
        case rel => exact ⟨k + 1, by omega, by go_num, fun j hj => by
          by_cases h : j < k
          · exact Hno.out j h
          · obtain rfl : j = k := by omega
            rw [Hd.out]; exact Hx.out⟩
        case measure => simp [intOf]; omega
    · have hkn : k = s.hours.length := by omega
      subst hkn
      have HH := Lib.hid (show HoursOK s from fst?_none fun j hj => by rw [Hno.out j hj]; rfl)
      go_wp2
      go_loopw [6, 7] (fun nv i wr => ∃ (k : Nat) (A : Option Addr) (c : Nat), k ≤ s.parts.length ∧ i = .int .i64 k ∧ nv = .slice A k c ∧ Own W.heap.size 9 wr (.slice A k c) ((s.parts.take k).map (·.name)) ∧ (∀ j, j < k → partErr (s.parts.take j) (s.parts.getD j default) = 0) ∧ Below W.heap.size W wr) (fun _ i _ => s.parts.length - (intOf i).toNat)
      case atStart => exact ⟨0, none, 0, Nat.zero_le _, rfl, rfl, Own.nil _ _ _, fun j hj => by omega, Below.refl _ _⟩
      case round =>
        clear c0 c1 c2
        obtain ⟨k, A, c, hk, rfl, rfl, hown, hno, hx⟩ := hrel
        have c0 := (hx.cell (cell_lt C0.out)).trans C0.out
        have c1 := (hx.cell (cell_lt C1.out)).trans C1.out
        have c2 := (hx.cell (cell_lt C2.out)).trans C2.out
        have Hno := Lib.hid hno
        clear hno
        by_cases hlt : k < s.parts.length
        · obtain ⟨ad, rfl, _, p0, p1, p2, p3⟩ := (Hp.out.below (hx.mono (by have := Hz.out; omega))).part hlt
          have Hsz := Lib.hid (HN.out _ (getD_mem hlt default))
          have He := Lib.hid (fun e (h : partErr (s.parts.take k) (s.parts.getD k default) = e) (hne : e ≠ 0) => checkV_eq (check_part HS.out HH.out hlt h hne Hno.out))
          have Hk := Lib.hid (fun (h : partErr (s.parts.take k) (s.parts.getD k default) = 0) => (show ∀ j, j < k + 1 → partErr (s.parts.take j) (s.parts.getD j default) = 0 from fun j hj => by
            by_cases e : j < k
            · exact Hno.out j e
            · obtain rfl : j = k := by omega
              exact h))
          have Htk := Lib.hid (take_succ_getD hlt default)
          have hlen : ((s.parts.take k).map (·.name)).length = k := by rw [List.length_map, List.length_take]; omega
          rw [List.getD_eq_getElem?_getD] at Hsz He Hk Htk
          generalize s.parts[k]?.getD default = p at *
          have Hfr := Lib.hid (fresh_part p (s.parts.take k))
          obtain ⟨W8, hW8, r8, z8, b8⟩ := box_any wr #[.string p.name, .int .i64 p.batch, .int .i64 p.long, .int .i64 p.stock] 57
          have d0 := cellOf r8 0 (v := .string p.name) rfl
          have d1 := cellOf r8 1 (v := .int .i64 p.batch) rfl
          have d2 := cellOf r8 2 (v := .int .i64 p.long) rfl
          have d3 := cellOf r8 3 (v := .int .i64 p.stock) rfl
          go_upto_region 13 with (fail)
          rw [← hW8]
          clear p0 p1 p2 p3
          have c0 := (b8.cell (cell_lt c0)).trans c0
          have c1 := (b8.cell (cell_lt c1)).trans c1
          have c2 := (b8.cell (cell_lt c2)).trans c2
          have HX := Lib.hid (hx.trans (b8.mono hx.size))
          have Hown := Lib.hid (hown.below b8)
          have Hnm := Lib.hid (hown.below b8).rd
          have Hlen := Lib.hid hlen
          clear hW8 r8 z8 b8 hown hx hlen
          cases n1 : nameB p.name with
          | false =>
            rw [if_pos n1] at Hfr
            have e := Lib.hid (He.out _ (partErr_name n1) (by decide))
            go_wp2_with (first | (go_at_call 50; refine (in_s _ _ _ _).mono ?_; rintro e wx ⟨rfl, rfl⟩) | (go_at_call 51; refine (fresh_s _ Hnm.out Hsz.out).mono ?_; rw [Hfr.out]; rintro e wx ⟨rfl, rfl⟩))
            go_ret3
            exact ⟨by rw [e.out]; rfl, Hb.out.trans (HX.out.mono (by have := Hz.out; omega))⟩
          | true =>
          rw [if_neg (by simp [n1])] at Hfr
          cases n2 : (s.parts.take k).any fun x => x.name.toList == p.name.toList with
          | true =>
            rw [if_pos n2] at Hfr
            have e := Lib.hid (He.out _ (partErr_twice n1 n2) (by decide))
            go_wp2_with (first | (go_at_call 50; refine (in_s _ _ _ _).mono ?_; rintro e wx ⟨rfl, rfl⟩) | (go_at_call 51; refine (fresh_s _ Hnm.out Hsz.out).mono ?_; rw [Hfr.out]; rintro e wx ⟨rfl, rfl⟩))
            go_ret3
            exact ⟨by rw [e.out]; rfl, Hb.out.trans (HX.out.mono (by have := Hz.out; omega))⟩
          | false =>
          rw [if_neg (by simp [n2])] at Hfr
          cases q1 : inB p.batch 1 10 with
          | false =>
            have e := Lib.hid (He.out _ (partErr_range n1 n2 (by simp [q1])) (by decide))
            go_wp2_with (first | (go_at_call 50; refine (in_s _ _ _ _).mono ?_; rintro e wx ⟨rfl, rfl⟩) | (go_at_call 51; refine (fresh_s _ Hnm.out Hsz.out).mono ?_; rw [Hfr.out]; rintro e wx ⟨rfl, rfl⟩))
            go_ret3
            exact ⟨by rw [e.out]; rfl, Hb.out.trans (HX.out.mono (by have := Hz.out; omega))⟩
          | true =>
          cases q2 : inB p.long 1 48 with
          | false =>
            have e := Lib.hid (He.out _ (partErr_range n1 n2 (by simp [q1, q2])) (by decide))
            go_wp2_with (first | (go_at_call 50; refine (in_s _ _ _ _).mono ?_; rintro e wx ⟨rfl, rfl⟩) | (go_at_call 51; refine (fresh_s _ Hnm.out Hsz.out).mono ?_; rw [Hfr.out]; rintro e wx ⟨rfl, rfl⟩))
            go_ret3
            exact ⟨by rw [e.out]; rfl, Hb.out.trans (HX.out.mono (by have := Hz.out; omega))⟩
          | true =>
          cases q3 : inB p.stock 0 50 with
          | false =>
            have e := Lib.hid (He.out _ (partErr_range n1 n2 (by simp [q1, q2, q3])) (by decide))
            go_wp2_with (first | (go_at_call 50; refine (in_s _ _ _ _).mono ?_; rintro e wx ⟨rfl, rfl⟩) | (go_at_call 51; refine (fresh_s _ Hnm.out Hsz.out).mono ?_; rw [Hfr.out]; rintro e wx ⟨rfl, rfl⟩))
            go_ret3
            exact ⟨by rw [e.out]; rfl, Hb.out.trans (HX.out.mono (by have := Hz.out; omega))⟩
          | true =>
            have Hok := Lib.hid (Hk.out (partErr_ok n1 n2 (by simp [q1, q2, q3])))
            obtain ⟨A2, c2', w2, hrun, hown2, hb2, _⟩ := append_str Hown.out p.name (by rw [Hlen.out]; omega) HX.out.size
            rw [Hlen.out] at hrun hown2
            have Hown2 := Lib.hid hown2
            have Hb2 := Lib.hid (HX.out.trans hb2)
            clear hown2 hb2 n1 n2
            go_wp2_with (first | (go_at_call 50; refine (in_s _ _ _ _).mono ?_; rintro e wx ⟨rfl, rfl⟩) | (go_at_call 51; refine (fresh_s _ Hnm.out Hsz.out).mono ?_; rw [Hfr.out]; rintro e wx ⟨rfl, rfl⟩) | (at_builtin; refine wpList_append_run rfl _ _ _ rfl rfl rfl hrun ?_))
            go_roundw
            case rel => exact ⟨k + 1, A2, c2', by omega, by go_num, rfl, by rw [Htk.out, List.map_append]; exact Hown2.out, Hok.out, Hb2.out⟩
            case measure => simp [intOf]; omega
        · have hkn : k = s.parts.length := by omega
          subst hkn
          have HPs := Lib.hid (show PartsOK s from Hno.out)
          have HX := Lib.hid hx
          clear hown hx
          obtain ⟨wq, rfl⟩ : ∃ wq : World, wq = wr := ⟨_, rfl⟩
          go_wp2
          go_loopw [10] (fun i wr => ∃ k : Nat, k ≤ s.orders.length ∧ i = .int .i64 k ∧ (∀ j, j < k → ordErr s.parts.length s.hours.length (s.orders.getD j default) = 0) ∧ Below W.heap.size W wr) (fun i _ => s.orders.length - (intOf i).toNat)
          case atStart => exact ⟨0, Nat.zero_le _, rfl, fun j hj => by omega, HX.out⟩
          case round =>
            clear c0 c1 c2
            obtain ⟨k, hk, rfl, hno, hx⟩ := hrel
            have c0 := (hx.cell (cell_lt C0.out)).trans C0.out
            have c1 := (hx.cell (cell_lt C1.out)).trans C1.out
            have c2 := (hx.cell (cell_lt C2.out)).trans C2.out
            have Hno := Lib.hid hno
            clear hno
            by_cases hlt : k < s.orders.length
            · obtain ⟨ad, rfl, _, p0, p1, p2, p3⟩ := (Ho.out.below (hx.mono (by have := Hz.out; omega))).ord hlt
              have He := Lib.hid (fun e (h : ordErr s.parts.length s.hours.length (s.orders.getD k default) = e) (hne : e ≠ 0) => checkV_eq (check_ord HS.out HH.out HPs.out hlt h hne Hno.out))
              have Hk := Lib.hid (fun (h : ordErr s.parts.length s.hours.length (s.orders.getD k default) = 0) => (show ∀ j, j < k + 1 → ordErr s.parts.length s.hours.length (s.orders.getD j default) = 0 from fun j hj => by
                by_cases e : j < k
                · exact Hno.out j e
                · obtain rfl : j = k := by omega
                  exact h))
              rw [List.getD_eq_getElem?_getD] at He Hk
              generalize s.orders[k]?.getD default = o at *
              obtain ⟨W8, hW8, r8, z8, b8⟩ := box_any wr #[.int .i64 o.part, .int .i64 o.many, .int .i64 o.due, .int .i64 o.worth] 60
              have d0 := cellOf r8 0 (v := .int .i64 o.part) rfl
              have d1 := cellOf r8 1 (v := .int .i64 o.many) rfl
              have d2 := cellOf r8 2 (v := .int .i64 o.due) rfl
              have d3 := cellOf r8 3 (v := .int .i64 o.worth) rfl
              go_upto_region 23 with (fail)
              rw [← hW8]
              clear p0 p1 p2 p3
              have c0 := (b8.cell (cell_lt c0)).trans c0
              have c1 := (b8.cell (cell_lt c1)).trans c1
              have c2 := (b8.cell (cell_lt c2)).trans c2
              have HX := Lib.hid (hx.trans (b8.mono hx.size))
              clear hW8 r8 z8 b8 hx
              cases n1 : inB o.part 0 (s.parts.length - 1) with
              | false =>
                have e := Lib.hid (He.out _ (ordErr_none n1) (by decide))
                go_wp2_with (go_at_call 50; refine (in_s _ _ _ _).mono ?_; rintro e wx ⟨rfl, rfl⟩)
                go_ret3
                exact ⟨by rw [e.out]; rfl, Hb.out.trans (HX.out.mono (by have := Hz.out; omega))⟩
              | true =>
              cases q1 : inB o.many 1 50 with
              | false =>
                have e := Lib.hid (He.out _ (ordErr_range n1 (by simp [q1])) (by decide))
                go_wp2_with (go_at_call 50; refine (in_s _ _ _ _).mono ?_; rintro e wx ⟨rfl, rfl⟩)
                go_ret3
                exact ⟨by rw [e.out]; rfl, Hb.out.trans (HX.out.mono (by have := Hz.out; omega))⟩
              | true =>
              cases q2 : inB o.due 0 (s.hours.length - 1) with
              | false =>
                have e := Lib.hid (He.out _ (ordErr_range n1 (by simp [q1, q2])) (by decide))
                go_wp2_with (go_at_call 50; refine (in_s _ _ _ _).mono ?_; rintro e wx ⟨rfl, rfl⟩)
                go_ret3
                exact ⟨by rw [e.out]; rfl, Hb.out.trans (HX.out.mono (by have := Hz.out; omega))⟩
              | true =>
              cases q3 : inB o.worth 0 10000 with
              | false =>
                have e := Lib.hid (He.out _ (ordErr_range n1 (by simp [q1, q2, q3])) (by decide))
                go_wp2_with (go_at_call 50; refine (in_s _ _ _ _).mono ?_; rintro e wx ⟨rfl, rfl⟩)
                go_ret3
                exact ⟨by rw [e.out]; rfl, Hb.out.trans (HX.out.mono (by have := Hz.out; omega))⟩
              | true =>
                have Hok := Lib.hid (Hk.out (ordErr_ok n1 (by simp [q1, q2, q3])))
                go_wp2_with (go_at_call 50; refine (in_s _ _ _ _).mono ?_; rintro e wx ⟨rfl, rfl⟩)
                go_roundw
                case rel => exact ⟨k + 1, by omega, by go_num, Hok.out, HX.out⟩
                case measure => simp [intOf]; omega
            · have hkn : k = s.orders.length := by omega
              subst hkn
              have e := Lib.hid (checkV_eq (check_ok HS.out HH.out HPs.out Hno.out))
              have HX := Lib.hid hx
              clear hx
              go_wp2
              go_ret3
              exact ⟨by rw [e.out]; rfl, Hb.out.trans (HX.out.mono (by have := Hz.out; omega))⟩
end Go.Proofs.Ytkmaapkbonkjfaa
namespace Go.Proofs.Ytkmaapkbonkjfaa
open Go.RowKit

theorem outB_true {lo hi : Int} {t : List Int} {i : Nat} (hi2 : i < t.length) (h : inB (t[i]?.getD 0) lo hi = false) : outB lo hi t = true := by
  unfold outB
  rw [List.any_eq_true]
  refine ⟨t[i], List.getElem_mem hi2, ?_⟩
  rw [List.getElem?_eq_getElem hi2] at h
  simp only [Option.getD_some] at h
  rw [inB_false] at h
  simp
  omega
theorem outB_none {lo hi : Int} {t : List Int} (h : ∀ j, j < t.length → inB (t[j]?.getD 0) lo hi = true) : outB lo hi t = false := by
  unfold outB
  rw [List.any_eq_false]
  intro x hx
  obtain ⟨i, hi2, rfl⟩ := List.getElem_of_mem hx
  have := h i hi2
  rw [List.getElem?_eq_getElem hi2] at this
  simp only [Option.getD_some, inB_iff] at this
  simp
  omega

theorem bad_zero (t : List Int) : ∀ j, j < 1 → badAt t j = false := by
  intro j hj
  obtain rfl : j = 0 := by omega
  simp [badAt]
set_option maxRecDepth 100000 in
set_option maxHeartbeats 1000000 in
theorem rtaken_any {B : Nat} {w : World} {v vt : Value} {s : ShopR} {t : List Int} (h : Given B w v vt s t) :
    Calls Try.prog 41 #[v, vt] w fun e w' => e = .returned (.int .i64 (takenErr s t)) ∧ Below w.heap.size w w' := by
  obtain ⟨Ah, ch, Ap, cp, Ao, co, At_, ct, rfl, rfl⟩ := h.form
  obtain ⟨W, hW, c0, c1, c2, hz, hb, _⟩ := shop_box w (.slice Ah s.hours.length ch) (.slice Ap s.parts.length cp) (.slice Ao s.orders.length co)
  have htl := h.tk.len
  go_enter Try.func41, Try.ntmps41
  go_upto_region 1 with (fail)
  rw [← hW]
  have hG := Lib.hid (h.below hb)
  have Hb := Lib.hid hb
  have C2 := Lib.hid c2
  clear hW hz hb h
  have hq := Lib.hid (rcheck_any hG.out.shop hG.out.nm hG.out.le)
  go_upto_region 2 with (go_at_call 17; refine hq.out.mono ?_; unfold checkV; rintro e wx ⟨rfl, hbx⟩; have HX := Lib.hid hbx; clear hbx)
  clear c0 c1 c2
  rw [show (check s).2.2 = errOf s from rfl]
  generalize (check s).2.1 = n2 at *
  generalize (check s).1 = n1 at *
  go_wp2
  go_loopw [7, 8] (fun ev i wr => ∃ (k : Nat) (E : Int), k ≤ t.length ∧ i = .int .i64 k ∧ ev = .int .i64 E ∧ (E = 0 → errOf s = 0 ∧ ∀ j, j < k → inB (t[j]?.getD 0) 0 (s.orders.length - 1) = true) ∧ (E ≠ 0 → takenErr s t = E) ∧ Below wx.heap.size wx wr) (fun _ i _ => t.length - (intOf i).toNat)
  case atStart => exact ⟨0, errOf s, Nat.zero_le _, rfl, rfl, fun h => ⟨h, fun j hj => by omega⟩, fun h => takenErr_shop h, Below.refl _ _⟩
  case round =>
    obtain ⟨k, E, hk, rfl, rfl, hE0, hE1, hbr⟩ := hrel
    by_cases hlt : k < t.length ∧ E = 0
    · obtain ⟨hlt, rfl⟩ := hlt
      obtain ⟨he, hno⟩ := hE0 rfl
      have hbw := HX.out.trans (hbr.mono HX.out.size)
      obtain ⟨ad, rfl, _, d0⟩ := (hG.out.tk.below (hbw.mono hG.out.le)).int hlt
      have c2 := (hbw.cell (cell_lt C2.out)).trans C2.out
      have holen := (good_of_valid he).olen
      have He := Lib.hid he
      have Hno := Lib.hid hno
      have Hbr := Lib.hid hbr
      have Hx := Lib.hid (fun h => takenErr_none (s := s) he (outB_true (lo := 0) (hi := s.orders.length - 1) hlt h))
      have Hx1 := Lib.hid (fun (h : inB (t[k]?.getD 0) 0 (s.orders.length - 1) = true) => (show ∀ j, j < k + 1 → inB (t[j]?.getD 0) 0 (s.orders.length - 1) = true from fun j hj => by
        by_cases e : j < k
        · exact hno j e
        · obtain rfl : j = k := by omega
          exact h))
      clear he hno hbr hE0 hE1 hbw
      generalize t[k]?.getD 0 = x at *
      cases hx : inB x 0 (s.orders.length - 1) with
      | true =>
        have HX1 := Lib.hid (Hx1.out hx)
        go_upto_region 5 with (fail)
        go_quiet ((go_at_call 50; exact Calls.quiet_of_same (in_any _ _ _ _)))
        go_wp2
        go_roundw
        case rel => exact ⟨k + 1, 0, by omega, by go_num, rfl, fun _ => ⟨He.out, HX1.out⟩, fun h => absurd rfl h, below_drewN Hbr.out _⟩
        case measure => simp [intOf]; omega
      | false =>
        have HX1 := Lib.hid (Hx.out hx)
        go_upto_region 5 with (fail)
        go_quiet ((go_at_call 50; exact Calls.quiet_of_same (in_any _ _ _ _)))
        go_wp2
        go_roundw
        case rel => exact ⟨k + 1, 4, by omega, by go_num, rfl, fun h => absurd h (by decide), fun _ => HX1.out, below_drewN Hbr.out _⟩
        case measure => simp [intOf]; omega
    · have hexit : (E = 0 → errOf s = 0 ∧ outB 0 (s.orders.length - 1) t = false) := fun h => ⟨(hE0 h).1, outB_none fun j hj => (hE0 h).2 j (by omega)⟩
      have Hexit := Lib.hid hexit
      have HE1 := Lib.hid hE1
      have Hbr := Lib.hid hbr
      clear hE0 hE1 hbr hexit
      obtain ⟨wq, rfl⟩ : ∃ wq : World, wq = wr := ⟨_, rfl⟩
      have hfin : ∀ e : Bool, (E == 0) = e → True := fun _ _ => trivial
      clear hfin
      have hcase : (k < t.length ∧ (E == 0) = false) ∨ ¬ k < t.length := by
        by_cases h1 : k < t.length
        · exact .inl ⟨h1, by simpa using fun h2 => hlt ⟨h1, h2⟩⟩
        · exact .inr h1
      clear hlt
      rcases hcase with ⟨hk1, hk2⟩ | hk1
      all_goals
        go_wp2
        go_loopw [7, 9] (fun ev i wr => ∃ (k : Nat) (E : Int), 1 ≤ k ∧ (k = 1 ∨ k ≤ t.length) ∧ i = .int .i64 k ∧ ev = .int .i64 E ∧ (E = 0 → errOf s = 0 ∧ outB 0 (s.orders.length - 1) t = false ∧ ∀ j, j < k → badAt t j = false) ∧ (E ≠ 0 → takenErr s t = E) ∧ Below wx.heap.size wx wr) (fun _ i _ => t.length - (intOf i).toNat)
        case atStart => exact ⟨1, E, Nat.le_refl _, .inl rfl, rfl, rfl, fun h => ⟨(Hexit.out h).1, (Hexit.out h).2, bad_zero t⟩, HE1.out, Hbr.out⟩
        case round =>
          obtain ⟨k2, E2, hk3, hk4, rfl, rfl, hE0, hE1, hbr⟩ := hrel
          by_cases hlt : k2 < t.length ∧ E2 = 0
          · obtain ⟨hlt, rfl⟩ := hlt
            obtain ⟨he, hob, hno⟩ := hE0 rfl
            have hbw := HX.out.trans (hbr.mono HX.out.size)
            obtain ⟨ad, rfl, _, d0⟩ := (hG.out.tk.below (hbw.mono hG.out.le)).int hlt
            obtain ⟨ad', e', _, d1⟩ := (hG.out.tk.below (hbw.mono hG.out.le)).int (i := k2 - 1) (by omega)
            cases e'
            have hk5 : ((k2 : Int) - 1).toNat = k2 - 1 := by omega
            have He := Lib.hid he
            have Hob := Lib.hid hob
            have Hno := Lib.hid hno
            have Hbr2 := Lib.hid hbr
            have Hbad := Lib.hid (show badAt t k2 = decide (t[k2]?.getD 0 ≤ t[k2 - 1]?.getD 0) by simp [badAt, List.getD_eq_getElem?_getD]; omega)
            clear he hob hno hbr hE0 hE1 hbw
            generalize t[k2]?.getD 0 = x at *
            generalize t[k2 - 1]?.getD 0 = y at *
            by_cases hxy : x ≤ y
            · have HA := Lib.hid (takenErr_arg He.out Hob.out hlt (by rw [Hbad.out]; simpa using hxy) Hno.out)
              have hxy2 : decide (x ≤ y) = true := by simpa using hxy
              go_upto_region 10 with (fail)
              go_quiet (fail)
              go_wp2
              go_roundw
              case rel => exact ⟨k2 + 1, 2, by omega, .inr (by omega), by go_num, rfl, fun h => absurd h (by decide), fun _ => HA.out, below_drewN Hbr2.out _⟩
              case measure => simp [intOf]; omega
            · have HA := Lib.hid (show ∀ j, j < k2 + 1 → badAt t j = false from fun j hj => by
                by_cases e : j < k2
                · exact Hno.out j e
                · obtain rfl : j = k2 := by omega
                  rw [Hbad.out]; simpa using hxy)
              have hxy2 : decide (x ≤ y) = false := by simpa using hxy
              go_upto_region 10 with (fail)
              go_quiet (fail)
              go_wp2
              go_roundw
              case rel => exact ⟨k2 + 1, 0, by omega, .inr (by omega), by go_num, rfl, fun _ => ⟨He.out, Hob.out, HA.out⟩, fun h => absurd rfl h, below_drewN Hbr2.out _⟩
              case measure => simp [intOf]; omega
          · have HF := Lib.hid (show takenErr s t = E2 from by
              by_cases h0 : E2 = 0
              · obtain ⟨a1, a2, a3⟩ := hE0 h0
                rw [h0]
                exact takenErr_ok a1 a2 fun j hj => a3 j (by omega)
              · exact hE1 h0)
            have Hbr2 := Lib.hid hbr
            have hcase : (k2 < t.length ∧ (E2 == 0) = false) ∨ ¬ k2 < t.length := by
              by_cases h1 : k2 < t.length
              · exact .inl ⟨h1, by simpa using fun h2 => hlt ⟨h1, h2⟩⟩
              · exact .inr h1
            clear hE0 hE1 hbr hlt
            rcases hcase with ⟨hk5, hk6⟩ | hk5
            all_goals
              go_wp2
              go_ret
              exact ⟨ret_int HF.out.symm, Hb.out.trans ((HX.out.trans (Hbr2.out.mono HX.out.size)).mono Hb.out.size)⟩
end Go.Proofs.Ytkmaapkbonkjfaa
namespace Go.Proofs.Ytkmaapkbonkjfaa
open Go.RowKit

theorem ofL_snoc {s : ShopR} {t : List Int} {k : Nat} (hk : k < t.length) {q : Nat} (hq : t[k]?.getD 0 = q) : ofL s (t.take (k + 1)) = ofL s (t.take k) ++ [s.orders[q]?.getD default] := by
  rw [take_succ_getD hk 0, List.getD_eq_getElem?_getD, hq]
  simp [ofL, List.getD_eq_getElem?_getD]
theorem taken_in {s : ShopR} {t : List Int} (h : takenErr s t = 0) {k : Nat} (hk : k < t.length) : 0 ≤ t[k]?.getD 0 ∧ t[k]?.getD 0 < s.orders.length := by
  obtain ⟨he, _, _, _⟩ := fit_of h
  have hob : outB 0 (s.orders.length - 1) t = false := by
    cases hob : outB 0 (s.orders.length - 1) t with
    | false => rfl
    | true => rw [takenErr_none he hob] at h; cases h
  have := outB_false hob hk
  omega

set_option maxRecDepth 100000 in
set_option maxHeartbeats 1000000 in
theorem rof_any {B : Nat} {w : World} {v vt : Value} {s : ShopR} {t : List Int} (h : Given B w v vt s t) (he : takenErr s t = 0) :
    Calls Try.prog 55 #[v, vt] w fun e w' => ∃ A c, e = .returned (.slice A t.length c) ∧ Rd OrdAt 4 w'.heap.size w' (.slice A t.length c) (ofL s t) ∧ Below w.heap.size w w' := by
  obtain ⟨Ah, ch, Ap, cp, Ao, co, At_, ct, rfl, rfl⟩ := h.form
  obtain ⟨W, hW, c0, c1, c2, hz, hb, _⟩ := shop_box w (.slice Ah s.hours.length ch) (.slice Ap s.parts.length cp) (.slice Ao s.orders.length co)
  obtain ⟨_, hg, hf, ht8⟩ := fit_of he
  have holen := hg.olen
  go_enter Try.func55, Try.ntmps55
  go_upto_region 1 with (fail)
  rw [← hW]
  have hG := Lib.hid (h.below hb)
  have Hb := Lib.hid hb
  have C2 := Lib.hid c2
  have He := Lib.hid he
  clear hW hz hb h c0 c1 c2 he
  go_wp2
  go_loopw [5, 6] (fun lv i wr => ∃ (k : Nat) (A : Option Addr) (c : Nat), k ≤ t.length ∧ i = .int .i64 k ∧ lv = .slice A k c ∧ Own W.heap.size 60 wr (.slice A k c) (ofL s (t.take k)) ∧ Below W.heap.size W wr) (fun _ i _ => t.length - (intOf i).toNat)
  case atStart => exact ⟨0, none, 0, Nat.zero_le _, rfl, rfl, Own.nil _ _ _, Below.refl _ _⟩
  case round =>
    obtain ⟨k, A, c, hk, rfl, rfl, hown, hbr⟩ := hrel
    have hszr := hbr.size
    by_cases hlt : k < t.length
    · obtain ⟨ad, rfl, _, d0⟩ := (hG.out.tk.below (hbr.mono hG.out.le)).int hlt
      obtain ⟨q0, q1⟩ := taken_in He.out hlt
      obtain ⟨q, hq⟩ := Int.eq_ofNat_of_zero_le q0
      have c2 := (hbr.cell (cell_lt C2.out)).trans C2.out
      have hq1 : (q : Int) < s.orders.length := by omega
      obtain ⟨vh, vp, vo, hv, _, _, ho⟩ := (hG.out.shop.below (hbr.mono hG.out.le))
      cases hv
      obtain ⟨ao, rfl, _, o0, o1, o2, o3⟩ := ho.ord (i := q) (by omega)
      have Hsn := Lib.hid (ofL_snoc (s := s) hlt hq)
      rw [hq] at d0
      have hll : (ofL s (t.take k)).length = k := by rw [ofL_len, List.length_take]; omega
      have Hown := Lib.hid hown
      have Hbr := Lib.hid hbr
      have Hll := Lib.hid hll
      clear hq q0 q1 ho hown hbr hll
      generalize s.orders[q]?.getD default = o at *
      generalize ofL s (t.take k) = l at *
      go_upto_region 5 with (fail)
      refine region_move_quiet_tail2 (C := fun w' => ∃ n, w' = wr.drewN n) 9 _ rfl rfl (by kernel_rfl) (by kernel_rfl) ⟨1, rfl⟩ ?_
      simp only [List.take_succ_cons, List.take_zero, List.drop_succ_cons, List.drop_zero, Nat.reduceSub]
      repeat (first | go_big_quiet_step (fail) | quiet_step (fail))
      refine wpQuiet_nil ?_
      rintro _ ⟨n1, rfl⟩
      obtain ⟨wq, hwq⟩ : ∃ wq, wq = wr.drewN n1 := ⟨_, rfl⟩
      rw [← hwq]
      have hownq : Own W.heap.size 60 wq (.slice A k c) l := by rw [hwq]; exact Hown.out.qt ⟨n1, rfl⟩
      have hbq : Below W.heap.size W wq := by rw [hwq]; exact below_drewN Hbr.out n1
      obtain ⟨A2, c2', w2, hrun, hown2, hb2, _⟩ := append_ord hownq o (by rw [Hll.out]; omega) hbq.size
      rw [Hll.out] at hrun hown2
      have Hown2 := Lib.hid hown2
      have Hb2 := Lib.hid (hbq.trans hb2)
      clear hwq hownq hbq hown2 hb2 d0 o0 o1 o2 o3 c2
      go_wp2_with (at_builtin; refine wpList_append_run rfl _ _ _ rfl rfl rfl hrun ?_)
      refine NoPanic.normal ?_
      simp only [Exit.inBlock, Exit.then]
      go_wp2
      go_roundw
      case rel => exact ⟨k + 1, A2, c2', by omega, by go_num, rfl, by rw [Hsn.out]; exact Hown2.out, Hb2.out⟩
      case measure => simp [intOf]; omega
    · have hkn : k = t.length := by omega
      subst hkn
      rw [List.take_of_length_le (Nat.le_refl _)] at hown
      have Hown := Lib.hid hown
      have Hbr := Lib.hid hbr
      clear hown hbr
      go_wp2
      go_ret
      have := Hown.out.rd
      exact ⟨A, c, rfl, this, Hb.out.trans (Hbr.out.mono Hb.out.size)⟩
end Go.Proofs.Ytkmaapkbonkjfaa
namespace Go.Proofs.Ytkmaapkbonkjfaa
open Go.RowKit

set_option maxRecDepth 100000 in
set_option maxHeartbeats 1000000 in
theorem rlate_any {B : Nat} {w : World} {v vt : Value} {s : ShopR} {t : List Int} (h : Given B w v vt s t) :
    Calls Try.prog 19 #[v, vt] w fun e w' => e = .returned (lateFV s t) ∧ Below w.heap.size w w' := by
  obtain ⟨Ah, ch, Ap, cp, Ao, co, At_, ct, rfl, rfl⟩ := h.form
  obtain ⟨W, hW, c0, c1, c2, hz, hb, _⟩ := shop_box w (.slice Ah s.hours.length ch) (.slice Ap s.parts.length cp) (.slice Ao s.orders.length co)
  go_enter Try.func19, Try.ntmps19
  go_upto_region 1 with (fail)
  rw [← hW]
  have hG := Lib.hid (h.below hb)
  have Hb := Lib.hid hb
  clear hW hz hb h
  have hq := Lib.hid (rtaken_any hG.out)
  by_cases he : takenErr s t = 0
  · rw [he] at hq
    obtain ⟨_, hg, hf, _⟩ := fit_of he
    have He := Lib.hid he
    clear he
    go_upto_region 4 with (go_at_call 41; refine hq.out.mono ?_; rintro e wx ⟨rfl, hbx⟩; have c0 := (hbx.cell (cell_lt c0)).trans c0; have c1 := (hbx.cell (cell_lt c1)).trans c1; have c2 := (hbx.cell (cell_lt c2)).trans c2; have HX := Lib.hid hbx; clear hbx)
    cases hfd : first? s (ofL s t) with
    | some d =>
      have e := Lib.hid (lateFV_eq (s := s) (t := t) (a := d) (b := over s (ofL s t) d) (c := 0) (by unfold lateF; rw [if_neg (by simp [He.out]), hfd]))
      have hG2 := hG.out.below HX.out
      have hGd : Given B wx.drew _ _ s t := hG2.below (Below.refl _ _).drew
      have HGd := Lib.hid hGd
      have Hof := Lib.hid (rof_any hGd He.out)
      have Hfi := Lib.hid (fun (w2 : World) (A : Option Addr) (c : Nat) (hb2 : Below wx.drew.heap.size wx.drew w2) (hr : Rd OrdAt 4 w2.heap.size w2 (.slice A t.length c) (ofL s t)) =>
        (by have := first_any (((hGd.shop.below (hb2.mono hGd.le))).mono (Nat.le_trans hGd.le hb2.size)) hr hg hf (Nat.le_refl _); rw [firstV_some hfd] at this; exact this :
          Calls Try.prog 54 #[.agg #[.slice Ah s.hours.length ch, .slice Ap s.parts.length cp, .slice Ao s.orders.length co], .slice A t.length c] w2 fun e w' => e = .returned (.tuple #[.int .i64 d, .int .i64 (over s (ofL s t) d), .bool true]) ∧ Below w2.heap.size w2 w'))
      clear hGd hG2
      go_region_held3 (fun w' => w'.cell? ⟨w.heap.size, 0, none⟩ = some (.slice Ah s.hours.length ch) ∧ w'.cell? ⟨w.heap.size, 1, none⟩ = some (.slice Ap s.parts.length cp) ∧ w'.cell? ⟨w.heap.size, 2, none⟩ = some (.slice Ao s.orders.length co))
        (first | go_keep | exact ⟨c0, c1, c2⟩)
        ((first
          | (go_at_call 55; refine Hof.out.mono ?_; rintro e w2 ⟨A, c, rfl, hr, hb2⟩; have c0 := (hb2.cell (cell_lt (w := wx.drew) c0)).trans c0; have c1 := (hb2.cell (cell_lt (w := wx.drew) c1)).trans c1; have c2 := (hb2.cell (cell_lt (w := wx.drew) c2)).trans c2; have HR := Lib.hid hr; have HB2 := Lib.hid hb2; clear hr hb2)
          | (go_at_call 54; refine (Hfi.out _ _ _ HB2.out HR.out).mono ?_; rintro e w3 ⟨rfl, hb3⟩; have c0 := (hb3.cell (cell_lt c0)).trans c0; have c1 := (hb3.cell (cell_lt c1)).trans c1; have c2 := (hb3.cell (cell_lt c2)).trans c2; have HB3 := Lib.hid hb3; clear hb3)))
      clear hfd
      go_wp2
      go_ret3
      exact ⟨by rw [e.out]; rfl, Hb.out.trans ((HX.out.trans ((((Below.refl wx.heap.size wx).drew).trans (HB2.out.trans (HB3.out.mono HB2.out.size))).mono HX.out.size)).mono Hb.out.size)⟩
    | none =>
      have e := Lib.hid (lateFV_eq (s := s) (t := t) (a := 0) (b := 0) (c := 4) (by unfold lateF; rw [if_neg (by simp [He.out]), hfd]))
      have hG2 := hG.out.below HX.out
      have hGd : Given B wx.drew _ _ s t := hG2.below (Below.refl _ _).drew
      have HGd := Lib.hid hGd
      have Hof := Lib.hid (rof_any hGd He.out)
      have Hfi := Lib.hid (fun (w2 : World) (A : Option Addr) (c : Nat) (hb2 : Below wx.drew.heap.size wx.drew w2) (hr : Rd OrdAt 4 w2.heap.size w2 (.slice A t.length c) (ofL s t)) =>
        (by have := first_any (((hGd.shop.below (hb2.mono hGd.le))).mono (Nat.le_trans hGd.le hb2.size)) hr hg hf (Nat.le_refl _); rw [firstV_none hfd] at this; exact this :
          Calls Try.prog 54 #[.agg #[.slice Ah s.hours.length ch, .slice Ap s.parts.length cp, .slice Ao s.orders.length co], .slice A t.length c] w2 fun e w' => e = .returned (.tuple #[.int .i64 0, .int .i64 0, .bool false]) ∧ Below w2.heap.size w2 w'))
      clear hGd hG2
      go_region_held3 (fun w' => w'.cell? ⟨w.heap.size, 0, none⟩ = some (.slice Ah s.hours.length ch) ∧ w'.cell? ⟨w.heap.size, 1, none⟩ = some (.slice Ap s.parts.length cp) ∧ w'.cell? ⟨w.heap.size, 2, none⟩ = some (.slice Ao s.orders.length co))
        (first | go_keep | exact ⟨c0, c1, c2⟩)
        ((first
          | (go_at_call 55; refine Hof.out.mono ?_; rintro e w2 ⟨A, c, rfl, hr, hb2⟩; have c0 := (hb2.cell (cell_lt (w := wx.drew) c0)).trans c0; have c1 := (hb2.cell (cell_lt (w := wx.drew) c1)).trans c1; have c2 := (hb2.cell (cell_lt (w := wx.drew) c2)).trans c2; have HR := Lib.hid hr; have HB2 := Lib.hid hb2; clear hr hb2)
          | (go_at_call 54; refine (Hfi.out _ _ _ HB2.out HR.out).mono ?_; rintro e w3 ⟨rfl, hb3⟩; have c0 := (hb3.cell (cell_lt c0)).trans c0; have c1 := (hb3.cell (cell_lt c1)).trans c1; have c2 := (hb3.cell (cell_lt c2)).trans c2; have HB3 := Lib.hid hb3; clear hb3)))
      clear hfd
      go_wp2
      go_ret3
      exact ⟨by rw [e.out]; rfl, Hb.out.trans ((HX.out.trans ((((Below.refl wx.heap.size wx).drew).trans (HB2.out.trans (HB3.out.mono HB2.out.size))).mono HX.out.size)).mono Hb.out.size)⟩
  · have e := Lib.hid (lateFV_eq (s := s) (t := t) (a := 0) (b := 0) (c := takenErr s t) (by unfold lateF; rw [if_pos he]))
    have hne : (takenErr s t != 0) = true := by simpa using he
    clear he
    go_wp2_with (go_at_call 41; refine hq.out.mono ?_; rintro e wx ⟨rfl, hbx⟩; have HX := Lib.hid hbx; clear hbx)
    go_ret3
    exact ⟨by rw [e.out]; rfl, Hb.out.trans (HX.out.mono Hb.out.size)⟩
end Go.Proofs.Ytkmaapkbonkjfaa
namespace Go.Proofs.Ytkmaapkbonkjfaa
open Go.RowKit

theorem by_map_snoc (s : ShopR) (l : List OrdR) (k : Nat) : (List.range (k + 1)).map (fun i => byy s l i (s.hours.length - 1)) = (List.range k).map (fun i => byy s l i (s.hours.length - 1)) ++ [byy s l k (s.hours.length - 1)] := by
  rw [List.range_succ, List.map_append]; rfl

set_option maxRecDepth 100000 in
set_option maxHeartbeats 1000000 in
theorem rneeded_ok {B : Nat} {w : World} {v vt : Value} {s : ShopR} {t : List Int} (h : Given B w v vt s t) (he : takenErr s t = 0) :
    Calls Try.prog 21 #[v, vt] w fun e w' => ∃ A c, e = .returned (.tuple #[.slice A s.parts.length c, .int .i64 0]) ∧ Rd IntAt 1 w'.heap.size w' (.slice A s.parts.length c) (neededL s (ofL s t)) ∧ Below w.heap.size w w' := by
  obtain ⟨Ah, ch, Ap, cp, Ao, co, At_, ct, rfl, rfl⟩ := h.form
  obtain ⟨W, hW, c0, c1, c2, hz, hb, _⟩ := shop_box w (.slice Ah s.hours.length ch) (.slice Ap s.parts.length cp) (.slice Ao s.orders.length co)
  obtain ⟨_, hg, hf, ht8⟩ := fit_of he
  have hplen := hg.plen
  have hhlen := hg.hlen
  go_enter Try.func21, Try.ntmps21
  go_upto_region 1 with (fail)
  rw [← hW]
  have hG := Lib.hid (h.below hb)
  have Hb := Lib.hid hb
  have Hz := Lib.hid hz
  clear hW hz hb h
  have hq := Lib.hid (rtaken_any hG.out)
  have He := Lib.hid he
  rw [he] at hq
  clear he
  go_upto_region 4 with (go_at_call 41; refine hq.out.mono ?_; rintro e wx ⟨rfl, hbx⟩; have c0 := (hbx.cell (cell_lt c0)).trans c0; have c1 := (hbx.cell (cell_lt c1)).trans c1; have c2 := (hbx.cell (cell_lt c2)).trans c2; have HX := Lib.hid hbx; clear hbx)
  have C0 := Lib.hid c0
  have C1 := Lib.hid c1
  have C2 := Lib.hid c2
  have hG2 := Lib.hid (hG.out.below HX.out)
  have hwx : w.heap.size < wx.heap.size := cell_lt c0
  clear c0 c1 c2
  go_wp2
  go_loopw [7, 8] (fun nv i wr => ∃ (k : Nat) (A : Option Addr) (c : Nat), k ≤ s.parts.length ∧ i = .int .i64 k ∧ nv = .slice A k c ∧ Own wx.heap.size 3 wr (.slice A k c) ((List.range k).map fun i => byy s (ofL s t) i (s.hours.length - 1)) ∧ Below wx.heap.size wx wr) (fun _ i _ => s.parts.length - (intOf i).toNat)
  case atStart => exact ⟨0, none, 0, Nat.zero_le _, rfl, rfl, Own.nil _ _ _, Below.refl _ _⟩
  case round =>
    obtain ⟨k, A, c, hk, rfl, rfl, hown, hbr⟩ := hrel
    have hszr := hbr.size
    have c0 := (hbr.cell (cell_lt C0.out)).trans C0.out
    have c1 := (hbr.cell (cell_lt C1.out)).trans C1.out
    have c2 := (hbr.cell (cell_lt C2.out)).trans C2.out
    by_cases hlt : k < s.parts.length
    · have hbd : Below wx.heap.size wx wr.drew := hbr.drew
      have hGd : Given B wr.drew _ _ s t := hG2.out.below hbd
      have HOd := Lib.hid (hown.qt (w' := wr.drew) ⟨1, rfl⟩)
      have Hof := Lib.hid (rof_any hGd He.out)
      have Hby := Lib.hid (fun (w2 : World) (A : Option Addr) (c : Nat) (hb2 : Below wr.drew.heap.size wr.drew w2) (hr : Rd OrdAt 4 w2.heap.size w2 (.slice A t.length c) (ofL s t)) =>
        by_any ((hGd.shop.below (hb2.mono hGd.le)).mono (Nat.le_trans hGd.le hb2.size)) hr hg hf k (s.hours.length - 1) hlt (Nat.le_refl _))
      have Hbd := Lib.hid hbd
      have Hsn := Lib.hid (by_map_snoc s (ofL s t) k)
      have hlen : ((List.range k).map fun i => byy s (ofL s t) i (s.hours.length - 1)).length = k := by simp
      have Hlen := Lib.hid hlen
      clear hGd hbd hown hbr hlen
      generalize ((List.range k).map fun i => byy s (ofL s t) i (s.hours.length - 1)) = xs at *
      generalize byy s (ofL s t) k (s.hours.length - 1) = x at *
      go_upto_region 8 with (fail)
      have hwr1 : IntKind.i64.wrap ((s.hours.length : Int) - 1) = (s.hours.length : Int) - 1 := IntWalk.i64_in _ (by omega)
      go_region_held3 (fun w' => w'.cell? ⟨w.heap.size, 0, none⟩ = some (.slice Ah s.hours.length ch) ∧ w'.cell? ⟨w.heap.size, 1, none⟩ = some (.slice Ap s.parts.length cp) ∧ w'.cell? ⟨w.heap.size, 2, none⟩ = some (.slice Ao s.orders.length co))
        (first | go_keep | exact ⟨c0, c1, c2⟩)
        ((first
          | (go_at_call 55; refine Hof.out.mono ?_; rintro e w2 ⟨A3, c3, rfl, hr, hb2⟩; have c0 := (hb2.cell (cell_lt (w := wr.drew) c0)).trans c0; have c1 := (hb2.cell (cell_lt (w := wr.drew) c1)).trans c1; have c2 := (hb2.cell (cell_lt (w := wr.drew) c2)).trans c2; have HR := Lib.hid hr; have HB2 := Lib.hid hb2; have HO2 := Lib.hid (HOd.out.below hb2); clear hr hb2)
          | (go_at_call 58; (with_reducible refine (Hby.out _ _ _ HB2.out HR.out).mono ?_); rintro e w3 ⟨rfl, hb3⟩; have c0 := (hb3.cell (cell_lt c0)).trans c0; have c1 := (hb3.cell (cell_lt c1)).trans c1; have c2 := (hb3.cell (cell_lt c2)).trans c2; have HB3 := Lib.hid hb3; have HO3 := Lib.hid (HO2.out.below hb3); clear hb3)
          | (revert HO3; intro HO3; obtain ⟨A4, c4, w4, hrun, hown4, hb4, _⟩ := append_int HO3.out x (by rw [Hlen.out]; omega) (Nat.le_trans (Nat.le_trans Hbd.out.size HB2.out.size) HB3.out.size); rw [Hlen.out] at hrun hown4; refine step_append_run rfl _ _ _ rfl rfl rfl hrun ?_; have c0 := (hb4.cell (by show w.heap.size < _; exact hwx)).trans c0; have c1 := (hb4.cell (by show w.heap.size < _; exact hwx)).trans c1; have c2 := (hb4.cell (by show w.heap.size < _; exact hwx)).trans c2; have HO4 := Lib.hid hown4; have HB4 := Lib.hid hb4; clear hown4 hb4 hrun)
          | fail))
      clear hwr1
      try simp only [Exit.inBlock, Exit.then]
      go_wp2
      go_roundw
      case rel =>
        refine ⟨k + 1, A4, c4, by omega, by go_num, rfl, by rw [Hsn.out]; exact HO4.out, ?_⟩
        have b2 := Hbd.out.trans (HB2.out.mono Hbd.out.size)
        have b3 := b2.trans (HB3.out.mono b2.size)
        exact b3.trans HB4.out
      case measure => simp [intOf]; omega
    · have hkn : k = s.parts.length := by omega
      subst hkn
      have Hown := Lib.hid hown
      have Hbr := Lib.hid hbr
      clear hown hbr
      go_wp2
      go_ret2
      exact ⟨A, c, rfl, Hown.out.rd, Hb.out.trans ((HX.out.trans (Hbr.out.mono HX.out.size)).mono Hb.out.size)⟩

set_option maxRecDepth 100000 in
theorem rneeded_bad {B : Nat} {w : World} {v vt : Value} {s : ShopR} {t : List Int} (h : Given B w v vt s t) (he : takenErr s t ≠ 0) :
    Calls Try.prog 21 #[v, vt] w fun e w' => e = .returned (.tuple #[.slice none 0 0, .int .i64 (takenErr s t)]) ∧ Below w.heap.size w w' := by
  obtain ⟨Ah, ch, Ap, cp, Ao, co, At_, ct, rfl, rfl⟩ := h.form
  obtain ⟨W, hW, c0, c1, c2, hz, hb, _⟩ := shop_box w (.slice Ah s.hours.length ch) (.slice Ap s.parts.length cp) (.slice Ao s.orders.length co)
  go_enter Try.func21, Try.ntmps21
  go_upto_region 1 with (fail)
  rw [← hW]
  have hG := Lib.hid (h.below hb)
  have Hb := Lib.hid hb
  clear hW hz hb h
  have hq := Lib.hid (rtaken_any hG.out)
  have hne : (takenErr s t != 0) = true := by simpa using he
  clear he
  go_wp2_with (go_at_call 41; refine hq.out.mono ?_; rintro e wx ⟨rfl, hbx⟩; have HX := Lib.hid hbx; clear hbx)
  go_ret2
  exact ⟨rfl, Hb.out.trans (HX.out.mono Hb.out.size)⟩
end Go.Proofs.Ytkmaapkbonkjfaa
