/- Walks of the layer order: Check of the program. Walks of the layer order: look, enter. -/
import Derived.Test.YtkmaapkbonkjfaaGW
import Derived.Test.YtkmaapkbonkjfaaGName
import Derived.Test.YtkmaapkbonkjfaaGDays
import Derived.Test.YtkmaapkbonkjfaaGApp
set_option linter.unusedSimpArgs false
set_option linter.unusedVariables false
namespace Go.Proofs.Ytkmaapkbonkjfaa
open Go.RowKit

theorem out1 (lo hi x : Int) (w : World) :
    Calls Try.prog 44 #[.int .i64 lo, .int .i64 hi, .slice (some ⟨w.heap.size, 0, none⟩) 1 1] (w.alloc (.cells #[.int .i64 x] 3)) fun e w' => e = .returned (.bool (outB lo hi [x])) ∧ Below w.heap.size w w' :=
  (out_any lo hi (Rd.one w x) (by simp)).mono fun _ _ ⟨he, hb⟩ => ⟨he, ((Below.refl _ _).alloc (Nat.le_refl _) _).trans (hb.mono (by simp))⟩
theorem outB_one (lo hi x : Int) : outB lo hi [x] = !inB x lo hi := by
  unfold outB inB
  by_cases h1 : lo ≤ x <;> by_cases h2 : x ≤ hi <;> simp [h1, h2] <;> omega
theorem Rd.take {α : Type} {At : World → Addr → α → Prop} {sz B : Nat} {w : World} {A : Option Addr} {n cap k : Nat} {xs : List α} (h : Rd At sz B w (.slice A n cap) xs) (hk : k ≤ xs.length) : Rd At sz B w (.slice A k cap) (xs.take k) := by
  obtain ⟨A', cap', e, h1, h2, h3⟩ := h
  injection e with e1 e2 e3
  subst e1 e2 e3
  refine ⟨A, cap, by rw [List.length_take, Nat.min_eq_left hk], by rw [List.length_take]; omega, h2, fun i x hx => ?_⟩
  rw [List.getElem?_take] at hx
  split at hx
  · exact h3 i x hx
  · cases hx

def checkV (s : ShopR) : Value := .tuple #[.int .i64 (check s).1, .int .i64 (check s).2.1, .int .i64 (check s).2.2]

theorem check_long {s : ShopR} (h : (!(inB s.hours.length 1 20) || !(inB s.parts.length 1 3) || decide (8 < (s.orders.length : Int))) = true) : check s = (1, 0, 3) := by
  unfold check; rw [if_pos h]
/-- nothing is too long -/
structure Short (s : ShopR) : Prop where
  h : 1 ≤ s.hours.length ∧ s.hours.length ≤ 20
  p : 1 ≤ s.parts.length ∧ s.parts.length ≤ 3
  o : s.orders.length ≤ 8
theorem Short.c {s : ShopR} (h : Short s) : ¬ (!(inB s.hours.length 1 20) || !(inB s.parts.length 1 3) || decide (8 < (s.orders.length : Int))) = true := by
  have h1 : inB s.hours.length 1 20 = true := inB_iff.2 (by have := h.h; omega)
  have h2 : inB s.parts.length 1 3 = true := inB_iff.2 (by have := h.p; omega)
  have := h.o
  simp [h1, h2]
  omega
theorem check_hour {s : ShopR} (h0 : Short s) {d : Nat} (h : (fst? s.hours.length fun d => !(inB (s.hours.getD d 0) 0 24)) = some d) : check s = ((1 : Int), (d : Int), (7 : Int)) := by
  unfold check; rw [if_neg h0.c]; simp only [h]
/-- all hours are within bounds -/
def HoursOK (s : ShopR) : Prop := (fst? s.hours.length fun d => !(inB (s.hours.getD d 0) 0 24)) = none
theorem check_part {s : ShopR} (h0 : Short s) (h1 : HoursOK s) {i : Nat} {e : Int} (hi : i < s.parts.length) (he : partErr (s.parts.take i) (s.parts.getD i default) = e) (hne : e ≠ 0)
    (hb : ∀ j, j < i → partErr (s.parts.take j) (s.parts.getD j default) = 0) : check s = ((2 : Int), (i : Int), e) := by
  unfold HoursOK at h1
  unfold check; rw [if_neg h0.c]; simp only [h1]
  rw [fst?_some hi (by rw [he]; simpa using hne) (fun j hj => by rw [hb j hj]; rfl)]
  simp only [he]
def PartsOK (s : ShopR) : Prop := ∀ j, j < s.parts.length → partErr (s.parts.take j) (s.parts.getD j default) = 0
theorem check_ord {s : ShopR} (h0 : Short s) (h1 : HoursOK s) (h2 : PartsOK s) {i : Nat} {e : Int} (hi : i < s.orders.length) (he : ordErr s.parts.length s.hours.length (s.orders.getD i default) = e) (hne : e ≠ 0)
    (hb : ∀ j, j < i → ordErr s.parts.length s.hours.length (s.orders.getD j default) = 0) : check s = ((3 : Int), (i : Int), e) := by
  unfold HoursOK at h1
  unfold check; rw [if_neg h0.c]; simp only [h1]
  rw [fst?_none (fun j hj => by rw [h2 j hj]; rfl)]
  simp only
  rw [fst?_some hi (by rw [he]; simpa using hne) (fun j hj => by rw [hb j hj]; rfl)]
  simp only [he]
theorem check_ok {s : ShopR} (h0 : Short s) (h1 : HoursOK s) (h2 : PartsOK s) (hb : ∀ j, j < s.orders.length → ordErr s.parts.length s.hours.length (s.orders.getD j default) = 0) : check s = (0, 0, 0) := by
  unfold HoursOK at h1
  unfold check; rw [if_neg h0.c]; simp only [h1]
  rw [fst?_none (fun j hj => by rw [h2 j hj]; rfl)]
  simp only
  rw [fst?_none (fun j hj => by rw [hb j hj]; rfl)]
theorem partErr_name {b : List PartR} {p : PartR} (h : nameB p.name = false) : partErr b p = 6 := by unfold partErr; rw [if_pos h]
theorem partErr_twice {b : List PartR} {p : PartR} (h : nameB p.name = true) (h2 : (b.any fun x => x.name.toList == p.name.toList) = true) : partErr b p = 5 := by
  unfold partErr; rw [if_neg (by simp [h]), if_pos h2]
theorem partErr_range {b : List PartR} {p : PartR} (h : nameB p.name = true) (h2 : (b.any fun x => x.name.toList == p.name.toList) = false) (h3 : (inB p.batch 1 10 && inB p.long 1 48 && inB p.stock 0 50) = false) : partErr b p = 7 := by
  unfold partErr; rw [if_neg (by simp [h]), if_neg (by simp [h2]), if_neg (by simp [h3])]
theorem partErr_ok {b : List PartR} {p : PartR} (h : nameB p.name = true) (h2 : (b.any fun x => x.name.toList == p.name.toList) = false) (h3 : (inB p.batch 1 10 && inB p.long 1 48 && inB p.stock 0 50) = true) : partErr b p = 0 := by
  unfold partErr; rw [if_neg (by simp [h]), if_neg (by simp [h2]), if_pos h3]
theorem ordErr_none {np nh : Nat} {o : OrdR} (h : inB o.part 0 (np - 1) = false) : ordErr np nh o = 4 := by unfold ordErr; rw [if_pos h]
theorem ordErr_range {np nh : Nat} {o : OrdR} (h : inB o.part 0 (np - 1) = true) (h2 : (inB o.many 1 50 && inB o.due 0 (nh - 1) && inB o.worth 0 10000) = false) : ordErr np nh o = 7 := by
  unfold ordErr; rw [if_neg (by simp [h]), if_neg (by simp [h2])]
theorem ordErr_ok {np nh : Nat} {o : OrdR} (h : inB o.part 0 (np - 1) = true) (h2 : (inB o.many 1 50 && inB o.due 0 (nh - 1) && inB o.worth 0 10000) = true) : ordErr np nh o = 0 := by
  unfold ordErr; rw [if_neg (by simp [h]), if_pos h2]
theorem checkV_eq {s : ShopR} {a b c : Int} (h : check s = (a, b, c)) : checkV s = .tuple #[.int .i64 a, .int .i64 b, .int .i64 c] := by unfold checkV; rw [h]

set_option maxRecDepth 100000 in
set_option maxHeartbeats 4000000 in
theorem pcheck_any {B : Nat} {w : World} {v : Value} {s : ShopR} (hs : RdShop B w v s) (hn : ∀ p ∈ s.parts, p.name.size ≤ 9223372036854775807) (hB : B ≤ w.heap.size) :
    Calls Try.prog 16 #[v] w fun e w' => e = .returned (checkV s) ∧ Below w.heap.size w w' := by
  have hs' := hs
  obtain ⟨vh, vp, vo, rfl, hh, hp, ho⟩ := hs'
  go_enter Try.func16, Try.ntmps16
  obtain ⟨W, hW, c0, c1, c2, hz, hb, _⟩ := shop_box w vh vp vo
  obtain ⟨Ah, ch, rfl, h1, h2, _⟩ := id hh
  obtain ⟨Ap, cp, rfl, h3, h4, _⟩ := id hp
  obtain ⟨Ao, co, rfl, h5, h6, _⟩ := id ho
  have hh := hh.below (hb.mono hB)
  have hp := hp.below (hb.mono hB)
  have ho := ho.below (hb.mono hB)
  go_upto_region 1 with (fail)
  rw [← hW]
  clear hW hs
  have HN := Lib.hid hn
  have Hh := Lib.hid hh
  have Hp := Lib.hid hp
  have Ho := Lib.hid ho
  have Hb := Lib.hid hb
  have Hz := Lib.hid hz
  have H3 := Lib.hid h3
  clear hn hh hp ho hb hz h1 h2 h3 h4 h5 h6
  have C0 := Lib.hid c0
  have C1 := Lib.hid c1
  have C2 := Lib.hid c2
  have hx := Below.refl W.heap.size W
  cases o1 : inB s.hours.length 1 20 with
  | false =>
    have e := Lib.hid (checkV_eq (check_long (s := s) (by simp [o1])))
    have o1 := (outB_one 1 20 s.hours.length).trans (by rw [o1])
    go_wp2_with (go_at_call 44; refine (out1 _ _ _ _).mono ?_; rintro e wx ⟨rfl, hbx⟩; have c0 := (hbx.cell (cell_lt c0)).trans c0; have c1 := (hbx.cell (cell_lt c1)).trans c1; have c2 := (hbx.cell (cell_lt c2)).trans c2; have hx := hx.trans (hbx.mono hx.size); clear hbx)
    go_ret3
    exact ⟨by rw [e.out]; rfl, Hb.out.trans (hx.mono (by have := Hz.out; omega))⟩
  | true =>
  cases o2 : inB s.parts.length 1 3 with
  | false =>
    have e := Lib.hid (checkV_eq (check_long (s := s) (by simp [o1, o2])))
    have o1 := (outB_one 1 20 s.hours.length).trans (by rw [o1])
    have o2 := (outB_one 1 3 s.parts.length).trans (by rw [o2])
    go_wp2_with (go_at_call 44; refine (out1 _ _ _ _).mono ?_; rintro e wx ⟨rfl, hbx⟩; have c0 := (hbx.cell (cell_lt c0)).trans c0; have c1 := (hbx.cell (cell_lt c1)).trans c1; have c2 := (hbx.cell (cell_lt c2)).trans c2; have hx := hx.trans (hbx.mono hx.size); clear hbx)
    go_ret3
    exact ⟨by rw [e.out]; rfl, Hb.out.trans (hx.mono (by have := Hz.out; omega))⟩
  | true =>
  by_cases o3 : 8 < (s.orders.length : Int)
  · have e := Lib.hid (checkV_eq (check_long (s := s) (by simp [o3])))
    have o1 := (outB_one 1 20 s.hours.length).trans (by rw [o1])
    have o2 := (outB_one 1 3 s.parts.length).trans (by rw [o2])
    go_wp2_with (go_at_call 44; refine (out1 _ _ _ _).mono ?_; rintro e wx ⟨rfl, hbx⟩; have c0 := (hbx.cell (cell_lt c0)).trans c0; have c1 := (hbx.cell (cell_lt c1)).trans c1; have c2 := (hbx.cell (cell_lt c2)).trans c2; have hx := hx.trans (hbx.mono hx.size); clear hbx)
    go_ret3
    exact ⟨by rw [e.out]; rfl, Hb.out.trans (hx.mono (by have := Hz.out; omega))⟩
  have hS : Short s := ⟨by have := inB_iff.1 o1; omega, by have := inB_iff.1 o2; omega, by omega⟩
  have o1 := (outB_one 1 20 s.hours.length).trans (by rw [o1])
  have o2 := (outB_one 1 3 s.parts.length).trans (by rw [o2])
  have hl1 := hS.h
  have hl2 := hS.p
  have HS := Lib.hid hS
  clear hS
  go_upto_region 3 with (go_at_call 44; refine (out1 _ _ _ _).mono ?_; rintro e wx ⟨rfl, hbx⟩; have c0 := (hbx.cell (cell_lt c0)).trans c0; have c1 := (hbx.cell (cell_lt c1)).trans c1; have c2 := (hbx.cell (cell_lt c2)).trans c2; have hx := hx.trans (hbx.mono hx.size); clear hbx)
  clear o1 o2 o3
  have hq : (fun d => !(inB (s.hours.getD d 0) 0 24)) = fun i => outB 0 24 [s.hours[i]?.getD 0] := by
    funext i; rw [outB_one, List.getD_eq_getElem?_getD]
  cases hf : fst? s.hours.length fun i => outB 0 24 [s.hours[i]?.getD 0] with
  | some d =>
    have e := Lib.hid (checkV_eq (check_hour HS.out (by rw [hq]; exact hf)))
    have hd := (fst?_spec hf).1
    have hf := idxOf_some hf
    clear hq
    go_wp2_with (go_at_call 45; refine (idxHour_any (Hh.out.below (hx.mono (by have := Hz.out; omega))) (by have := Hz.out; have := hx.size; omega)).mono ?_; rintro e wx ⟨rfl, hbx⟩; have c0 := (hbx.cell (cell_lt c0)).trans c0; have c1 := (hbx.cell (cell_lt c1)).trans c1; have c2 := (hbx.cell (cell_lt c2)).trans c2; have hx := hx.trans (hbx.mono hx.size); clear hbx)
    go_ret3
    exact ⟨by rw [e.out]; rfl, Hb.out.trans (hx.mono (by have := Hz.out; omega))⟩
  | none =>
  have hH : HoursOK s := by unfold HoursOK; rw [hq]; exact hf
  have hf := idxOf_none hf
  have HH := Lib.hid hH
  clear hq hH
  go_upto_region 6 with (go_at_call 45; refine (idxHour_any (Hh.out.below (hx.mono (by have := Hz.out; omega))) (by have := Hz.out; have := hx.size; omega)).mono ?_; rintro e wx ⟨rfl, hbx⟩; have c0 := (hbx.cell (cell_lt c0)).trans c0; have c1 := (hbx.cell (cell_lt c1)).trans c1; have c2 := (hbx.cell (cell_lt c2)).trans c2; have hx := hx.trans (hbx.mono hx.size); clear hbx)
  clear hf
  go_wp2
  go_loopw [37] (fun i wr => ∃ k : Nat, k ≤ s.parts.length ∧ i = .int .i64 k ∧ (∀ j, j < k → partErr (s.parts.take j) (s.parts.getD j default) = 0) ∧ Below W.heap.size W wr) (fun i _ => s.parts.length - (intOf i).toNat)
  case atStart => exact ⟨0, Nat.zero_le _, rfl, fun _ h => by omega, hx⟩
  case round =>
    clear hx c0 c1 c2
    obtain ⟨k, hk, rfl, hno, hx⟩ := hrel
    have c0 := (hx.cell (cell_lt C0.out)).trans C0.out
    have c1 := (hx.cell (cell_lt C1.out)).trans C1.out
    have c2 := (hx.cell (cell_lt C2.out)).trans C2.out
    have Hno := Lib.hid hno
    clear hno
    by_cases hlt : k < s.parts.length
    · obtain ⟨ad, rfl, _, p0, p1, p2, p3⟩ := (Hp.out.below (hx.mono (by have := Hz.out; omega))).part hlt
      have hkc : k ≤ cp := by have := H3.out; omega
      have Hsz := Lib.hid (HN.out _ (getD_mem hlt default))
      have He := Lib.hid (fun e (h : partErr (s.parts.take k) (s.parts.getD k default) = e) (hne : e ≠ 0) => checkV_eq (check_part HS.out HH.out hlt h hne Hno.out))
      have Hk := Lib.hid (fun (h : partErr (s.parts.take k) (s.parts.getD k default) = 0) => (show ∀ j, j < k + 1 → partErr (s.parts.take j) (s.parts.getD j default) = 0 from fun j hj => by
        by_cases e : j < k
        · exact Hno.out j e
        · obtain rfl : j = k := by omega
          exact h))
      rw [List.getD_eq_getElem?_getD] at Hsz He Hk
      generalize s.parts[k]?.getD default = p at *
      obtain ⟨W8, hW8, r8, z8, b8⟩ := box_any wr #[.string p.name, .int .i64 p.batch, .int .i64 p.long, .int .i64 p.stock] 57
      have d0 := cellOf r8 0 (v := .string p.name) rfl
      have d1 := cellOf r8 1 (v := .int .i64 p.batch) rfl
      have d2 := cellOf r8 2 (v := .int .i64 p.long) rfl
      have d3 := cellOf r8 3 (v := .int .i64 p.stock) rfl
      go_upto_region 9 with (fail)
      rw [← hW8]
      clear p0 p1 p2 p3
      have c0 := (b8.cell (cell_lt c0)).trans c0
      have c1 := (b8.cell (cell_lt c1)).trans c1
      have c2 := (b8.cell (cell_lt c2)).trans c2
      have hx := hx.trans (b8.mono hx.size)
      clear hW8 r8 z8 b8
      cases n1 : nameB p.name with
      | false =>
        have e := Lib.hid (He.out _ (partErr_name n1) (by decide))
        go_wp2_with (go_at_call 47; refine (name_any _ _ Hsz.out).mono ?_; rintro e wx ⟨rfl, hbx⟩; have d0 := (hbx.cell (cell_lt d0)).trans d0; have d1 := (hbx.cell (cell_lt d1)).trans d1; have d2 := (hbx.cell (cell_lt d2)).trans d2; have d3 := (hbx.cell (cell_lt d3)).trans d3; have c0 := (hbx.cell (cell_lt c0)).trans c0; have c1 := (hbx.cell (cell_lt c1)).trans c1; have c2 := (hbx.cell (cell_lt c2)).trans c2; have hx := hx.trans (hbx.mono hx.size); clear hbx)
        go_ret3
        exact ⟨by rw [e.out]; rfl, Hb.out.trans (hx.mono (by have := Hz.out; omega))⟩
      | true =>
      cases n2 : (s.parts.take k).any fun x => x.name.toList == p.name.toList with
      | true =>
        have e := Lib.hid (He.out _ (partErr_twice n1 n2) (by decide))
        go_wp2_with (first | (go_at_call 47; refine (name_any _ _ Hsz.out).mono ?_; rintro e wx ⟨rfl, hbx⟩; have d0 := (hbx.cell (cell_lt d0)).trans d0; have d1 := (hbx.cell (cell_lt d1)).trans d1; have d2 := (hbx.cell (cell_lt d2)).trans d2; have d3 := (hbx.cell (cell_lt d3)).trans d3; have c0 := (hbx.cell (cell_lt c0)).trans c0; have c1 := (hbx.cell (cell_lt c1)).trans c1; have c2 := (hbx.cell (cell_lt c2)).trans c2; have hx := hx.trans (hbx.mono hx.size); clear hbx) | (go_at_call 48; refine (contSame_any _ _ ((Hp.out.below (hx.mono (by have := Hz.out; omega))).take (by omega)) d0 (by have := Hz.out; have := hx.size; omega)).mono ?_; rintro e wx ⟨rfl, hbx⟩; have d0 := (hbx.cell (cell_lt d0)).trans d0; have d1 := (hbx.cell (cell_lt d1)).trans d1; have d2 := (hbx.cell (cell_lt d2)).trans d2; have d3 := (hbx.cell (cell_lt d3)).trans d3; have c0 := (hbx.cell (cell_lt c0)).trans c0; have c1 := (hbx.cell (cell_lt c1)).trans c1; have c2 := (hbx.cell (cell_lt c2)).trans c2; have hx := hx.trans (hbx.mono hx.size); clear hbx))
        go_ret3
        exact ⟨by rw [e.out]; rfl, Hb.out.trans (hx.mono (by have := Hz.out; omega))⟩
      | false =>
      cases q1 : inB p.batch 1 10 with
      | false =>
        have e := Lib.hid (He.out _ (partErr_range n1 n2 (by simp [q1])) (by decide))
        have q1 := (outB_one 1 10 p.batch).trans (by rw [q1])
        go_wp2_with (first | (go_at_call 47; refine (name_any _ _ Hsz.out).mono ?_; rintro e wx ⟨rfl, hbx⟩; have d0 := (hbx.cell (cell_lt d0)).trans d0; have d1 := (hbx.cell (cell_lt d1)).trans d1; have d2 := (hbx.cell (cell_lt d2)).trans d2; have d3 := (hbx.cell (cell_lt d3)).trans d3; have c0 := (hbx.cell (cell_lt c0)).trans c0; have c1 := (hbx.cell (cell_lt c1)).trans c1; have c2 := (hbx.cell (cell_lt c2)).trans c2; have hx := hx.trans (hbx.mono hx.size); clear hbx) | (go_at_call 48; refine (contSame_any _ _ ((Hp.out.below (hx.mono (by have := Hz.out; omega))).take (by omega)) d0 (by have := Hz.out; have := hx.size; omega)).mono ?_; rintro e wx ⟨rfl, hbx⟩; have d0 := (hbx.cell (cell_lt d0)).trans d0; have d1 := (hbx.cell (cell_lt d1)).trans d1; have d2 := (hbx.cell (cell_lt d2)).trans d2; have d3 := (hbx.cell (cell_lt d3)).trans d3; have c0 := (hbx.cell (cell_lt c0)).trans c0; have c1 := (hbx.cell (cell_lt c1)).trans c1; have c2 := (hbx.cell (cell_lt c2)).trans c2; have hx := hx.trans (hbx.mono hx.size); clear hbx) | (go_at_call 44; refine (out1 _ _ _ _).mono ?_; rintro e wx ⟨rfl, hbx⟩; have d0 := (hbx.cell (cell_lt d0)).trans d0; have d1 := (hbx.cell (cell_lt d1)).trans d1; have d2 := (hbx.cell (cell_lt d2)).trans d2; have d3 := (hbx.cell (cell_lt d3)).trans d3; have c0 := (hbx.cell (cell_lt c0)).trans c0; have c1 := (hbx.cell (cell_lt c1)).trans c1; have c2 := (hbx.cell (cell_lt c2)).trans c2; have hx := hx.trans (hbx.mono hx.size); clear hbx))
        go_ret3
        exact ⟨by rw [e.out]; rfl, Hb.out.trans (hx.mono (by have := Hz.out; omega))⟩
      | true =>
      cases q2 : inB p.long 1 48 with
      | false =>
        have e := Lib.hid (He.out _ (partErr_range n1 n2 (by simp [q1, q2])) (by decide))
        have q1 := (outB_one 1 10 p.batch).trans (by rw [q1])
        have q2 := (outB_one 1 48 p.long).trans (by rw [q2])
        go_wp2_with (first | (go_at_call 47; refine (name_any _ _ Hsz.out).mono ?_; rintro e wx ⟨rfl, hbx⟩; have d0 := (hbx.cell (cell_lt d0)).trans d0; have d1 := (hbx.cell (cell_lt d1)).trans d1; have d2 := (hbx.cell (cell_lt d2)).trans d2; have d3 := (hbx.cell (cell_lt d3)).trans d3; have c0 := (hbx.cell (cell_lt c0)).trans c0; have c1 := (hbx.cell (cell_lt c1)).trans c1; have c2 := (hbx.cell (cell_lt c2)).trans c2; have hx := hx.trans (hbx.mono hx.size); clear hbx) | (go_at_call 48; refine (contSame_any _ _ ((Hp.out.below (hx.mono (by have := Hz.out; omega))).take (by omega)) d0 (by have := Hz.out; have := hx.size; omega)).mono ?_; rintro e wx ⟨rfl, hbx⟩; have d0 := (hbx.cell (cell_lt d0)).trans d0; have d1 := (hbx.cell (cell_lt d1)).trans d1; have d2 := (hbx.cell (cell_lt d2)).trans d2; have d3 := (hbx.cell (cell_lt d3)).trans d3; have c0 := (hbx.cell (cell_lt c0)).trans c0; have c1 := (hbx.cell (cell_lt c1)).trans c1; have c2 := (hbx.cell (cell_lt c2)).trans c2; have hx := hx.trans (hbx.mono hx.size); clear hbx) | (go_at_call 44; refine (out1 _ _ _ _).mono ?_; rintro e wx ⟨rfl, hbx⟩; have d0 := (hbx.cell (cell_lt d0)).trans d0; have d1 := (hbx.cell (cell_lt d1)).trans d1; have d2 := (hbx.cell (cell_lt d2)).trans d2; have d3 := (hbx.cell (cell_lt d3)).trans d3; have c0 := (hbx.cell (cell_lt c0)).trans c0; have c1 := (hbx.cell (cell_lt c1)).trans c1; have c2 := (hbx.cell (cell_lt c2)).trans c2; have hx := hx.trans (hbx.mono hx.size); clear hbx))
        go_ret3
        exact ⟨by rw [e.out]; rfl, Hb.out.trans (hx.mono (by have := Hz.out; omega))⟩
      | true =>
      cases q3 : inB p.stock 0 50 with
      | false =>
        have e := Lib.hid (He.out _ (partErr_range n1 n2 (by simp [q1, q2, q3])) (by decide))
        have q1 := (outB_one 1 10 p.batch).trans (by rw [q1])
        have q2 := (outB_one 1 48 p.long).trans (by rw [q2])
        have q3 := (outB_one 0 50 p.stock).trans (by rw [q3])
        go_wp2_with (first | (go_at_call 47; refine (name_any _ _ Hsz.out).mono ?_; rintro e wx ⟨rfl, hbx⟩; have d0 := (hbx.cell (cell_lt d0)).trans d0; have d1 := (hbx.cell (cell_lt d1)).trans d1; have d2 := (hbx.cell (cell_lt d2)).trans d2; have d3 := (hbx.cell (cell_lt d3)).trans d3; have c0 := (hbx.cell (cell_lt c0)).trans c0; have c1 := (hbx.cell (cell_lt c1)).trans c1; have c2 := (hbx.cell (cell_lt c2)).trans c2; have hx := hx.trans (hbx.mono hx.size); clear hbx) | (go_at_call 48; refine (contSame_any _ _ ((Hp.out.below (hx.mono (by have := Hz.out; omega))).take (by omega)) d0 (by have := Hz.out; have := hx.size; omega)).mono ?_; rintro e wx ⟨rfl, hbx⟩; have d0 := (hbx.cell (cell_lt d0)).trans d0; have d1 := (hbx.cell (cell_lt d1)).trans d1; have d2 := (hbx.cell (cell_lt d2)).trans d2; have d3 := (hbx.cell (cell_lt d3)).trans d3; have c0 := (hbx.cell (cell_lt c0)).trans c0; have c1 := (hbx.cell (cell_lt c1)).trans c1; have c2 := (hbx.cell (cell_lt c2)).trans c2; have hx := hx.trans (hbx.mono hx.size); clear hbx) | (go_at_call 44; refine (out1 _ _ _ _).mono ?_; rintro e wx ⟨rfl, hbx⟩; have d0 := (hbx.cell (cell_lt d0)).trans d0; have d1 := (hbx.cell (cell_lt d1)).trans d1; have d2 := (hbx.cell (cell_lt d2)).trans d2; have d3 := (hbx.cell (cell_lt d3)).trans d3; have c0 := (hbx.cell (cell_lt c0)).trans c0; have c1 := (hbx.cell (cell_lt c1)).trans c1; have c2 := (hbx.cell (cell_lt c2)).trans c2; have hx := hx.trans (hbx.mono hx.size); clear hbx))
        go_ret3
        exact ⟨by rw [e.out]; rfl, Hb.out.trans (hx.mono (by have := Hz.out; omega))⟩
      | true =>
        have e := Lib.hid (Hk.out (partErr_ok n1 n2 (by simp [q1, q2, q3])))
        have q1 := (outB_one 1 10 p.batch).trans (by rw [q1])
        have q2 := (outB_one 1 48 p.long).trans (by rw [q2])
        have q3 := (outB_one 0 50 p.stock).trans (by rw [q3])
        go_wp2_with (first | (go_at_call 47; refine (name_any _ _ Hsz.out).mono ?_; rintro e wx ⟨rfl, hbx⟩; have d0 := (hbx.cell (cell_lt d0)).trans d0; have d1 := (hbx.cell (cell_lt d1)).trans d1; have d2 := (hbx.cell (cell_lt d2)).trans d2; have d3 := (hbx.cell (cell_lt d3)).trans d3; have c0 := (hbx.cell (cell_lt c0)).trans c0; have c1 := (hbx.cell (cell_lt c1)).trans c1; have c2 := (hbx.cell (cell_lt c2)).trans c2; have hx := hx.trans (hbx.mono hx.size); clear hbx) | (go_at_call 48; refine (contSame_any _ _ ((Hp.out.below (hx.mono (by have := Hz.out; omega))).take (by omega)) d0 (by have := Hz.out; have := hx.size; omega)).mono ?_; rintro e wx ⟨rfl, hbx⟩; have d0 := (hbx.cell (cell_lt d0)).trans d0; have d1 := (hbx.cell (cell_lt d1)).trans d1; have d2 := (hbx.cell (cell_lt d2)).trans d2; have d3 := (hbx.cell (cell_lt d3)).trans d3; have c0 := (hbx.cell (cell_lt c0)).trans c0; have c1 := (hbx.cell (cell_lt c1)).trans c1; have c2 := (hbx.cell (cell_lt c2)).trans c2; have hx := hx.trans (hbx.mono hx.size); clear hbx) | (go_at_call 44; refine (out1 _ _ _ _).mono ?_; rintro e wx ⟨rfl, hbx⟩; have d0 := (hbx.cell (cell_lt d0)).trans d0; have d1 := (hbx.cell (cell_lt d1)).trans d1; have d2 := (hbx.cell (cell_lt d2)).trans d2; have d3 := (hbx.cell (cell_lt d3)).trans d3; have c0 := (hbx.cell (cell_lt c0)).trans c0; have c1 := (hbx.cell (cell_lt c1)).trans c1; have c2 := (hbx.cell (cell_lt c2)).trans c2; have hx := hx.trans (hbx.mono hx.size); clear hbx))
        go_roundw
        case rel => exact ⟨k + 1, by omega, by go_num, e.out, hx⟩
        case measure => simp [intOf]; omega
    · have HP := Lib.hid (show PartsOK s from fun j hj => Hno.out j (by omega))
      go_wp2
      clear hlt Hno
      go_loopw [78] (fun i wr => ∃ k : Nat, k ≤ s.orders.length ∧ i = .int .i64 k ∧ (∀ j, j < k → ordErr s.parts.length s.hours.length (s.orders.getD j default) = 0) ∧ Below W.heap.size W wr) (fun i _ => s.orders.length - (intOf i).toNat)
      case atStart => exact ⟨0, Nat.zero_le _, rfl, fun _ h => by omega, hx⟩
      case round =>
        clear hx c0 c1 c2 hk
        obtain ⟨k, hk, rfl, hno, hx⟩ := hrel
        have c0 := (hx.cell (cell_lt C0.out)).trans C0.out
        have c1 := (hx.cell (cell_lt C1.out)).trans C1.out
        have c2 := (hx.cell (cell_lt C2.out)).trans C2.out
        have Hno := Lib.hid hno
        clear hno
        by_cases hlt : k < s.orders.length
        · obtain ⟨ad, rfl, _, p0, p1, p2, p3⟩ := (Ho.out.below (hx.mono (by have := Hz.out; omega))).ord hlt
          have He := Lib.hid (fun e (h : ordErr s.parts.length s.hours.length (s.orders.getD k default) = e) (hne : e ≠ 0) => checkV_eq (check_ord HS.out HH.out HP.out hlt h hne Hno.out))
          have Hk := Lib.hid (fun (h : ordErr s.parts.length s.hours.length (s.orders.getD k default) = 0) => (show ∀ j, j < k + 1 → ordErr s.parts.length s.hours.length (s.orders.getD j default) = 0 from fun j hj => by
            by_cases e : j < k
            · exact Hno.out j e
            · obtain rfl : j = k := by omega
              exact h))
          have holen := HS.out.o
          rw [List.getD_eq_getElem?_getD] at He Hk
          generalize s.orders[k]?.getD default = p at *
          obtain ⟨W8, hW8, r8, z8, b8⟩ := box_any wr #[.int .i64 p.part, .int .i64 p.many, .int .i64 p.due, .int .i64 p.worth] 60
          have d0 := cellOf r8 0 (v := .int .i64 p.part) rfl
          have d1 := cellOf r8 1 (v := .int .i64 p.many) rfl
          have d2 := cellOf r8 2 (v := .int .i64 p.due) rfl
          have d3 := cellOf r8 3 (v := .int .i64 p.worth) rfl
          go_upto_region 19 with (fail)
          rw [← hW8]
          clear p0 p1 p2 p3
          have c0 := (b8.cell (cell_lt c0)).trans c0
          have c1 := (b8.cell (cell_lt c1)).trans c1
          have c2 := (b8.cell (cell_lt c2)).trans c2
          have hx := hx.trans (b8.mono hx.size)
          clear hW8 r8 z8 b8
          cases n1 : inB p.part 0 (s.parts.length - 1) with
          | false =>
            have e := Lib.hid (He.out _ (ordErr_none n1) (by decide))
            have n1 := (outB_one 0 (s.parts.length - 1) p.part).trans (by rw [n1])
            go_wp2_with (go_at_call 44; refine (out1 _ _ _ _).mono ?_; rintro e wx ⟨rfl, hbx⟩; have d0 := (hbx.cell (cell_lt d0)).trans d0; have d1 := (hbx.cell (cell_lt d1)).trans d1; have d2 := (hbx.cell (cell_lt d2)).trans d2; have d3 := (hbx.cell (cell_lt d3)).trans d3; have c0 := (hbx.cell (cell_lt c0)).trans c0; have c1 := (hbx.cell (cell_lt c1)).trans c1; have c2 := (hbx.cell (cell_lt c2)).trans c2; have hx := hx.trans (hbx.mono hx.size); clear hbx)
            go_ret3
            exact ⟨by rw [e.out]; rfl, Hb.out.trans (hx.mono (by have := Hz.out; omega))⟩
          | true =>
          cases q1 : inB p.many 1 50 with
          | false =>
            have e := Lib.hid (He.out _ (ordErr_range n1 (by simp [q1])) (by decide))
            have n1 := (outB_one 0 (s.parts.length - 1) p.part).trans (by rw [n1])
            have q1 := (outB_one 1 50 p.many).trans (by rw [q1])
            go_wp2_with (go_at_call 44; refine (out1 _ _ _ _).mono ?_; rintro e wx ⟨rfl, hbx⟩; have d0 := (hbx.cell (cell_lt d0)).trans d0; have d1 := (hbx.cell (cell_lt d1)).trans d1; have d2 := (hbx.cell (cell_lt d2)).trans d2; have d3 := (hbx.cell (cell_lt d3)).trans d3; have c0 := (hbx.cell (cell_lt c0)).trans c0; have c1 := (hbx.cell (cell_lt c1)).trans c1; have c2 := (hbx.cell (cell_lt c2)).trans c2; have hx := hx.trans (hbx.mono hx.size); clear hbx)
            go_ret3
            exact ⟨by rw [e.out]; rfl, Hb.out.trans (hx.mono (by have := Hz.out; omega))⟩
          | true =>
          cases q2 : inB p.due 0 (s.hours.length - 1) with
          | false =>
            have e := Lib.hid (He.out _ (ordErr_range n1 (by simp [q1, q2])) (by decide))
            have n1 := (outB_one 0 (s.parts.length - 1) p.part).trans (by rw [n1])
            have q1 := (outB_one 1 50 p.many).trans (by rw [q1])
            have q2 := (outB_one 0 (s.hours.length - 1) p.due).trans (by rw [q2])
            go_wp2_with (go_at_call 44; refine (out1 _ _ _ _).mono ?_; rintro e wx ⟨rfl, hbx⟩; have d0 := (hbx.cell (cell_lt d0)).trans d0; have d1 := (hbx.cell (cell_lt d1)).trans d1; have d2 := (hbx.cell (cell_lt d2)).trans d2; have d3 := (hbx.cell (cell_lt d3)).trans d3; have c0 := (hbx.cell (cell_lt c0)).trans c0; have c1 := (hbx.cell (cell_lt c1)).trans c1; have c2 := (hbx.cell (cell_lt c2)).trans c2; have hx := hx.trans (hbx.mono hx.size); clear hbx)
            go_ret3
            exact ⟨by rw [e.out]; rfl, Hb.out.trans (hx.mono (by have := Hz.out; omega))⟩
          | true =>
          cases q3 : inB p.worth 0 10000 with
          | false =>
            have e := Lib.hid (He.out _ (ordErr_range n1 (by simp [q1, q2, q3])) (by decide))
            have n1 := (outB_one 0 (s.parts.length - 1) p.part).trans (by rw [n1])
            have q1 := (outB_one 1 50 p.many).trans (by rw [q1])
            have q2 := (outB_one 0 (s.hours.length - 1) p.due).trans (by rw [q2])
            have q3 := (outB_one 0 10000 p.worth).trans (by rw [q3])
            go_wp2_with (go_at_call 44; refine (out1 _ _ _ _).mono ?_; rintro e wx ⟨rfl, hbx⟩; have d0 := (hbx.cell (cell_lt d0)).trans d0; have d1 := (hbx.cell (cell_lt d1)).trans d1; have d2 := (hbx.cell (cell_lt d2)).trans d2; have d3 := (hbx.cell (cell_lt d3)).trans d3; have c0 := (hbx.cell (cell_lt c0)).trans c0; have c1 := (hbx.cell (cell_lt c1)).trans c1; have c2 := (hbx.cell (cell_lt c2)).trans c2; have hx := hx.trans (hbx.mono hx.size); clear hbx)
            go_ret3
            exact ⟨by rw [e.out]; rfl, Hb.out.trans (hx.mono (by have := Hz.out; omega))⟩
          | true =>
            have e := Lib.hid (Hk.out (ordErr_ok n1 (by simp [q1, q2, q3])))
            have n1 := (outB_one 0 (s.parts.length - 1) p.part).trans (by rw [n1])
            have q1 := (outB_one 1 50 p.many).trans (by rw [q1])
            have q2 := (outB_one 0 (s.hours.length - 1) p.due).trans (by rw [q2])
            have q3 := (outB_one 0 10000 p.worth).trans (by rw [q3])
            go_wp2_with (go_at_call 44; refine (out1 _ _ _ _).mono ?_; rintro e wx ⟨rfl, hbx⟩; have d0 := (hbx.cell (cell_lt d0)).trans d0; have d1 := (hbx.cell (cell_lt d1)).trans d1; have d2 := (hbx.cell (cell_lt d2)).trans d2; have d3 := (hbx.cell (cell_lt d3)).trans d3; have c0 := (hbx.cell (cell_lt c0)).trans c0; have c1 := (hbx.cell (cell_lt c1)).trans c1; have c2 := (hbx.cell (cell_lt c2)).trans c2; have hx := hx.trans (hbx.mono hx.size); clear hbx)
            go_roundw
            case rel => exact ⟨k + 1, by omega, by go_num, e.out, hx⟩
            case measure => simp [intOf]; omega
        · have e := Lib.hid (checkV_eq (check_ok HS.out HH.out HP.out fun j hj => Hno.out j (by omega)))
          go_wp2
          go_ret3
          exact ⟨by rw [e.out]; rfl, Hb.out.trans (hx.mono (by have := Hz.out; omega))⟩
end Go.Proofs.Ytkmaapkbonkjfaa
namespace Go.Proofs.Ytkmaapkbonkjfaa
open Go.RowKit

theorem look_bad {B : Nat} {w : World} {v : Value} {s : ShopR} (hs : RdShop B w v s) (hn : ∀ p ∈ s.parts, p.name.size ≤ 9223372036854775807) (hB : B ≤ w.heap.size) (he : errOf s ≠ 0) :
    Calls Try.prog 68 #[v] w fun e w' => e = .returned (.tuple #[.pointer none, .int .i64 (errOf s)]) ∧ Below w.heap.size w w' := by
  have hs' := hs
  obtain ⟨vh, vp, vo, rfl, hh, hp, ho⟩ := hs'
  go_enter Try.func68, Try.ntmps68
  obtain ⟨W, hW, c0, c1, c2, hz, hb, _⟩ := shop_box w vh vp vo
  obtain ⟨Ah, ch, rfl, h1, h2, _⟩ := id hh
  obtain ⟨Ap, cp, rfl, h3, h4, _⟩ := id hp
  obtain ⟨Ao, co, rfl, h5, h6, _⟩ := id ho
  have hq := Lib.hid (pcheck_any (hs.below (hb.mono hB)) hn (by omega))
  go_upto_region 1 with (fail)
  rw [← hW]
  clear hW hs hz h1 h2 h3 h4 h5 h6
  have hb := Lib.hid hb
  unfold checkV at hq
  have hnb : ((check s).2.2 != 0) = true := by simpa [errOf] using he
  clear he hh hp ho
  go_wp2_with (go_at_call 16; refine hq.out.mono ?_; rintro e wx ⟨rfl, hbx⟩)
  go_ret2
  refine ⟨rfl, hb.out.trans (hbx.mono hb.out.size)⟩

set_option maxRecDepth 100000 in
/-- a shop that is looked at, whose own slices lie below B0, and all else from base on -/
structure ShopSep (B0 B1 base : Nat) (w : World) (p bm : Nat) (s : ShopR) : Prop where
  mem : ∃ vh vp vo vu, w.heap[p]? = some (.cells #[vh, vp, vo, vu, .map (some bm)] 125) ∧ Rd IntAt 1 B0 w vh s.hours ∧ Rd PartAt 4 B0 w vp s.parts ∧ Rd OrdAt 4 B0 w vo s.orders ∧ Rd IntAt 1 B1 w vu (ups s) ∧ SlFrom base vu
  map : MapAt (castP s) w bm
  hp : base ≤ p
  hb : base ≤ bm
theorem ShopSep.at_ {B0 B1 base : Nat} {w : World} {p bm : Nat} {s : ShopR} (h : ShopSep B0 B1 base w p bm s) (hB : B0 ≤ B1) : ShopAt B1 w p bm s := by
  obtain ⟨⟨vh, vp, vo, vu, hp, h1, h2, h3, h4, _⟩, hm, _, _⟩ := h
  exact ⟨⟨vh, vp, vo, vu, hp, h1.mono hB, h2.mono hB, h3.mono hB, h4⟩, hm⟩
theorem ShopSep.cells {B0 B1 base : Nat} {w w' : World} {p bm : Nat} {s : ShopR} (h : ShopSep B0 B1 base w p bm s) (hc : ∀ (b : Nat) (c : Array Value) (t : TypeId) (f : Nat × Nat), w.heap[b]? = some (.cells c t f) → w'.heap[b]? = some (.cells c t f)) (hm : MapAt (castP s) w' bm) : ShopSep B0 B1 base w' p bm s := by
  obtain ⟨⟨vh, vp, vo, vu, hp, h1, h2, h3, h4, h5⟩, _, g1, g2⟩ := h
  exact ⟨⟨vh, vp, vo, vu, hc _ _ _ _ hp, h1.stay fun b c e f _ k => hc _ _ _ _ k, h2.stay fun b c e f _ k => hc _ _ _ _ k, h3.stay fun b c e f _ k => hc _ _ _ _ k, h4.stay fun b c e f _ k => hc _ _ _ _ k, h5⟩, hm, g1, g2⟩
theorem ShopSep.below {B0 B1 base : Nat} {w w' : World} {p bm : Nat} {s : ShopR} (h : ShopSep B0 B1 base w p bm s) (hb : Below w.heap.size w w') : ShopSep B0 B1 base w' p bm s :=
  h.cells (fun b _ _ _ hc => (hb.block b (lt_of_block hc)).trans hc) (h.map.below hb)
theorem mapAt_setCell {c : (Nat → Int) → Nat → Int} {w : World} {b : Nat} (h : MapAt c w b) (p : Addr) (v : Value) : MapAt c (w.setCell p v) b := by
  obtain ⟨es, clk, hh, he⟩ := h
  refine ⟨es, clk, ?_, he⟩
  by_cases e : b = p.block
  · subst e
    simp [World.setCell, Array.getElem?_modify, hh]
  · exact (Below.heap_setCell w p v b e).trans hh
theorem ShopSep.setMid {B0 B1 base : Nat} {w : World} {p bm : Nat} {s : ShopR} (h : ShopSep B0 B1 base w p bm s) {q : Addr} (h1 : B0 ≤ q.block) (h2 : q.block < base) (v : Value) : ShopSep B0 B1 base (w.setCell q v) p bm s := by
  obtain ⟨⟨vh, vp, vo, vu, hp, a1, a2, a3, a4, a5⟩, hm, g1, g2⟩ := h
  refine ⟨⟨vh, vp, vo, vu, (Below.heap_setCell _ _ _ _ (by omega)).trans hp, a1.setCell h1 v, a2.setCell h1 v, a3.setCell h1 v, ?_, a5⟩, mapAt_setCell hm q v, g1, g2⟩
  obtain ⟨A, cap, e, b1, b2, b3⟩ := a4
  refine ⟨A, cap, e, b1, b2, fun i x hx => ?_⟩
  obtain ⟨ad, e2, hb, ha⟩ := b3 i x hx
  refine ⟨ad, e2, hb, AtKeep.keep w _ _ x (fun r hr => World.cell?_setCell_other w q r v (fun e3 => ?_)) ha⟩
  rw [block_add] at hr
  have := a5 ad _ _ (by rw [e, e2])
  subst e3
  omega

set_option maxRecDepth 100000 in
theorem look_sep {B : Nat} {w : World} {v : Value} {s : ShopR} (hs : RdShop B w v s) (hn : ∀ p ∈ s.parts, p.name.size ≤ 9223372036854775807) (hB : B ≤ w.heap.size) (he : errOf s = 0) :
    Calls Try.prog 68 #[v] w fun e w' => ∃ p bm, e = .returned (.tuple #[.pointer (some ⟨p, 0, none⟩), .int .i64 0]) ∧ Below w.heap.size w w' ∧ ShopSep B w'.heap.size w.heap.size w' p bm s := by
  have hg := good_of_valid he
  have hs' := hs
  obtain ⟨vh, vp, vo, rfl, hh, hp, ho⟩ := hs'
  go_enter Try.func68, Try.ntmps68
  obtain ⟨W, hW, c0, c1, c2, hz, hb, _⟩ := shop_box w vh vp vo
  obtain ⟨Ah, ch, rfl, h1, h2, _⟩ := id hh
  obtain ⟨Ap, cp, rfl, h3, h4, _⟩ := id hp
  obtain ⟨Ao, co, rfl, h5, h6, _⟩ := id ho
  have hq := Lib.hid (pcheck_any (hs.below (hb.mono hB)) hn (by omega))
  go_upto_region 1 with (fail)
  rw [← hW]
  clear hW hs hz h1 h2 h3 h4 h5 h6
  have Hb := Lib.hid hb
  clear hb
  unfold checkV at hq
  rw [show (check s).2.2 = 0 from he] at hq
  generalize (check s).2.1 = n2 at *
  generalize (check s).1 = n1 at *
  have Hh := Lib.hid hh
  have Hp := Lib.hid hp
  have Ho := Lib.hid ho
  have He := Lib.hid he
  clear he hh hp ho
  go_upto_region 4 with (go_at_call 16; refine hq.out.mono ?_; rintro e wx ⟨rfl, hbx⟩; have c0 := (hbx.cell (cell_lt c0)).trans c0; have c1 := (hbx.cell (cell_lt c1)).trans c1; have c2 := (hbx.cell (cell_lt c2)).trans c2)
  have hbw0 : w.heap.size < wx.heap.size := cell_lt c0
  have hmk : (Instr.makeMap 123 none).run Try.prog wx = .ok (.map (some wx.heap.size)) (wx.alloc (.map #[] 0)) := rfl
  go_upto_region 5 with (fail)
  obtain ⟨W2, hW2⟩ : ∃ W2, W2 = wx.alloc (.map #[] 0) := ⟨_, rfl⟩
  obtain ⟨W3, hW3, r3, z3, b3⟩ := box_any W2 #[.slice Ah s.hours.length ch, .slice Ap s.parts.length cp, .slice Ao s.orders.length co, .slice none 0 0, .map (some wx.heap.size)] 125
  have z2 : W2.heap.size = wx.heap.size + 1 := by rw [hW2]; simp
  have r2 : W2.heap[wx.heap.size]? = some (.map #[] 0) := by rw [hW2]; exact heap_alloc_new wx _
  have b2 : Below wx.heap.size wx W2 := by rw [hW2]; exact (Below.refl _ _).alloc (Nat.le_refl _) _
  rw [← hW2, ← hW3]
  have hsz1 := hbx.size
  have hsz0 := Hb.out.size
  have hB3 : Below w.heap.size w W3 := Hb.out.trans ((hbx.mono hsz0).trans ((b2.mono (by omega)).trans (b3.mono (by omega))))
  rw [z2] at r3 z3 b3
  have hh3 := Lib.hid (Hh.out.below (hB3.mono hB))
  have hp3 := Lib.hid (Hp.out.below (hB3.mono hB))
  have ho3 := Lib.hid (Ho.out.below (hB3.mono hB))
  have c0 := (b3.cell (by have := cell_lt c0; omega)).trans ((b2.cell (cell_lt c0)).trans c0)
  have hm3 := (b3.block _ (by omega)).trans r2
  obtain ⟨bm, hbm⟩ : ∃ bm, wx.heap.size = bm := ⟨_, rfl⟩
  rw [hbm] at r3 z3 hm3
  have hbw : w.heap.size < bm := by omega
  have hhl := hg.hlen
  have HG := Lib.hid hg
  have HB3 := Lib.hid hB3
  have R3 := Lib.hid r3
  have Z3 := Lib.hid z3
  have M3 := Lib.hid hm3
  have C0 := Lib.hid c0
  have HBW := Lib.hid hbw
  rw [hbm]
  clear hW2 hW3 z2 r2 b2 b3 hmk r3 z3 hm3 hB3 c1 c2 hbx hsz1 hsz0 hbm hg hq Hb hn hbw hbw0
  go_wp2
  clear c0
  go_loopw [8, 27] (fun n i wr => ∃ (k : Nat) (A : Option Addr) (c : Nat), k ≤ s.hours.length ∧ i = .int .i64 k ∧ n = .int .i64 (s.hours.take k).sum ∧
    wr.heap[bm + 1]? = some (.cells #[.slice Ah s.hours.length ch, .slice Ap s.parts.length cp, .slice Ao s.orders.length co, .slice A k c, .map (some bm)] 125) ∧ Own (bm + 2) 3 wr (.slice A k c) ((List.range k).map (worked s)) ∧
    Below (bm + 1) W3 wr ∧ k ≤ c ∧ c ≤ 9223372036854775807 ∧ bm + 2 ≤ wr.heap.size) (fun _ i _ => s.hours.length - (intOf i).toNat)
  case atStart => exact ⟨0, none, 0, Nat.zero_le _, rfl, by simp, R3.out, Own.nil _ _ _, Below.refl _ _, by omega, by omega, by have := Z3.out; omega⟩
  case round =>
    obtain ⟨k, A, c, hk, rfl, rfl, hp, hown, hbl, hc1, hc2, hszr⟩ := hrel
    by_cases hlt : k < s.hours.length
    · obtain ⟨ad, rfl, _, h0⟩ := (hh3.out.below (hbl.mono (by have := HBW.out; omega))).int hlt
      have hsum := Lib.hid (sum_take_succ hlt)
      have b1 := sum_take_bd HG.out k (by omega)
      have b2 := HG.out.hour hlt
      rw [List.getD_eq_getElem?_getD] at hsum b2
      obtain ⟨A', c', w2, hrun, hown', hbl', hsz', hc1', hc2'⟩ := append_int hown ((s.hours.take k).sum + s.hours[k]?.getD 0) (by simp; omega) hszr
      have hp' := (hbl'.block _ (by omega)).trans hp
      have p3 := cellOf hp 3 (v := .slice A k c) rfl
      have p3' := cellOf hp' 3 (v := .slice A k c) rfl
      have p3f : w2.frozen? ⟨bm + 1, 3, none⟩ = false := by simp [World.frozen?, hp']
      generalize s.hours[k]?.getD 0 = x at *
      generalize (s.hours.take k).sum = m at *
      rw [List.length_map, List.length_range] at hrun hown' hc1'
      have Hp' := Lib.hid hp'
      have Hown' := Lib.hid hown'
      have Hbl := Lib.hid (hbl.trans (hbl'.mono (by omega)))
      clear hp' hp hown hown' hbl hbl'
      go_wp2_with (at_builtin; refine wpList_append_run rfl _ _ _ rfl rfl rfl hrun ?_)
      go_roundw
      case rel =>
        refine ⟨k + 1, A', c', by omega, by go_num, by rw [hsum.out], ?_, ?_, ?_, hc1', hc2', by simpa [World.setCell] using hsz'⟩
        · simp [World.setCell, Array.getElem?_modify, Hp'.out]
        · rw [List.range_succ, List.map_append, show [k].map (worked s) = [m + x] by simp [worked, hsum.out]]
          exact Hown'.out.other (by simp) _
        · exact Hbl.out.setCell (p := ⟨bm + 1, 3, none⟩) (by simp) _
      case measure => simp [intOf]; omega
    · have hk2 : k = s.hours.length := by omega
      have hu : Rd IntAt 1 wr.heap.size wr (.slice A k c) (ups s) := by
        have := hown.rd
        rw [hk2] at this
        unfold ups
        rw [hk2]
        exact this
      have hHB := HBW.out
      have hBl := Hid.out HB3
      have hwr : Below w.heap.size w wr := hBl.trans (hbl.mono (by omega))
      have hshop : ShopSep B wr.heap.size w.heap.size wr (bm + 1) bm s := by
        refine ⟨⟨_, _, _, _, hp, ?_, ?_, ?_, hu, ?_⟩, ⟨#[], 0, (hbl.block _ (by omega)).trans M3.out, by simp⟩, by omega, by omega⟩
        · exact hh3.out.below (hbl.mono (by omega))
        · exact hp3.out.below (hbl.mono (by omega))
        · exact ho3.out.below (hbl.mono (by omega))
        · have := hown.from
          exact this.mono (by omega)
      have Hshop := Lib.hid hshop
      have Hwr := Lib.hid hwr
      clear hp hown hbl hu hshop hwr hBl
      go_wp2
      go_ret2
      exact ⟨bm + 1, bm, rfl, Hwr.out, Hshop.out⟩

theorem look_ok {B : Nat} {w : World} {v : Value} {s : ShopR} (hs : RdShop B w v s) (hn : ∀ p ∈ s.parts, p.name.size ≤ 9223372036854775807) (hB : B ≤ w.heap.size) (he : errOf s = 0) :
    Calls Try.prog 68 #[v] w fun e w' => ∃ p bm, e = .returned (.tuple #[.pointer (some ⟨p, 0, none⟩), .int .i64 0]) ∧ Below w.heap.size w w' ∧ ShopAt w'.heap.size w' p bm s ∧ w.heap.size ≤ p ∧ w.heap.size ≤ bm := by
  refine (look_sep hs hn hB he).mono ?_
  rintro e w' ⟨p, bm, h1, h2, h3⟩
  exact ⟨p, bm, h1, h2, h3.at_ (Nat.le_trans hB h2.size), h3.hp, h3.hb⟩
end Go.Proofs.Ytkmaapkbonkjfaa
