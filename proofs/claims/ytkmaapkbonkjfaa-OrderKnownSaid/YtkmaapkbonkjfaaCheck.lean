/- Walks of the layer order: Check of the program. -/
import Derived.Test.YtkmaapkbonkjfaaW5
import Derived.Test.YtkmaapkbonkjfaaName
namespace Go.Proofs.Ytkmaapkbonkjfaa
open Go.RowKit

theorem out1 (lo hi x : Int) (w : World) :
    Calls Try.prog 44 #[.int .i64 lo, .int .i64 hi, .slice (some ⟨w.heap.size, 0, none⟩) 1 1] (w.alloc (.cells #[.int .i64 x] 3)) fun e w' => e = .returned (.bool (outB lo hi [x])) ∧ Below w.heap.size w w' :=
  (out_any lo hi (Rd.one w x) (by simp)).mono fun _ _ ⟨he, hb⟩ => ⟨he, ((Below.refl _ _).alloc (Nat.le_refl _) _).trans (hb.mono (by simp))⟩
theorem outB_one (lo hi x : Int) : outB lo hi [x] = !inB x lo hi := by
  unfold outB inB
  by_cases h1 : lo ≤ x <;> by_cases h2 : x ≤ hi <;> simp [h1, h2] <;> omega
theorem Rd.take {α : Type} {At : World → Addr → α → Prop} {sz B : Nat} {w : World} {A : Option Addr} {n cap k : Nat} {xs : List α} (h : Rd At sz B w (.slice A n cap) xs) (hk : k ≤ xs.length) : Rd At sz B w (.slice A k cap) (xs.take k) := by
  obtain ⟨A', cap', e, h1, h2, h3⟩ := h
  injection e with e1 e2 e3
  subst e1 e2 e3
  refine ⟨A, cap, by rw [List.length_take, Nat.min_eq_left hk], by rw [List.length_take]; omega, h2, fun i x hx => ?_⟩
  rw [List.getElem?_take] at hx
  split at hx
  · exact h3 i x hx
  · cases hx

def checkV (s : ShopR) : Value := .tuple #[.int .i64 (check s).1, .int .i64 (check s).2.1, .int .i64 (check s).2.2]

theorem check_long {s : ShopR} (h : (!(inB s.hours.length 1 20) || !(inB s.parts.length 1 3) || decide (8 < (s.orders.length : Int))) = true) : check s = (1, 0, 3) := by
  unfold check; rw [if_pos h]
/-- nothing is too long -/
structure Short (s : ShopR) : Prop where
  h : 1 ≤ s.hours.length ∧ s.hours.length ≤ 20
  p : 1 ≤ s.parts.length ∧ s.parts.length ≤ 3
  o : s.orders.length ≤ 8
theorem Short.c {s : ShopR} (h : Short s) : ¬ (!(inB s.hours.length 1 20) || !(inB s.parts.length 1 3) || decide (8 < (s.orders.length : Int))) = true := by
  have h1 : inB s.hours.length 1 20 = true := inB_iff.2 (by have := h.h; omega)
  have h2 : inB s.parts.length 1 3 = true := inB_iff.2 (by have := h.p; omega)
  have := h.o
  simp [h1, h2]
  omega
theorem check_hour {s : ShopR} (h0 : Short s) {d : Nat} (h : (fst? s.hours.length fun d => !(inB (s.hours.getD d 0) 0 24)) = some d) : check s = ((1 : Int), (d : Int), (7 : Int)) := by
  unfold check; rw [if_neg h0.c]; simp only [h]
/-- all hours are within bounds -/
def HoursOK (s : ShopR) : Prop := (fst? s.hours.length fun d => !(inB (s.hours.getD d 0) 0 24)) = none
theorem check_part {s : ShopR} (h0 : Short s) (h1 : HoursOK s) {i : Nat} {e : Int} (hi : i < s.parts.length) (he : partErr (s.parts.take i) (s.parts.getD i default) = e) (hne : e ≠ 0)
    (hb : ∀ j, j < i → partErr (s.parts.take j) (s.parts.getD j default) = 0) : check s = ((2 : Int), (i : Int), e) := by
  unfold HoursOK at h1
  unfold check; rw [if_neg h0.c]; simp only [h1]
  rw [fst?_some hi (by rw [he]; simpa using hne) (fun j hj => by rw [hb j hj]; rfl)]
  simp only [he]
def PartsOK (s : ShopR) : Prop := ∀ j, j < s.parts.length → partErr (s.parts.take j) (s.parts.getD j default) = 0
theorem check_ord {s : ShopR} (h0 : Short s) (h1 : HoursOK s) (h2 : PartsOK s) {i : Nat} {e : Int} (hi : i < s.orders.length) (he : ordErr s.parts.length s.hours.length (s.orders.getD i default) = e) (hne : e ≠ 0)
    (hb : ∀ j, j < i → ordErr s.parts.length s.hours.length (s.orders.getD j default) = 0) : check s = ((3 : Int), (i : Int), e) := by
  unfold HoursOK at h1
  unfold check; rw [if_neg h0.c]; simp only [h1]
  rw [fst?_none (fun j hj => by rw [h2 j hj]; rfl)]
  simp only
  rw [fst?_some hi (by rw [he]; simpa using hne) (fun j hj => by rw [hb j hj]; rfl)]
  simp only [he]
theorem check_ok {s : ShopR} (h0 : Short s) (h1 : HoursOK s) (h2 : PartsOK s) (hb : ∀ j, j < s.orders.length → ordErr s.parts.length s.hours.length (s.orders.getD j default) = 0) : check s = (0, 0, 0) := by
  unfold HoursOK at h1
  unfold check; rw [if_neg h0.c]; simp only [h1]
  rw [fst?_none (fun j hj => by rw [h2 j hj]; rfl)]
  simp only
  rw [fst?_none (fun j hj => by rw [hb j hj]; rfl)]
theorem partErr_name {b : List PartR} {p : PartR} (h : nameB p.name = false) : partErr b p = 6 := by unfold partErr; rw [if_pos h]
theorem partErr_twice {b : List PartR} {p : PartR} (h : nameB p.name = true) (h2 : (b.any fun x => x.name.toList == p.name.toList) = true) : partErr b p = 5 := by
  unfold partErr; rw [if_neg (by simp [h]), if_pos h2]
theorem partErr_range {b : List PartR} {p : PartR} (h : nameB p.name = true) (h2 : (b.any fun x => x.name.toList == p.name.toList) = false) (h3 : (inB p.batch 1 10 && inB p.long 1 48 && inB p.stock 0 50) = false) : partErr b p = 7 := by
  unfold partErr; rw [if_neg (by simp [h]), if_neg (by simp [h2]), if_neg (by simp [h3])]
theorem partErr_ok {b : List PartR} {p : PartR} (h : nameB p.name = true) (h2 : (b.any fun x => x.name.toList == p.name.toList) = false) (h3 : (inB p.batch 1 10 && inB p.long 1 48 && inB p.stock 0 50) = true) : partErr b p = 0 := by
  unfold partErr; rw [if_neg (by simp [h]), if_neg (by simp [h2]), if_pos h3]
theorem ordErr_none {np nh : Nat} {o : OrdR} (h : inB o.part 0 (np - 1) = false) : ordErr np nh o = 4 := by unfold ordErr; rw [if_pos h]
theorem ordErr_range {np nh : Nat} {o : OrdR} (h : inB o.part 0 (np - 1) = true) (h2 : (inB o.many 1 50 && inB o.due 0 (nh - 1) && inB o.worth 0 10000) = false) : ordErr np nh o = 7 := by
  unfold ordErr; rw [if_neg (by simp [h]), if_neg (by simp [h2])]
theorem ordErr_ok {np nh : Nat} {o : OrdR} (h : inB o.part 0 (np - 1) = true) (h2 : (inB o.many 1 50 && inB o.due 0 (nh - 1) && inB o.worth 0 10000) = true) : ordErr np nh o = 0 := by
  unfold ordErr; rw [if_neg (by simp [h]), if_pos h2]
theorem checkV_eq {s : ShopR} {a b c : Int} (h : check s = (a, b, c)) : checkV s = .tuple #[.int .i64 a, .int .i64 b, .int .i64 c] := by unfold checkV; rw [h]

set_option maxRecDepth 100000 in
set_option maxHeartbeats 4000000 in
theorem pcheck_any {B : Nat} {w : World} {v : Value} {s : ShopR} (hs : RdShop B w v s) (hn : ∀ p ∈ s.parts, p.name.size ≤ 9223372036854775807) (hB : B ≤ w.heap.size) :
    Calls Try.prog 16 #[v] w fun e w' => e = .returned (checkV s) ∧ Below w.heap.size w w' := by
  have hs' := hs
  obtain ⟨vh, vp, vo, rfl, hh, hp, ho⟩ := hs'
  go_enter Try.func16, Try.ntmps16
  obtain ⟨W, hW, c0, c1, c2, hz, hb, _⟩ := shop_box w vh vp vo
  obtain ⟨Ah, ch, rfl, h1, h2, _⟩ := id hh
  obtain ⟨Ap, cp, rfl, h3, h4, _⟩ := id hp
  obtain ⟨Ao, co, rfl, h5, h6, _⟩ := id ho
  have hh := hh.below (hb.mono hB)
  have hp := hp.below (hb.mono hB)
  have ho := ho.below (hb.mono hB)
  go_upto_region 1 with (fail)
  rw [← hW]
  clear hW hs
  have HN := Lib.hid hn
  have Hh := Lib.hid hh
  have Hp := Lib.hid hp
  have Ho := Lib.hid ho
  have Hb := Lib.hid hb
  have Hz := Lib.hid hz
  have H3 := Lib.hid h3
  clear hn hh hp ho hb hz h1 h2 h3 h4 h5 h6
  have C0 := Lib.hid c0
  have C1 := Lib.hid c1
  have C2 := Lib.hid c2
  have hx := Below.refl W.heap.size W
  cases o1 : inB s.hours.length 1 20 with
  | false =>
    have e := Lib.hid (checkV_eq (check_long (s := s) (by simp [o1])))
    have o1 := (outB_one 1 20 s.hours.length).trans (by rw [o1])
    go_wp2_with (go_at_call 44; refine (out1 _ _ _ _).mono ?_; rintro e wx ⟨rfl, hbx⟩; have c0 := (hbx.cell (cell_lt c0)).trans c0; have c1 := (hbx.cell (cell_lt c1)).trans c1; have c2 := (hbx.cell (cell_lt c2)).trans c2; have hx := hx.trans (hbx.mono hx.size); clear hbx)
    go_ret3
    exact ⟨by rw [e.out]; rfl, Hb.out.trans (hx.mono (by have := Hz.out; omega))⟩
  | true =>
  cases o2 : inB s.parts.length 1 3 with
  | false =>
    have e := Lib.hid (checkV_eq (check_long (s := s) (by simp [o1, o2])))
    have o1 := (outB_one 1 20 s.hours.length).trans (by rw [o1])
    have o2 := (outB_one 1 3 s.parts.length).trans (by rw [o2])
    go_wp2_with (go_at_call 44; refine (out1 _ _ _ _).mono ?_; rintro e wx ⟨rfl, hbx⟩; have c0 := (hbx.cell (cell_lt c0)).trans c0; have c1 := (hbx.cell (cell_lt c1)).trans c1; have c2 := (hbx.cell (cell_lt c2)).trans c2; have hx := hx.trans (hbx.mono hx.size); clear hbx)
    go_ret3
    exact ⟨by rw [e.out]; rfl, Hb.out.trans (hx.mono (by have := Hz.out; omega))⟩
  | true =>
  by_cases o3 : 8 < (s.orders.length : Int)
  · have e := Lib.hid (checkV_eq (check_long (s := s) (by simp [o3])))
    have o1 := (outB_one 1 20 s.hours.length).trans (by rw [o1])
    have o2 := (outB_one 1 3 s.parts.length).trans (by rw [o2])
    go_wp2_with (go_at_call 44; refine (out1 _ _ _ _).mono ?_; rintro e wx ⟨rfl, hbx⟩; have c0 := (hbx.cell (cell_lt c0)).trans c0; have c1 := (hbx.cell (cell_lt c1)).trans c1; have c2 := (hbx.cell (cell_lt c2)).trans c2; have hx := hx.trans (hbx.mono hx.size); clear hbx)
    go_ret3
    exact ⟨by rw [e.out]; rfl, Hb.out.trans (hx.mono (by have := Hz.out; omega))⟩
  have hS : Short s := ⟨by have := inB_iff.1 o1; omega, by have := inB_iff.1 o2; omega, by omega⟩
  have o1 := (outB_one 1 20 s.hours.length).trans (by rw [o1])
  have o2 := (outB_one 1 3 s.parts.length).trans (by rw [o2])
  have hl1 := hS.h
  have hl2 := hS.p
  have HS := Lib.hid hS
  clear hS
  go_upto_region 3 with (go_at_call 44; refine (out1 _ _ _ _).mono ?_; rintro e wx ⟨rfl, hbx⟩; have c0 := (hbx.cell (cell_lt c0)).trans c0; have c1 := (hbx.cell (cell_lt c1)).trans c1; have c2 := (hbx.cell (cell_lt c2)).trans c2; have hx := hx.trans (hbx.mono hx.size); clear hbx)
  clear o1 o2 o3
  have hq : (fun d => !(inB (s.hours.getD d 0) 0 24)) = fun i => outB 0 24 [s.hours[i]?.getD 0] := by
    funext i; rw [outB_one, List.getD_eq_getElem?_getD]
  cases hf : fst? s.hours.length fun i => outB 0 24 [s.hours[i]?.getD 0] with
  | some d =>
    have e := Lib.hid (checkV_eq (check_hour HS.out (by rw [hq]; exact hf)))
    have hd := (fst?_spec hf).1
    have hf := idxOf_some hf
    clear hq
    go_wp2_with (go_at_call 45; refine (idxHour_any (Hh.out.below (hx.mono (by have := Hz.out; omega))) (by have := Hz.out; have := hx.size; omega)).mono ?_; rintro e wx ⟨rfl, hbx⟩; have c0 := (hbx.cell (cell_lt c0)).trans c0; have c1 := (hbx.cell (cell_lt c1)).trans c1; have c2 := (hbx.cell (cell_lt c2)).trans c2; have hx := hx.trans (hbx.mono hx.size); clear hbx)
    go_ret3
    exact ⟨by rw [e.out]; rfl, Hb.out.trans (hx.mono (by have := Hz.out; omega))⟩
  | none =>
  have hH : HoursOK s := by unfold HoursOK; rw [hq]; exact hf
  have hf := idxOf_none hf
  have HH := Lib.hid hH
  clear hq hH
  go_upto_region 6 with (go_at_call 45; refine (idxHour_any (Hh.out.below (hx.mono (by have := Hz.out; omega))) (by have := Hz.out; have := hx.size; omega)).mono ?_; rintro e wx ⟨rfl, hbx⟩; have c0 := (hbx.cell (cell_lt c0)).trans c0; have c1 := (hbx.cell (cell_lt c1)).trans c1; have c2 := (hbx.cell (cell_lt c2)).trans c2; have hx := hx.trans (hbx.mono hx.size); clear hbx)
  clear hf
  go_wp2
  go_loopw [37] (fun i wr => ∃ k : Nat, k ≤ s.parts.length ∧ i = .int .i64 k ∧ (∀ j, j < k → partErr (s.parts.take j) (s.parts.getD j default) = 0) ∧ Below W.heap.size W wr) (fun i _ => s.parts.length - (intOf i).toNat)
  case atStart => exact ⟨0, Nat.zero_le _, rfl, fun _ h => by omega, hx⟩
  case round =>
    clear hx c0 c1 c2
    obtain ⟨k, hk, rfl, hno, hx⟩ := hrel
    have c0 := (hx.cell (cell_lt C0.out)).trans C0.out
    have c1 := (hx.cell (cell_lt C1.out)).trans C1.out
    have c2 := (hx.cell (cell_lt C2.out)).trans C2.out
    have Hno := Lib.hid hno
    clear hno
    by_cases hlt : k < s.parts.length
    · obtain ⟨ad, rfl, _, p0, p1, p2, p3⟩ := (Hp.out.below (hx.mono (by have := Hz.out; omega))).part hlt
      have hkc : k ≤ cp := by have := H3.out; omega
      have Hsz := Lib.hid (HN.out _ (getD_mem hlt default))
      have He := Lib.hid (fun e (h : partErr (s.parts.take k) (s.parts.getD k default) = e) (hne : e ≠ 0) => checkV_eq (check_part HS.out HH.out hlt h hne Hno.out))
      have Hk := Lib.hid (fun (h : partErr (s.parts.take k) (s.parts.getD k default) = 0) => (show ∀ j, j < k + 1 → partErr (s.parts.take j) (s.parts.getD j default) = 0 from fun j hj => by
        by_cases e : j < k
        · exact Hno.out j e
        · obtain rfl : j = k := by omega
          exact h))
      rw [List.getD_eq_getElem?_getD] at Hsz He Hk
      generalize s.parts[k]?.getD default = p at *
      obtain ⟨W8, hW8, r8, z8, b8⟩ := box_any wr #[.string p.name, .int .i64 p.batch, .int .i64 p.long, .int .i64 p.stock] 57
      have d0 := cellOf r8 0 (v := .string p.name) rfl
      have d1 := cellOf r8 1 (v := .int .i64 p.batch) rfl
      have d2 := cellOf r8 2 (v := .int .i64 p.long) rfl
      have d3 := cellOf r8 3 (v := .int .i64 p.stock) rfl
      go_upto_region 9 with (fail)
      rw [← hW8]
      clear p0 p1 p2 p3
      have c0 := (b8.cell (cell_lt c0)).trans c0
      have c1 := (b8.cell (cell_lt c1)).trans c1
      have c2 := (b8.cell (cell_lt c2)).trans c2
      have hx := hx.trans (b8.mono hx.size)
      clear hW8 r8 z8 b8
      cases n1 : nameB p.name with
      | false =>
        have e := Lib.hid (He.out _ (partErr_name n1) (by decide))
        go_wp2_with (go_at_call 47; refine (name_any _ _ Hsz.out).mono ?_; rintro e wx ⟨rfl, hbx⟩; have d0 := (hbx.cell (cell_lt d0)).trans d0; have d1 := (hbx.cell (cell_lt d1)).trans d1; have d2 := (hbx.cell (cell_lt d2)).trans d2; have d3 := (hbx.cell (cell_lt d3)).trans d3; have c0 := (hbx.cell (cell_lt c0)).trans c0; have c1 := (hbx.cell (cell_lt c1)).trans c1; have c2 := (hbx.cell (cell_lt c2)).trans c2; have hx := hx.trans (hbx.mono hx.size); clear hbx)
        go_ret3
        exact ⟨by rw [e.out]; rfl, Hb.out.trans (hx.mono (by have := Hz.out; omega))⟩
      | true =>
      cases n2 : (s.parts.take k).any fun x => x.name.toList == p.name.toList with
      | true =>
        have e := Lib.hid (He.out _ (partErr_twice n1 n2) (by decide))
        go_wp2_with (first | (go_at_call 47; refine (name_any _ _ Hsz.out).mono ?_; rintro e wx ⟨rfl, hbx⟩; have d0 := (hbx.cell (cell_lt d0)).trans d0; have d1 := (hbx.cell (cell_lt d1)).trans d1; have d2 := (hbx.cell (cell_lt d2)).trans d2; have d3 := (hbx.cell (cell_lt d3)).trans d3; have c0 := (hbx.cell (cell_lt c0)).trans c0; have c1 := (hbx.cell (cell_lt c1)).trans c1; have c2 := (hbx.cell (cell_lt c2)).trans c2; have hx := hx.trans (hbx.mono hx.size); clear hbx) | (go_at_call 48; refine (contSame_any _ _ ((Hp.out.below (hx.mono (by have := Hz.out; omega))).take (by omega)) d0 (by have := Hz.out; have := hx.size; omega)).mono ?_; rintro e wx ⟨rfl, hbx⟩; have d0 := (hbx.cell (cell_lt d0)).trans d0; have d1 := (hbx.cell (cell_lt d1)).trans d1; have d2 := (hbx.cell (cell_lt d2)).trans d2; have d3 := (hbx.cell (cell_lt d3)).trans d3; have c0 := (hbx.cell (cell_lt c0)).trans c0; have c1 := (hbx.cell (cell_lt c1)).trans c1; have c2 := (hbx.cell (cell_lt c2)).trans c2; have hx := hx.trans (hbx.mono hx.size); clear hbx))
        go_ret3
        exact ⟨by rw [e.out]; rfl, Hb.out.trans (hx.mono (by have := Hz.out; omega))⟩
      | false =>
      cases q1 : inB p.batch 1 10 with
      | false =>
        have e := Lib.hid (He.out _ (partErr_range n1 n2 (by simp [q1])) (by decide))
        have q1 := (outB_one 1 10 p.batch).trans (by rw [q1])
        go_wp2_with (first | (go_at_call 47; refine (name_any _ _ Hsz.out).mono ?_; rintro e wx ⟨rfl, hbx⟩; have d0 := (hbx.cell (cell_lt d0)).trans d0; have d1 := (hbx.cell (cell_lt d1)).trans d1; have d2 := (hbx.cell (cell_lt d2)).trans d2; have d3 := (hbx.cell (cell_lt d3)).trans d3; have c0 := (hbx.cell (cell_lt c0)).trans c0; have c1 := (hbx.cell (cell_lt c1)).trans c1; have c2 := (hbx.cell (cell_lt c2)).trans c2; have hx := hx.trans (hbx.mono hx.size); clear hbx) | (go_at_call 48; refine (contSame_any _ _ ((Hp.out.below (hx.mono (by have := Hz.out; omega))).take (by omega)) d0 (by have := Hz.out; have := hx.size; omega)).mono ?_; rintro e wx ⟨rfl, hbx⟩; have d0 := (hbx.cell (cell_lt d0)).trans d0; have d1 := (hbx.cell (cell_lt d1)).trans d1; have d2 := (hbx.cell (cell_lt d2)).trans d2; have d3 := (hbx.cell (cell_lt d3)).trans d3; have c0 := (hbx.cell (cell_lt c0)).trans c0; have c1 := (hbx.cell (cell_lt c1)).trans c1; have c2 := (hbx.cell (cell_lt c2)).trans c2; have hx := hx.trans (hbx.mono hx.size); clear hbx) | (go_at_call 44; refine (out1 _ _ _ _).mono ?_; rintro e wx ⟨rfl, hbx⟩; have d0 := (hbx.cell (cell_lt d0)).trans d0; have d1 := (hbx.cell (cell_lt d1)).trans d1; have d2 := (hbx.cell (cell_lt d2)).trans d2; have d3 := (hbx.cell (cell_lt d3)).trans d3; have c0 := (hbx.cell (cell_lt c0)).trans c0; have c1 := (hbx.cell (cell_lt c1)).trans c1; have c2 := (hbx.cell (cell_lt c2)).trans c2; have hx := hx.trans (hbx.mono hx.size); clear hbx))
        go_ret3
        exact ⟨by rw [e.out]; rfl, Hb.out.trans (hx.mono (by have := Hz.out; omega))⟩
      | true =>
      cases q2 : inB p.long 1 48 with
      | false =>
        have e := Lib.hid (He.out _ (partErr_range n1 n2 (by simp [q1, q2])) (by decide))
        have q1 := (outB_one 1 10 p.batch).trans (by rw [q1])
        have q2 := (outB_one 1 48 p.long).trans (by rw [q2])
        go_wp2_with (first | (go_at_call 47; refine (name_any _ _ Hsz.out).mono ?_; rintro e wx ⟨rfl, hbx⟩; have d0 := (hbx.cell (cell_lt d0)).trans d0; have d1 := (hbx.cell (cell_lt d1)).trans d1; have d2 := (hbx.cell (cell_lt d2)).trans d2; have d3 := (hbx.cell (cell_lt d3)).trans d3; have c0 := (hbx.cell (cell_lt c0)).trans c0; have c1 := (hbx.cell (cell_lt c1)).trans c1; have c2 := (hbx.cell (cell_lt c2)).trans c2; have hx := hx.trans (hbx.mono hx.size); clear hbx) | (go_at_call 48; refine (contSame_any _ _ ((Hp.out.below (hx.mono (by have := Hz.out; omega))).take (by omega)) d0 (by have := Hz.out; have := hx.size; omega)).mono ?_; rintro e wx ⟨rfl, hbx⟩; have d0 := (hbx.cell (cell_lt d0)).trans d0; have d1 := (hbx.cell (cell_lt d1)).trans d1; have d2 := (hbx.cell (cell_lt d2)).trans d2; have d3 := (hbx.cell (cell_lt d3)).trans d3; have c0 := (hbx.cell (cell_lt c0)).trans c0; have c1 := (hbx.cell (cell_lt c1)).trans c1; have c2 := (hbx.cell (cell_lt c2)).trans c2; have hx := hx.trans (hbx.mono hx.size); clear hbx) | (go_at_call 44; refine (out1 _ _ _ _).mono ?_; rintro e wx ⟨rfl, hbx⟩; have d0 := (hbx.cell (cell_lt d0)).trans d0; have d1 := (hbx.cell (cell_lt d1)).trans d1; have d2 := (hbx.cell (cell_lt d2)).trans d2; have d3 := (hbx.cell (cell_lt d3)).trans d3; have c0 := (hbx.cell (cell_lt c0)).trans c0; have c1 := (hbx.cell (cell_lt c1)).trans c1; have c2 := (hbx.cell (cell_lt c2)).trans c2; have hx := hx.trans (hbx.mono hx.size); clear hbx))
        go_ret3
        exact ⟨by rw [e.out]; rfl, Hb.out.trans (hx.mono (by have := Hz.out; omega))⟩
      | true =>
      cases q3 : inB p.stock 0 50 with
      | false =>
        have e := Lib.hid (He.out _ (partErr_range n1 n2 (by simp [q1, q2, q3])) (by decide))
        have q1 := (outB_one 1 10 p.batch).trans (by rw [q1])
        have q2 := (outB_one 1 48 p.long).trans (by rw [q2])
        have q3 := (outB_one 0 50 p.stock).trans (by rw [q3])
        go_wp2_with (first | (go_at_call 47; refine (name_any _ _ Hsz.out).mono ?_; rintro e wx ⟨rfl, hbx⟩; have d0 := (hbx.cell (cell_lt d0)).trans d0; have d1 := (hbx.cell (cell_lt d1)).trans d1; have d2 := (hbx.cell (cell_lt d2)).trans d2; have d3 := (hbx.cell (cell_lt d3)).trans d3; have c0 := (hbx.cell (cell_lt c0)).trans c0; have c1 := (hbx.cell (cell_lt c1)).trans c1; have c2 := (hbx.cell (cell_lt c2)).trans c2; have hx := hx.trans (hbx.mono hx.size); clear hbx) | (go_at_call 48; refine (contSame_any _ _ ((Hp.out.below (hx.mono (by have := Hz.out; omega))).take (by omega)) d0 (by have := Hz.out; have := hx.size; omega)).mono ?_; rintro e wx ⟨rfl, hbx⟩; have d0 := (hbx.cell (cell_lt d0)).trans d0; have d1 := (hbx.cell (cell_lt d1)).trans d1; have d2 := (hbx.cell (cell_lt d2)).trans d2; have d3 := (hbx.cell (cell_lt d3)).trans d3; have c0 := (hbx.cell (cell_lt c0)).trans c0; have c1 := (hbx.cell (cell_lt c1)).trans c1; have c2 := (hbx.cell (cell_lt c2)).trans c2; have hx := hx.trans (hbx.mono hx.size); clear hbx) | (go_at_call 44; refine (out1 _ _ _ _).mono ?_; rintro e wx ⟨rfl, hbx⟩; have d0 := (hbx.cell (cell_lt d0)).trans d0; have d1 := (hbx.cell (cell_lt d1)).trans d1; have d2 := (hbx.cell (cell_lt d2)).trans d2; have d3 := (hbx.cell (cell_lt d3)).trans d3; have c0 := (hbx.cell (cell_lt c0)).trans c0; have c1 := (hbx.cell (cell_lt c1)).trans c1; have c2 := (hbx.cell (cell_lt c2)).trans c2; have hx := hx.trans (hbx.mono hx.size); clear hbx))
        go_ret3
        exact ⟨by rw [e.out]; rfl, Hb.out.trans (hx.mono (by have := Hz.out; omega))⟩
      | true =>
        have e := Lib.hid (Hk.out (partErr_ok n1 n2 (by simp [q1, q2, q3])))
        have q1 := (outB_one 1 10 p.batch).trans (by rw [q1])
        have q2 := (outB_one 1 48 p.long).trans (by rw [q2])
        have q3 := (outB_one 0 50 p.stock).trans (by rw [q3])
        go_wp2_with (first | (go_at_call 47; refine (name_any _ _ Hsz.out).mono ?_; rintro e wx ⟨rfl, hbx⟩; have d0 := (hbx.cell (cell_lt d0)).trans d0; have d1 := (hbx.cell (cell_lt d1)).trans d1; have d2 := (hbx.cell (cell_lt d2)).trans d2; have d3 := (hbx.cell (cell_lt d3)).trans d3; have c0 := (hbx.cell (cell_lt c0)).trans c0; have c1 := (hbx.cell (cell_lt c1)).trans c1; have c2 := (hbx.cell (cell_lt c2)).trans c2; have hx := hx.trans (hbx.mono hx.size); clear hbx) | (go_at_call 48; refine (contSame_any _ _ ((Hp.out.below (hx.mono (by have := Hz.out; omega))).take (by omega)) d0 (by have := Hz.out; have := hx.size; omega)).mono ?_; rintro e wx ⟨rfl, hbx⟩; have d0 := (hbx.cell (cell_lt d0)).trans d0; have d1 := (hbx.cell (cell_lt d1)).trans d1; have d2 := (hbx.cell (cell_lt d2)).trans d2; have d3 := (hbx.cell (cell_lt d3)).trans d3; have c0 := (hbx.cell (cell_lt c0)).trans c0; have c1 := (hbx.cell (cell_lt c1)).trans c1; have c2 := (hbx.cell (cell_lt c2)).trans c2; have hx := hx.trans (hbx.mono hx.size); clear hbx) | (go_at_call 44; refine (out1 _ _ _ _).mono ?_; rintro e wx ⟨rfl, hbx⟩; have d0 := (hbx.cell (cell_lt d0)).trans d0; have d1 := (hbx.cell (cell_lt d1)).trans d1; have d2 := (hbx.cell (cell_lt d2)).trans d2; have d3 := (hbx.cell (cell_lt d3)).trans d3; have c0 := (hbx.cell (cell_lt c0)).trans c0; have c1 := (hbx.cell (cell_lt c1)).trans c1; have c2 := (hbx.cell (cell_lt c2)).trans c2; have hx := hx.trans (hbx.mono hx.size); clear hbx))
        go_roundw
        case rel => exact ⟨k + 1, by omega, by go_num, e.out, hx⟩
        case measure => simp [intOf]; omega
    · have HP := Lib.hid (show PartsOK s from fun j hj => Hno.out j (by omega))
      go_wp2
      clear hlt Hno
      go_loopw [78] (fun i wr => ∃ k : Nat, k ≤ s.orders.length ∧ i = .int .i64 k ∧ (∀ j, j < k → ordErr s.parts.length s.hours.length (s.orders.getD j default) = 0) ∧ Below W.heap.size W wr) (fun i _ => s.orders.length - (intOf i).toNat)
      case atStart => exact ⟨0, Nat.zero_le _, rfl, fun _ h => by omega, hx⟩
      case round =>
        clear hx c0 c1 c2 hk
        obtain ⟨k, hk, rfl, hno, hx⟩ := hrel
        have c0 := (hx.cell (cell_lt C0.out)).trans C0.out
        have c1 := (hx.cell (cell_lt C1.out)).trans C1.out
        have c2 := (hx.cell (cell_lt C2.out)).trans C2.out
        have Hno := Lib.hid hno
        clear hno
        by_cases hlt : k < s.orders.length
        · obtain ⟨ad, rfl, _, p0, p1, p2, p3⟩ := (Ho.out.below (hx.mono (by have := Hz.out; omega))).ord hlt
          have He := Lib.hid (fun e (h : ordErr s.parts.length s.hours.length (s.orders.getD k default) = e) (hne : e ≠ 0) => checkV_eq (check_ord HS.out HH.out HP.out hlt h hne Hno.out))
          have Hk := Lib.hid (fun (h : ordErr s.parts.length s.hours.length (s.orders.getD k default) = 0) => (show ∀ j, j < k + 1 → ordErr s.parts.length s.hours.length (s.orders.getD j default) = 0 from fun j hj => by
            by_cases e : j < k
            · exact Hno.out j e
            · obtain rfl : j = k := by omega
              exact h))
          have holen := HS.out.o
          rw [List.getD_eq_getElem?_getD] at He Hk
          generalize s.orders[k]?.getD default = p at *
          obtain ⟨W8, hW8, r8, z8, b8⟩ := box_any wr #[.int .i64 p.part, .int .i64 p.many, .int .i64 p.due, .int .i64 p.worth] 60
          have d0 := cellOf r8 0 (v := .int .i64 p.part) rfl
          have d1 := cellOf r8 1 (v := .int .i64 p.many) rfl
          have d2 := cellOf r8 2 (v := .int .i64 p.due) rfl
          have d3 := cellOf r8 3 (v := .int .i64 p.worth) rfl
          go_upto_region 19 with (fail)
          rw [← hW8]
          clear p0 p1 p2 p3
          have c0 := (b8.cell (cell_lt c0)).trans c0
          have c1 := (b8.cell (cell_lt c1)).trans c1
          have c2 := (b8.cell (cell_lt c2)).trans c2
          have hx := hx.trans (b8.mono hx.size)
          clear hW8 r8 z8 b8
          cases n1 : inB p.part 0 (s.parts.length - 1) with
          | false =>
            have e := Lib.hid (He.out _ (ordErr_none n1) (by decide))
            have n1 := (outB_one 0 (s.parts.length - 1) p.part).trans (by rw [n1])
            go_wp2_with (go_at_call 44; refine (out1 _ _ _ _).mono ?_; rintro e wx ⟨rfl, hbx⟩; have d0 := (hbx.cell (cell_lt d0)).trans d0; have d1 := (hbx.cell (cell_lt d1)).trans d1; have d2 := (hbx.cell (cell_lt d2)).trans d2; have d3 := (hbx.cell (cell_lt d3)).trans d3; have c0 := (hbx.cell (cell_lt c0)).trans c0; have c1 := (hbx.cell (cell_lt c1)).trans c1; have c2 := (hbx.cell (cell_lt c2)).trans c2; have hx := hx.trans (hbx.mono hx.size); clear hbx)
            go_ret3
            exact ⟨by rw [e.out]; rfl, Hb.out.trans (hx.mono (by have := Hz.out; omega))⟩
          | true =>
          cases q1 : inB p.many 1 50 with
          | false =>
            have e := Lib.hid (He.out _ (ordErr_range n1 (by simp [q1])) (by decide))
            have n1 := (outB_one 0 (s.parts.length - 1) p.part).trans (by rw [n1])
            have q1 := (outB_one 1 50 p.many).trans (by rw [q1])
            go_wp2_with (go_at_call 44; refine (out1 _ _ _ _).mono ?_; rintro e wx ⟨rfl, hbx⟩; have d0 := (hbx.cell (cell_lt d0)).trans d0; have d1 := (hbx.cell (cell_lt d1)).trans d1; have d2 := (hbx.cell (cell_lt d2)).trans d2; have d3 := (hbx.cell (cell_lt d3)).trans d3; have c0 := (hbx.cell (cell_lt c0)).trans c0; have c1 := (hbx.cell (cell_lt c1)).trans c1; have c2 := (hbx.cell (cell_lt c2)).trans c2; have hx := hx.trans (hbx.mono hx.size); clear hbx)
            go_ret3
            exact ⟨by rw [e.out]; rfl, Hb.out.trans (hx.mono (by have := Hz.out; omega))⟩
          | true =>
          cases q2 : inB p.due 0 (s.hours.length - 1) with
          | false =>
            have e := Lib.hid (He.out _ (ordErr_range n1 (by simp [q1, q2])) (by decide))
            have n1 := (outB_one 0 (s.parts.length - 1) p.part).trans (by rw [n1])
            have q1 := (outB_one 1 50 p.many).trans (by rw [q1])
            have q2 := (outB_one 0 (s.hours.length - 1) p.due).trans (by rw [q2])
            go_wp2_with (go_at_call 44; refine (out1 _ _ _ _).mono ?_; rintro e wx ⟨rfl, hbx⟩; have d0 := (hbx.cell (cell_lt d0)).trans d0; have d1 := (hbx.cell (cell_lt d1)).trans d1; have d2 := (hbx.cell (cell_lt d2)).trans d2; have d3 := (hbx.cell (cell_lt d3)).trans d3; have c0 := (hbx.cell (cell_lt c0)).trans c0; have c1 := (hbx.cell (cell_lt c1)).trans c1; have c2 := (hbx.cell (cell_lt c2)).trans c2; have hx := hx.trans (hbx.mono hx.size); clear hbx)
            go_ret3
            exact ⟨by rw [e.out]; rfl, Hb.out.trans (hx.mono (by have := Hz.out; omega))⟩
          | true =>
          cases q3 : inB p.worth 0 10000 with
          | false =>
            have e := Lib.hid (He.out _ (ordErr_range n1 (by simp [q1, q2, q3])) (by decide))
            have n1 := (outB_one 0 (s.parts.length - 1) p.part).trans (by rw [n1])
            have q1 := (outB_one 1 50 p.many).trans (by rw [q1])
            have q2 := (outB_one 0 (s.hours.length - 1) p.due).trans (by rw [q2])
            have q3 := (outB_one 0 10000 p.worth).trans (by rw [q3])
            go_wp2_with (go_at_call 44; refine (out1 _ _ _ _).mono ?_; rintro e wx ⟨rfl, hbx⟩; have d0 := (hbx.cell (cell_lt d0)).trans d0; have d1 := (hbx.cell (cell_lt d1)).trans d1; have d2 := (hbx.cell (cell_lt d2)).trans d2; have d3 := (hbx.cell (cell_lt d3)).trans d3; have c0 := (hbx.cell (cell_lt c0)).trans c0; have c1 := (hbx.cell (cell_lt c1)).trans c1; have c2 := (hbx.cell (cell_lt c2)).trans c2; have hx := hx.trans (hbx.mono hx.size); clear hbx)
            go_ret3
            exact ⟨by rw [e.out]; rfl, Hb.out.trans (hx.mono (by have := Hz.out; omega))⟩
          | true =>
            have e := Lib.hid (Hk.out (ordErr_ok n1 (by simp [q1, q2, q3])))
            have n1 := (outB_one 0 (s.parts.length - 1) p.part).trans (by rw [n1])
            have q1 := (outB_one 1 50 p.many).trans (by rw [q1])
            have q2 := (outB_one 0 (s.hours.length - 1) p.due).trans (by rw [q2])
            have q3 := (outB_one 0 10000 p.worth).trans (by rw [q3])
            go_wp2_with (go_at_call 44; refine (out1 _ _ _ _).mono ?_; rintro e wx ⟨rfl, hbx⟩; have d0 := (hbx.cell (cell_lt d0)).trans d0; have d1 := (hbx.cell (cell_lt d1)).trans d1; have d2 := (hbx.cell (cell_lt d2)).trans d2; have d3 := (hbx.cell (cell_lt d3)).trans d3; have c0 := (hbx.cell (cell_lt c0)).trans c0; have c1 := (hbx.cell (cell_lt c1)).trans c1; have c2 := (hbx.cell (cell_lt c2)).trans c2; have hx := hx.trans (hbx.mono hx.size); clear hbx)
            go_roundw
            case rel => exact ⟨k + 1, by omega, by go_num, e.out, hx⟩
            case measure => simp [intOf]; omega
        · have e := Lib.hid (checkV_eq (check_ok HS.out HH.out HP.out fun j hj => Hno.out j (by omega)))
          go_wp2
          go_ret3
          exact ⟨by rw [e.out]; rfl, Hb.out.trans (hx.mono (by have := Hz.out; omega))⟩
end Go.Proofs.Ytkmaapkbonkjfaa
