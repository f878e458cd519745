/- The law SheetMore: its walk. -/
import Derived.Test.YtajdgdelhlfniaaGreatDoorGWi
import Derived.Test.YtajdgdelhlfniaaGreatDoorGB
import Derived.Test.YtajdgdelhlfniaaGreatDoorAw1
import Derived.WalkKit
import Derived.Deep.Quiet
set_option linter.unusedSimpArgs false
set_option linter.unusedVariables false
namespace Go.Proofs.YtajdgdelhlfniaaGreatDoor
open Go.RowKit

/-- heights of a sheet that fits, or not -/
theorem heights_at {B : Nat} {w : World} {v : Value} {s : ShR} {er : Int} (he : openE s = er) (hs : RdSh B w v s) (hn : Named s) (hB : B ≤ w.heap.size) :
    Calls Tryz.prog 23 #[v] w fun e w' => ∃ A c, e = .returned (.tuple #[.slice A (heightsF s).length c, .int .i64 er]) ∧ Rd SpanAt 2 w'.heap.size w' (.slice A (heightsF s).length c) (heightsF s) ∧ Below w.heap.size w w' := by
  subst he
  refine (heights_any hs hn hB).mono ?_
  rintro e w' ⟨A, c, rfl, ho, hb⟩
  exact ⟨A, c, rfl, ho.rd, hb⟩
theorem highest_at {B : Nat} {w : World} {v : Value} {s : ShR} {er : Int} (he : openE s = er) (hs : RdSh B w v s) (hn : Named s) (hB : B ≤ w.heap.size) :
    Calls Tryz.prog 28 #[v] w fun e w' => ∃ A c, e = .returned (.tuple #[.slice A (highestF s).length c, .int .i64 er]) ∧ Rd IntAt 1 w'.heap.size w' (.slice A (highestF s).length c) (highestF s) ∧ Below w.heap.size w w' := by
  subst he
  refine (highest_any hs hn hB).mono ?_
  rintro e w' ⟨A, c, rfl, ho, hb⟩
  exact ⟨A, c, rfl, ho.rd, hb⟩
theorem heights_len {s : ShR} (h : openE s = 0) : (heightsF s).length = s.pts.length := by
  unfold heightsF
  rw [if_neg (by simp [h]), spansL_len]
theorem heights_get {s : ShR} (h : openE s = 0) {i : Nat} (hi : i < s.pts.length) : (heightsF s)[i]?.getD default = (- openM s i 8, openM s 8 i) := by
  unfold heightsF
  rw [if_neg (by simp [h])]
  unfold spansL
  rw [List.getElem?_map, List.getElem?_range hi]
  rfl
theorem highest_len {s : ShR} (h : openE s = 0) : (highestF s).length ≤ 8 := by
  have := (good_of_open h).plen
  unfold highestF
  rw [if_neg (by simp [h])]
  exact Nat.le_trans (highL_le _ _ _) this.2
theorem apart_at {s : ShR} (h : openE s = 0) {a b : Nat} (ha : a < s.pts.length) (hb : b < s.pts.length) : apartF s a b = ((- openM s a b, openM s b a), orderF (- openM s a b) (openM s b a), 0) := by
  have hg := good_of_open h
  unfold apartF
  have h2 : outB 0 ((s.pts.length : Int) - 1) [(a : Int), (b : Int)] = false := by
    unfold outB
    simp
    omega
  rw [if_neg (by simp [errOf_good hg]), if_neg (by simp [h2]), if_neg (by simp [h])]
  rfl

set_option maxRecDepth 100000 in
set_option maxHeartbeats 4000000 in
theorem more_any {B : Nat} {w : World} {v : Value} {s : ShR} (x : NoteR) (p q : Nat) (hs : RdSh B w v s) (hn : Named s) (hsm : Small s) (hB : B ≤ w.heap.size) (hp : p ≤ 255) (hq : q ≤ 255) (hgl : Glob w) :
    Calls Tryz.prog 10 #[v, noteV x, .agg #[.int .u8 p, .int .u8 q]] w fun e w' => e = .returned (.bool true) ∧ Below w.heap.size w w' := by
  have HW := Lib.hid (fun (X : World) (hb : Below w.heap.size w X) => lwith_any (w := X) x (hs.below (hb.mono hB)) hsm (Nat.le_trans hB hb.size))
  have HSR := Lib.hid (fun (X : World) (hb : Below w.heap.size w X) => hs.below (hb.mono hB))
  have HA := Lib.hid (fun (X : World) (hb : Below w.heap.size w X) => awake_any (w := X) (hgl.below hb))
  have HN := Lib.hid hn
  have HNt := Lib.hid (show Named (withS s x) from hn)
  obtain ⟨vp, vn, rfl, hpp, hnn⟩ := hs
  obtain ⟨Ap, cp, rfl, _⟩ := id hpp
  obtain ⟨An, cn, rfl, _⟩ := id hnn
  obtain ⟨W1, hW1, r1, z1, b1⟩ := box_any w #[.int .i64 s.iv, .slice Ap s.pts.length cp, .slice An s.notes.length cn] 25
  obtain ⟨W2, hW2, r2, z2, b2⟩ := box_any W1 #[.int .i64 x.kind, .int .i64 x.a, .int .i64 x.b, .int .i64 x.lo, .int .i64 x.hi] 69
  obtain ⟨W3, hW3, r3, z3, b3⟩ := box_any W2 #[.int .u8 p, .int .u8 q] 60
  have b12 := b1.trans (b2.mono b1.size)
  have b123 := b12.trans (b3.mono b12.size)
  have q1 := (b3.block _ (by omega)).trans ((b2.block _ (by omega)).trans r1)
  have q2 := (b3.block _ (by omega)).trans r2
  rw [z1] at q2
  rw [z2, z1] at r3
  have R1 := Lib.hid q1
  have R3 := Lib.hid (show W3.heap[w.heap.size + 2]? = some (.cells #[.int .u8 p, .int .u8 q] 60) from r3)
  have HB := Lib.hid b123
  have C0 := cellOf q1 0 (v := .int .i64 s.iv) rfl
  have C1 := cellOf q1 1 (v := .slice Ap s.pts.length cp) rfl
  have C2 := cellOf q1 2 (v := .slice An s.notes.length cn) rfl
  have D0 := cellOf q2 0 (v := .int .i64 x.kind) rfl
  have D1 := cellOf q2 1 (v := .int .i64 x.a) rfl
  have D2 := cellOf q2 2 (v := .int .i64 x.b) rfl
  have D3 := cellOf q2 3 (v := .int .i64 x.lo) rfl
  have D4 := cellOf q2 4 (v := .int .i64 x.hi) rfl
  clear r1 r2 r3 z1 z2 z3 b1 b2 b3 b12 b123 q1 q2 hn hsm hgl hpp hnn
  unfold noteV at HW ⊢
  go_enter Tryz.func10, Tryz.ntmps10
  go_upto_region 1 with (fail)
  rw [← hW1, ← hW2, ← hW3]
  clear hW1 hW2 hW3
  go_upto_region 2 with (first | (go_at_call 49; (with_reducible refine Calls.mono (HW.out W3 HB.out) ?_); rintro e X ⟨v', rfl, ⟨vp', vn', rfl, hp', hn'⟩, hbX⟩; obtain ⟨Ap', cp', rfl, _⟩ := id hp'; obtain ⟨An', cn', rfl, _⟩ := id hn'; have HTr := Lib.hid (show RdSh X.heap.size X (.agg #[.int .i64 s.iv, .slice Ap' s.pts.length cp', .slice An' (withS s x).notes.length cn']) (withS s x) from ⟨_, _, rfl, hp', hn'⟩); have HbX := Lib.hid hbX; clear hp' hn' hbX) | (refine wpList_store_row rfl 25 (.tmp 7) (.tmp 28) rfl X.heap.size #[.int .i64 s.iv, .slice Ap' s.pts.length cp', .slice An' (withS s x).notes.length cn'] rfl rfl 25 _ (heap_alloc_new _ _) (by kernel_rfl) rfl (by simp [Value.oneCell']) ?_))
  obtain ⟨Y, hY⟩ : ∃ Y, Y = (X.alloc (.cells #[.int .i64 0, .slice none 0 0, .slice none 0 0] 25)).setRow X.heap.size #[.int .i64 s.iv, .slice Ap' s.pts.length cp', .slice An' (withS s x).notes.length cn'] := ⟨_, rfl⟩
  rw [← hY]
  have y1 : Below X.heap.size X Y := by rw [hY]; exact ((Below.refl _ _).alloc (Nat.le_refl _) _).trans (setRow_below _ (Nat.le_refl _))
  have r7 : Y.heap[X.heap.size]? = some (.cells #[.int .i64 s.iv, .slice Ap' s.pts.length cp', .slice An' (withS s x).notes.length cn'] 25) := by rw [hY]; exact setRow_heap _ _ _ _ _ _ (heap_alloc_new _ _)
  have k1 := (y1.block _ (lt_of_block ((HbX.out.block _ (lt_of_block R1.out)).trans R1.out))).trans ((HbX.out.block _ (lt_of_block R1.out)).trans R1.out)
  have k3 := (y1.block _ (lt_of_block ((HbX.out.block _ (lt_of_block R3.out)).trans R3.out))).trans ((HbX.out.block _ (lt_of_block R3.out)).trans R3.out)
  have HBY := Lib.hid (HB.out.trans ((HbX.out.trans (y1.mono HbX.out.size)).mono HB.out.size))
  have HTY := Lib.hid (fun (Z : World) (h : Below Y.heap.size Y Z) => HTr.out.below (y1.trans (h.mono y1.size)))
  have HZY := Lib.hid y1.size
  clear hY C0 C1 C2 D0 D1 D2 D3 D4
  have HC : Hid (∀ Z : World, Below Y.heap.size Y Z → Z.cell? ⟨w.heap.size, 0, none⟩ = some (.int .i64 s.iv) ∧ Z.cell? ⟨w.heap.size, 1, none⟩ = some (.slice Ap s.pts.length cp) ∧ Z.cell? ⟨w.heap.size, 2, none⟩ = some (.slice An s.notes.length cn) ∧
      Z.cell? ⟨X.heap.size, 0, none⟩ = some (.int .i64 s.iv) ∧ Z.cell? ⟨X.heap.size, 1, none⟩ = some (.slice Ap' s.pts.length cp') ∧ Z.cell? ⟨X.heap.size, 2, none⟩ = some (.slice An' (withS s x).notes.length cn') ∧
      Z.cell? ⟨w.heap.size + 2, 0, none⟩ = some (.int .u8 p) ∧ Z.cell? ⟨w.heap.size + 2, 1, none⟩ = some (.int .u8 q) ∧ Below w.heap.size w Z) :=
    Lib.hid fun Z h => by
      have j1 := (h.block _ (lt_of_block k1)).trans k1
      have j3 := (h.block _ (lt_of_block k3)).trans k3
      have j7 := (h.block _ (lt_of_block r7)).trans r7
      exact ⟨cellOf j1 0 rfl, cellOf j1 1 rfl, cellOf j1 2 rfl, cellOf j7 0 rfl, cellOf j7 1 rfl, cellOf j7 2 rfl, cellOf j3 0 rfl, cellOf j3 1 rfl, HBY.out.trans (h.mono HBY.out.size)⟩
  clear y1 r7 k1 k3 R1 R3
  have hbx : Below Y.heap.size Y Y := Below.refl _ _
  obtain ⟨C0, C1, C2, F0, F1, F2, G0, G1, hb⟩ := HC.out _ hbx
  have HLe := Lib.hid (show ∀ Z : World, Below Y.heap.size Y Z → X.heap.size ≤ Z.heap.size from fun Z h => Nat.le_trans HZY.out h.size)
  have HV := Lib.hid (fun (Z : World) (h : Below Y.heap.size Y Z) => valid_any (HTY.out Z h) HNt.out (HLe.out Z h))
  by_cases hv : errOf (withS s x) = 0
  · have hd : decide (errOf (withS s x) = 0) = true := decide_eq_true hv
    rw [hd] at HV
    clear hd
    have hgt := good_of_valid hv
    have hgs := good_less hgt
    have HH := Lib.hid (fun (er : Int) (he : openE (withS s x) = er) (Z : World) (h : Below Y.heap.size Y Z) => heights_at he (HTY.out Z h) HNt.out (HLe.out Z h))
    have HG := Lib.hid (fun (er : Int) (he : openE s = er) (Z : World) (h : Below w.heap.size w Z) => heights_at he (HSR.out Z h) HN.out (Nat.le_trans hB h.size))
    rcases openE_two hgt with ⟨ht, _⟩ | ⟨ht, _⟩
    · have hs0 := more_open ht
      have H1 := Lib.hid (HG.out 0 hs0)
      have H2 := Lib.hid (HH.out 0 ht)
      rw [heights_len hs0] at H1
      rw [heights_len ht, show (withS s x).pts.length = s.pts.length from rfl] at H2
      have hpl := hgs.plen
      have HEl := Lib.hid (show ∀ i, i < s.pts.length → ((heightsF s)[i]?.getD default).1 ≤ ((heightsF (withS s x))[i]?.getD default).1 ∧ ((heightsF (withS s x))[i]?.getD default).2 ≤ ((heightsF s)[i]?.getD default).2 from fun i hi => by
        have e2 : i < (withS s x).pts.length := hi
        rw [heights_get hs0 hi, heights_get ht e2]
        have m1 := more_le hs0 ht (i := i) (k := 8) (by omega) (by omega)
        have m2 := more_le hs0 ht (i := 8) (k := i) (by omega) (by omega)
        exact ⟨by show - _ ≤ - _; omega, m2⟩)
      have HLn1 := Lib.hid (heights_len hs0)
      have HLn2 := Lib.hid (show (heightsF (withS s x)).length = s.pts.length from heights_len ht)
      have HP1 := Lib.hid (show ∀ a c : Nat, a < s.pts.length → c < s.pts.length → ∀ Z, Below w.heap.size w Z → Calls Tryz.prog 26 #[.agg #[.int .i64 s.iv, .slice Ap s.pts.length cp, .slice An s.notes.length cn], .int .i64 a, .int .i64 c] Z fun e w' => e = .returned (.tuple #[.agg #[.int .i64 (-openM s a c), .int .i64 (openM s c a)], .int .i64 (orderF (-openM s a c) (openM s c a)), .int .i64 0]) ∧ Below Z.heap.size Z w' from fun a c ha hc Z h => by
        have := apart_any a c (HSR.out Z h) HN.out (Nat.le_trans hB h.size)
        rw [apart_at hs0 ha hc] at this
        exact this)
      have HP2 := Lib.hid (show ∀ a c : Nat, a < s.pts.length → c < s.pts.length → ∀ Z, Below Y.heap.size Y Z → Calls Tryz.prog 26 #[.agg #[.int .i64 s.iv, .slice Ap' s.pts.length cp', .slice An' (withS s x).notes.length cn'], .int .i64 a, .int .i64 c] Z fun e w' => e = .returned (.tuple #[.agg #[.int .i64 (-openM (withS s x) a c), .int .i64 (openM (withS s x) c a)], .int .i64 (orderF (-openM (withS s x) a c) (openM (withS s x) c a)), .int .i64 0]) ∧ Below Z.heap.size Z w' from fun a c ha hc Z h => by
        have := apart_any a c (HTY.out Z h) HNt.out (HLe.out Z h)
        rw [apart_at ht ha hc] at this
        exact this)
      have HMo := Lib.hid (show ∀ a c : Nat, a < s.pts.length → c < s.pts.length → -openM s a c ≤ -openM (withS s x) a c ∧ openM (withS s x) c a ≤ openM s c a from fun a c ha hc => by
        have m1 := more_le hs0 ht (i := a) (k := c) (by omega) (by omega)
        have m2 := more_le hs0 ht (i := c) (k := a) (by omega) (by omega)
        exact ⟨by omega, m2⟩)
      have J1 := Lib.hid (fun (Z : World) (h : Below w.heap.size w Z) => highest_at hs0 (HSR.out Z h) HN.out (Nat.le_trans hB h.size))
      have J2 := Lib.hid (fun (Z : World) (h : Below Y.heap.size Y Z) => highest_at ht (HTY.out Z h) HNt.out (HLe.out Z h))
      have HSub := Lib.hid (show ∀ k, k < (highestF (withS s x)).length → (highestF (withS s x))[k]?.getD 0 ∈ highestF s from fun k hk => by
        rw [List.getElem?_eq_getElem hk]
        exact more_high ht (List.getElem_mem hk))
      have HLn3 := Lib.hid (highest_len hs0)
      have HLn4 := Lib.hid (highest_len ht)
      have HS0 := Lib.hid hs0
      have HT0 := Lib.hid ht
      have HPl := Lib.hid hpl
      clear HG HH hs0 ht hgt hgs hv hpl
      generalize heightsF s = l1 at *
      generalize heightsF (withS s x) = l2 at *
      generalize highestF s = l3 at *
      generalize highestF (withS s x) = l4 at *
      go_upto_region 4 with (go_at_call 44; (with_reducible refine Calls.mono (HV.out _ hbx) ?_); rintro e X ⟨rfl, h4⟩; replace hbx := hbx.trans (h4.mono hbx.size); clear C0 C1 C2 F0 F1 F2 G0 G1 hb h4; obtain ⟨C0, C1, C2, F0, F1, F2, G0, G1, hb⟩ := HC.out _ hbx)
      go_upto_region 5 with (go_at_call 23; (with_reducible refine Calls.mono (H1.out _ hb) ?_); rintro e X ⟨A1, c1, rfl, hr1, h4⟩; have HR1 := Lib.hid (fun (Z : World) (h : Below X.heap.size X Z) => hr1.below h); clear hr1; replace hbx := hbx.trans (h4.mono hbx.size); clear C0 C1 C2 F0 F1 F2 G0 G1 hb h4; obtain ⟨C0, C1, C2, F0, F1, F2, G0, G1, hb⟩ := HC.out _ hbx; have hb1 : Below X.heap.size X X := Below.refl _ _)
      go_upto_region 6 with (go_at_call 23; (with_reducible refine Calls.mono (H2.out _ hbx) ?_); rintro e X ⟨A2, c2, rfl, hr2, h4⟩; have HR2 := Lib.hid (fun (Z : World) (h : Below X.heap.size X Z) => hr2.below h); clear hr2; replace hbx := hbx.trans (h4.mono hbx.size); replace hb1 := hb1.trans (h4.mono hb1.size); clear C0 C1 C2 F0 F1 F2 G0 G1 hb h4; obtain ⟨C0, C1, C2, F0, F1, F2, G0, G1, hb⟩ := HC.out _ hbx; have hb2 : Below X.heap.size X X := Below.refl _ _)
      go_wp2
      go_loopw [12] (fun i wr => ∃ k : Nat, k ≤ s.pts.length ∧ i = .int .i64 k ∧ Qt X wr) (fun i _ => s.pts.length - (intOf i).toNat)
      case atStart => exact ⟨0, Nat.zero_le _, rfl, Qt.refl _⟩
      case round =>
        obtain ⟨k, hk, rfl, hq⟩ := hrel
        have HQ := Lib.hid hq
        by_cases hlt : k < s.pts.length
        · obtain ⟨ad1, rfl, _, p0, p1⟩ := (HR1.out wr (hb1.trans (hq.below _))).span (i := k) (by rw [HLn1.out]; exact hlt)
          obtain ⟨ad2, rfl, _, p2, p3⟩ := (HR2.out wr (hb2.trans (hq.below _))).span (i := k) (by rw [HLn2.out]; exact hlt)
          obtain ⟨m1, m2⟩ := HEl.out k hlt
          generalize l1[k]?.getD default = u1 at *
          generalize l2[k]?.getD default = u2 at *
          obtain ⟨x1, x2⟩ := u1
          obtain ⟨y1, y2⟩ := u2
          simp only at m1 m2 p0 p1 p2 p3
          have t1 : decide (y1 < x1) = false := decide_eq_false (by omega)
          have t2 : decide (x2 < y2) = false := decide_eq_false (by omega)
          have t3 : decide (y2 > x2) = false := decide_eq_false (by omega)
          clear m1 m2 hq
          go_wp2
          go_quiet (fail)
          go_wp2
          exact ⟨⟨k + 1, by omega, by go_num, HQ.out.drewN _⟩, by simp [intOf]; omega⟩
        · obtain rfl : k = s.pts.length := by omega
          replace hbx := hbx.trans (hq.below _)
          replace hb1 := hb1.trans (hq.below _)
          replace hb2 := hb2.trans (hq.below _)
          clear C0 C1 C2 F0 F1 F2 G0 G1 hb hq HQ
          obtain ⟨C0, C1, C2, F0, F1, F2, G0, G1, hb⟩ := HC.out _ hbx
          have hn1 : 0 < s.pts.length := by have := HPl.out; omega
          generalize s.pts.length = n at *
          go_upto_region 15 with (fail)
          go_quiet (fail)
          go_upto_region 16 with (fail)
          rw [show ((p : Int) % (n : Int)) = ((p % n : Nat) : Int) from rfl, show ((q : Int) % (n : Int)) = ((q % n : Nat) : Int) from rfl]
          obtain ⟨Z, hZ⟩ : ∃ Z, Z = wr.drewN nq := ⟨_, rfl⟩
          rw [← hZ]
          have hzq : ∀ B, Below B wr Z := fun B => by rw [hZ]; exact below_drewN (Below.refl _ _) nq
          clear hZ
          obtain ⟨a, hea⟩ : ∃ a, p % n = a := ⟨_, rfl⟩
          obtain ⟨c, hec⟩ : ∃ c, q % n = c := ⟨_, rfl⟩
          have ha : a < n := by rw [← hea]; exact Nat.mod_lt _ hn1
          have hc : c < n := by rw [← hec]; exact Nat.mod_lt _ hn1
          rw [hea, hec]
          clear hea hec
          replace hbx := hbx.trans (hzq _)
          replace hb1 := hb1.trans (hzq _)
          replace hb2 := hb2.trans (hzq _)
          clear C0 C1 C2 F0 F1 F2 G0 G1 hb hzq
          obtain ⟨C0, C1, C2, F0, F1, F2, G0, G1, hb⟩ := HC.out _ hbx
          have P1 := Lib.hid (HP1.out a c ha hc)
          have P2 := Lib.hid (HP2.out a c ha hc)
          obtain ⟨m1, m2⟩ := HMo.out a c ha hc
          clear HP1 HP2 HMo
          generalize orderF (-openM s a c) (openM s c a) = o1 at *
          generalize orderF (-openM (withS s x) a c) (openM (withS s x) c a) = o2 at *
          generalize -openM s a c = lo1 at *
          generalize openM s c a = hi1 at *
          generalize -openM (withS s x) a c = lo2 at *
          generalize openM (withS s x) c a = hi2 at *
          have T1 : decide (lo1 ≤ lo2) = true := decide_eq_true m1
          have T2 : decide (hi2 ≤ hi1) = true := decide_eq_true m2
          clear m1 m2
          go_upto_region 17 with (go_at_call 26; (with_reducible refine Calls.mono (P1.out _ hb) ?_); rintro e X ⟨rfl, h4⟩; replace hbx := hbx.trans (h4.mono hbx.size); replace hb1 := hb1.trans (h4.mono hb1.size); replace hb2 := hb2.trans (h4.mono hb2.size); clear C0 C1 C2 F0 F1 F2 G0 G1 hb h4; obtain ⟨C0, C1, C2, F0, F1, F2, G0, G1, hb⟩ := HC.out _ hbx)
          obtain ⟨U1, hU1, rU1, zU1, bU1⟩ := box_any X #[.int .i64 lo1, .int .i64 hi1] 40
          rw [← hU1]
          replace hbx := hbx.trans (bU1.mono hbx.size)
          replace hb1 := hb1.trans (bU1.mono hb1.size)
          replace hb2 := hb2.trans (bU1.mono hb2.size)
          clear hU1 zU1 bU1 C0 C1 C2 F0 F1 F2 G0 G1 hb
          obtain ⟨C0, C1, C2, F0, F1, F2, G0, G1, hb⟩ := HC.out _ hbx
          generalize X.heap.size = g1 at rU1 ⊢
          have RU1 := Lib.hid rU1
          clear rU1
          have hb3 : Below U1.heap.size U1 U1 := Below.refl _ _
          go_upto_region 18 with (go_at_call 26; (with_reducible refine Calls.mono (P2.out _ hbx) ?_); rintro e X ⟨rfl, h4⟩; replace hbx := hbx.trans (h4.mono hbx.size); replace hb1 := hb1.trans (h4.mono hb1.size); replace hb2 := hb2.trans (h4.mono hb2.size); replace hb3 := hb3.trans (h4.mono hb3.size); clear C0 C1 C2 F0 F1 F2 G0 G1 hb h4; obtain ⟨C0, C1, C2, F0, F1, F2, G0, G1, hb⟩ := HC.out _ hbx)
          obtain ⟨U2, hU2, rU2, zU2, bU2⟩ := box_any X #[.int .i64 lo2, .int .i64 hi2] 40
          rw [← hU2]
          replace hbx := hbx.trans (bU2.mono hbx.size)
          replace hb3 := hb3.trans (bU2.mono hb3.size)
          clear hU2 zU2 bU2 C0 C1 C2 F0 F1 F2 G0 G1 hb hb1 hb2
          obtain ⟨C0, C1, C2, F0, F1, F2, G0, G1, hb⟩ := HC.out _ hbx
          generalize X.heap.size = g2 at rU2 ⊢
          have RU2 := Lib.hid rU2
          clear rU2
          have hb4 : Below U2.heap.size U2 U2 := Below.refl _ _
          go_upto_region 19 with (go_at_call 28; (with_reducible refine Calls.mono (J1.out _ hb) ?_); rintro e X ⟨A3, c3, rfl, hr3, h4⟩; have HR3 := Lib.hid (fun (Z : World) (h : Below X.heap.size X Z) => hr3.below h); clear hr3; replace hbx := hbx.trans (h4.mono hbx.size); replace hb3 := hb3.trans (h4.mono hb3.size); replace hb4 := hb4.trans (h4.mono hb4.size); clear C0 C1 C2 F0 F1 F2 G0 G1 hb h4; obtain ⟨C0, C1, C2, F0, F1, F2, G0, G1, hb⟩ := HC.out _ hbx; have hb5 : Below X.heap.size X X := Below.refl _ _)
          go_upto_region 20 with (go_at_call 28; (with_reducible refine Calls.mono (J2.out _ hbx) ?_); rintro e X ⟨A4, c4, rfl, hr4, h4⟩; have HR4 := Lib.hid (fun (Z : World) (h : Below X.heap.size X Z) => hr4.below h); clear hr4; replace hbx := hbx.trans (h4.mono hbx.size); replace hb3 := hb3.trans (h4.mono hb3.size); replace hb4 := hb4.trans (h4.mono hb4.size); replace hb5 := hb5.trans (h4.mono hb5.size); clear C0 C1 C2 F0 F1 F2 G0 G1 hb h4; obtain ⟨C0, C1, C2, F0, F1, F2, G0, G1, hb⟩ := HC.out _ hbx; have hb6 : Below X.heap.size X X := Below.refl _ _)
          go_wp2
          go_loopw [25] (fun i wr => ∃ k : Nat, k ≤ l4.length ∧ i = .int .i64 k ∧ Qt X wr) (fun i _ => l4.length - (intOf i).toNat)
          case atStart => exact ⟨0, Nat.zero_le _, rfl, Qt.refl _⟩
          case round =>
            obtain ⟨k, hk, rfl, hq⟩ := hrel
            have HQ := Lib.hid hq
            by_cases hlt : k < l4.length
            · have hk8 := HLn4.out
              obtain ⟨ad1, rfl, _, p0⟩ := (HR4.out wr (hb6.trans (hq.below _))).int (i := k) hlt
              have hmem := HSub.out k hlt
              have HHas := Lib.hid (has_any (HR3.out wr (hb5.trans (hq.below _))) (Nat.le_trans HLn3.out (by omega)) (l4[k]?.getD 0))
              rw [show decide (l4[k]?.getD 0 ∈ l3) = true from decide_eq_true hmem] at HHas
              generalize l4[k]?.getD 0 = u1 at *
              clear hmem hq
              go_wp2_with (go_at_call 48; refine HHas.out.mono ?_; rintro e wx ⟨rfl, hwx⟩; subst wx)
              go_roundw
              case rel => exact ⟨k + 1, by omega, by go_num, HQ.out⟩
              case measure => simp [intOf]; omega
            · obtain rfl : k = l4.length := by omega
              replace hbx := hbx.trans (hq.below _)
              replace hb3 := hb3.trans (hq.below _)
              replace hb4 := hb4.trans (hq.below _)
              clear C0 C1 C2 F0 F1 F2 G0 G1 hb hq HQ
              obtain ⟨C0, C1, C2, F0, F1, F2, G0, G1, hb⟩ := HC.out _ hbx
              have ru1 := (hb3.block _ (lt_of_block RU1.out)).trans RU1.out
              have ru2 := (hb4.block _ (lt_of_block RU2.out)).trans RU2.out
              have v1 := cellOf ru1 0 (v := .int .i64 lo1) rfl
              have v2 := cellOf ru1 1 (v := .int .i64 hi1) rfl
              have v3 := cellOf ru2 0 (v := .int .i64 lo2) rfl
              have v4 := cellOf ru2 1 (v := .int .i64 hi2) rfl
              clear ru1 ru2
              generalize l4.length = n4 at *
              go_wp2_with (go_at_call 20; (with_reducible refine Calls.mono (HA.out _ hb) ?_); rintro e X ⟨rfl, h4⟩; replace hbx := hbx.trans (h4.mono hbx.size); clear C0 C1 C2 F0 F1 F2 G0 G1 hb h4; obtain ⟨C0, C1, C2, F0, F1, F2, G0, G1, hb⟩ := HC.out _ hbx)
              go_ret
              exact ⟨rfl, hb⟩
    · rcases openE_two hgs with ⟨hs0, _⟩ | ⟨hs0, _⟩
      · have H1 := Lib.hid (HG.out 0 hs0)
        have H2 := Lib.hid (HH.out 9 ht)
        clear HG HH hs0 ht hgt hgs hv
        go_upto_region 4 with (go_at_call 44; (with_reducible refine Calls.mono (HV.out _ hbx) ?_); rintro e X ⟨rfl, h4⟩; replace hbx := hbx.trans (h4.mono hbx.size); clear C0 C1 C2 F0 F1 F2 G0 G1 hb h4; obtain ⟨C0, C1, C2, F0, F1, F2, G0, G1, hb⟩ := HC.out _ hbx)
        go_upto_region 5 with (go_at_call 23; (with_reducible refine Calls.mono (H1.out _ hb) ?_); rintro e X ⟨A1, c1, rfl, hr1, h4⟩; replace hbx := hbx.trans (h4.mono hbx.size); clear C0 C1 C2 F0 F1 F2 G0 G1 hb h4; obtain ⟨C0, C1, C2, F0, F1, F2, G0, G1, hb⟩ := HC.out _ hbx)
        go_wp2_with (first | (go_at_call 23; (with_reducible refine Calls.mono (H2.out _ hbx) ?_); rintro e X ⟨A2, c2, rfl, hr2, h4⟩; replace hbx := hbx.trans (h4.mono hbx.size); clear C0 C1 C2 F0 F1 F2 G0 G1 hb h4; obtain ⟨C0, C1, C2, F0, F1, F2, G0, G1, hb⟩ := HC.out _ hbx) | (go_at_call 20; (with_reducible refine Calls.mono (HA.out _ hb) ?_); rintro e X ⟨rfl, h4⟩; replace hbx := hbx.trans (h4.mono hbx.size); clear C0 C1 C2 F0 F1 F2 G0 G1 hb h4; obtain ⟨C0, C1, C2, F0, F1, F2, G0, G1, hb⟩ := HC.out _ hbx))
        go_ret
        exact ⟨rfl, hb⟩
      · have H1 := Lib.hid (HG.out 9 hs0)
        have H2 := Lib.hid (HH.out 9 ht)
        clear HG HH hs0 ht hgt hgs hv
        go_upto_region 4 with (go_at_call 44; (with_reducible refine Calls.mono (HV.out _ hbx) ?_); rintro e X ⟨rfl, h4⟩; replace hbx := hbx.trans (h4.mono hbx.size); clear C0 C1 C2 F0 F1 F2 G0 G1 hb h4; obtain ⟨C0, C1, C2, F0, F1, F2, G0, G1, hb⟩ := HC.out _ hbx)
        go_upto_region 5 with (go_at_call 23; (with_reducible refine Calls.mono (H1.out _ hb) ?_); rintro e X ⟨A1, c1, rfl, hr1, h4⟩; replace hbx := hbx.trans (h4.mono hbx.size); clear C0 C1 C2 F0 F1 F2 G0 G1 hb h4; obtain ⟨C0, C1, C2, F0, F1, F2, G0, G1, hb⟩ := HC.out _ hbx)
        go_wp2_with (first | (go_at_call 23; (with_reducible refine Calls.mono (H2.out _ hbx) ?_); rintro e X ⟨A2, c2, rfl, hr2, h4⟩; replace hbx := hbx.trans (h4.mono hbx.size); clear C0 C1 C2 F0 F1 F2 G0 G1 hb h4; obtain ⟨C0, C1, C2, F0, F1, F2, G0, G1, hb⟩ := HC.out _ hbx) | (go_at_call 20; (with_reducible refine Calls.mono (HA.out _ hb) ?_); rintro e X ⟨rfl, h4⟩; replace hbx := hbx.trans (h4.mono hbx.size); clear C0 C1 C2 F0 F1 F2 G0 G1 hb h4; obtain ⟨C0, C1, C2, F0, F1, F2, G0, G1, hb⟩ := HC.out _ hbx))
        go_ret
        exact ⟨rfl, hb⟩
  · have hd : decide (errOf (withS s x) = 0) = false := decide_eq_false hv
    rw [hd] at HV
    clear hd hv
    go_wp2_with (first | (go_at_call 44; (with_reducible refine Calls.mono (HV.out _ hbx) ?_); rintro e X ⟨rfl, h4⟩; replace hbx := hbx.trans (h4.mono hbx.size); clear C0 C1 C2 F0 F1 F2 G0 G1 hb h4; obtain ⟨C0, C1, C2, F0, F1, F2, G0, G1, hb⟩ := HC.out _ hbx) | (go_at_call 20; (with_reducible refine Calls.mono (HA.out _ hb) ?_); rintro e X ⟨rfl, h4⟩; replace hbx := hbx.trans (h4.mono hbx.size); clear C0 C1 C2 F0 F1 F2 G0 G1 hb h4; obtain ⟨C0, C1, C2, F0, F1, F2, G0, G1, hb⟩ := HC.out _ hbx))
    go_ret
    exact ⟨rfl, hb⟩
end Go.Proofs.YtajdgdelhlfniaaGreatDoor
