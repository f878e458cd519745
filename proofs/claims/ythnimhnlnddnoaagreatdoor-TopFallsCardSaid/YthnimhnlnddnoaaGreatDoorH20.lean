/- Parts of the proof of TpP: RwN. -/
import Derived.Test.YthnimhnlnddnoaaGreatDoorH8
import Derived.Test.YthnimhnlnddnoaaGreatDoorH19
import Derived.WalkKit
import Derived.Deep.Quiet
set_option linter.unusedSimpArgs false
set_option linter.unusedVariables false
set_option maxRecDepth 100000
set_option maxHeartbeats 8000000
namespace Go.Proofs.YthnimhnlnddnoaaGreatDoor
open Go.RowKit
def BArr (w : World) (g : Nat) (l : List Bool) : Prop := w.heap[g]? = some (.cells (l.map Value.bool).toArray 4)
theorem BArr.cell {w : World} {g : Nat} {l : List Bool} (h : BArr w g l) {i : Nat} (hi : i < l.length) : w.cell? ⟨g, i, none⟩ = some (.bool (l.getD i false)) := cellOf h i (by simp [hi])
theorem BArr.frozen {w : World} {g : Nat} {l : List Bool} (h : BArr w g l) (i : Nat) : w.frozen? ⟨g, i, none⟩ = false := by
 unfold BArr at h
 simp [World.frozen?, h]
theorem BArr.set_ {w : World} {g : Nat} {l : List Bool} (h : BArr w g l) (i : Nat) (v : Bool) : BArr (w.setCell ⟨g, i, none⟩ (.bool v)) g (l.set i v) := by
 have := heap_setCell_row h (n := i) (.bool v)
 unfold BArr
 rw [this, List.map_set]
 simp
theorem make_bools (n : Nat) (hn : n ≤ 1000) (w : World) : (Instr.makeSlice 77 (.int .i64 n) (.int .i64 n)).run Tryz.prog w = .ok (.slice (some ⟨w.heap.size, 0, none⟩) n n) (w.alloc (.cells ((List.replicate n false).map Value.bool).toArray 4)) := by
 obtain ⟨i, hi, hi2⟩ := Option.map_eq_some_iff.1 (show (Tryz.prog.info? 4).map (fun i => (i.size, i.bytes, i.zero)) = some (1, 1, some (.bool false)) by kernel_rfl)
 simp only [Prod.mk.injEq] at hi2
 obtain ⟨hsize, hby, hz⟩ := hi2
 have ht : Tryz.prog.underlying 77 = some (.slice 4) := by kernel_rfl
 have e : madeCells (Value.bool false).cells n = ((List.replicate n false).map Value.bool).toArray := by
  apply Array.ext'
  rw [show (Value.bool false).cells = #[.bool false] from rfl, toList_madeCells_one]
  simp
 have h := run_make (P := Tryz.prog) w 77 4 i (.bool false) ht hi hz .i64 .i64 n n (by omega) (Int.le_refl _) (by rw [hby]; omega) (by omega)
 rw [hsize, Int.toNat_natCast, Nat.mul_one, e] at h
 exact h
def mostK (r : List RvR) (i q : Nat) : Int := ((List.range q).map fun k => 9000 - max 0 (dropR r k i)).foldl min 9000
theorem mostK_succ (r : List RvR) (i q : Nat) : mostK r i (q + 1) = min (mostK r i q) (9000 - max 0 (dropR r q i)) := by
 unfold mostK
 rw [List.range_succ, List.map_append, List.foldl_append]
 rfl
theorem mostK_bound {r : List RvR} (hg : RGood r) (i : Nat) : ∀ q, q ≤ r.length → 0 ≤ mostK r i q ∧ mostK r i q ≤ 9000
 | 0, _ => by simp [mostK]
 | q + 1, h => by
  have := mostK_bound hg i q (by omega)
  have := drop_le hg (i := i) (show q < r.length by omega)
  rw [mostK_succ]
  omega
theorem anyI_start (r : List RvR) : AnyI r (List.replicate r.length 0) (List.replicate r.length false) := ⟨by simp, by simp, fun i hi h => by
 rw [List.getD_eq_getElem?_getD, List.getElem?_replicate, if_pos hi] at h
 cases h⟩
theorem any6_any {B BX : Nat} {w : World} {v u : Value} {r : List RvR} {x : List Int} (hs : Rd RvAt 4 B w v r) (hg : RGood r) (hB : B ≤ w.heap.size) (hx : Rd U16At 1 BX w u x) (hBX : BX ≤ w.heap.size) (hxs : ∀ y ∈ x, 0 ≤ y ∧ y ≤ 65535) :
  Calls Tryz.prog 7 #[v, u] w fun e w' => ∃ g h, e = .returned (.slice (some ⟨g, 0, none⟩) r.length r.length) ∧ h.length = r.length ∧ RunsD r (fun i => h.getD i 0) ∧ (∀ i, i < r.length → 0 ≤ h.getD i 0 ∧ h.getD i 0 ≤ 9000) ∧
   LArr w' g h ∧ w.heap.size ≤ g ∧ Below w.heap.size w w' := by
 obtain ⟨A, cap, rfl, _⟩ := id hs
 obtain ⟨AX, cX, rfl, _⟩ := id hx
 have hlen := hg.len
 have HS := Lib.hid (fun (X : World) (hb : Below w.heap.size w X) => hs.below (hb.mono hB))
 have HT := Lib.hid (fun (X : World) (hb : Below w.heap.size w X) (n : Nat) (hn : n ≤ 9223372036854775807) => turn6_any n (hx.below (hb.mono hBX)) hn hxs)
 have HTn := Lib.hid (fun n => turnF_nn hxs n)
 have HG := Lib.hid hg
 have hm1 := make_ints r.length (by omega) w
 obtain ⟨W1, hW1⟩ : ∃ X, X = w.alloc (.cells (intsC r.length fun _ => 0) 3) := ⟨_, rfl⟩
 have hb1 : Below w.heap.size w W1 := by rw [hW1]; exact (Below.refl _ _).alloc (Nat.le_refl _) _
 have r1 : W1.heap[w.heap.size]? = some (.cells (intsC r.length fun _ => 0) 3) := by rw [hW1]; exact heap_alloc_new w _
 have z1 : W1.heap.size = w.heap.size + 1 := by rw [hW1]; simp
 rw [← hW1] at hm1
 have hm2 := make_bools r.length (by omega) W1
 obtain ⟨W2, hW2⟩ : ∃ X, X = W1.alloc (.cells ((List.replicate r.length false).map Value.bool).toArray 4) := ⟨_, rfl⟩
 have hb2 : Below W1.heap.size W1 W2 := by rw [hW2]; exact (Below.refl _ _).alloc (Nat.le_refl _) _
 have r2 : BArr W2 W1.heap.size (List.replicate r.length false) := by rw [hW2]; exact heap_alloc_new W1 _
 rw [← hW2] at hm2
 have hA2 : LArr W2 w.heap.size (List.replicate r.length 0) := by
  have h : IArr W2 w.heap.size r.length (fun _ => 0) := (hb2.block _ (by omega)).trans r1
  unfold LArr
  rw [List.length_replicate]
  refine h.congr fun d => ?_
  rw [List.getD_eq_getElem?_getD, List.getElem?_replicate]
  split <;> rfl
 rw [z1] at r2
 have HA2 := Lib.hid hA2
 have HR2 := Lib.hid r2
 have HB2 := Lib.hid (hb1.trans (hb2.mono (by omega)))
 have HZ1 := Lib.hid z1
 clear hs hg hx hxs hW1 hW2 hb1 r1 z1 hb2 r2 hA2
 go_enter Tryz.func7, Tryz.ntmps7
 go_wp2
 rw [HZ1.out]
 clear hm1 hm2
 go_loopw [7] (fun nv wr => ∃ (n : Nat) (h : List Int) (dn : List Bool), n ≤ r.length ∧ nv = .int .i64 n ∧ LArr wr w.heap.size h ∧ BArr wr (w.heap.size + 1) dn ∧ AnyI r h dn ∧ AnyR r n 0 dn ∧ Below w.heap.size w wr) (fun nv _ => r.length - (intOf nv).toNat)
 case atStart => exact ⟨0, _, _, Nat.zero_le _, rfl, HA2.out, HR2.out, anyI_start r, anyR_zero, HB2.out⟩
 case round =>
  obtain ⟨n, h, dn, hn, rfl, ha, hbr, hI, hR, hb⟩ := hrel
  by_cases hlt : n < r.length
  ·have HA := Lib.hid ha
   have HBr := Lib.hid hbr
   have HI := Lib.hid hI
   have HR := Lib.hid hR
   have HB := Lib.hid hb
   clear ha hbr hI hR hb
   go_wp2
   go_loopw [8] (fun iv wq => ∃ (i : Nat) (h : List Int) (dn : List Bool), i ≤ r.length ∧ iv = .int .i64 i ∧ LArr wq w.heap.size h ∧ BArr wq (w.heap.size + 1) dn ∧ AnyI r h dn ∧ AnyR r n i dn ∧ Below w.heap.size w wq) (fun iv _ => r.length - (intOf iv).toNat)
   case atStart => exact ⟨0, h, dn, Nat.zero_le _, rfl, HA.out, HBr.out, HI.out, HR.out, HB.out⟩
   case round =>
    clear HA HBr HI HR HB
    obtain ⟨i, h, dn, hi, rfl, ha, hbr, hI, hR, hb⟩ := hrel
    by_cases hlt2 : i < r.length
    ·have hil : i < h.length := by rw [hI.hl]; exact hlt2
     have hid : i < dn.length := by rw [hI.dl]; exact hlt2
     have hdl := hI.dl
     have hhl := hI.hl
     have b1 := hbr.cell hid
     have HSk := Lib.hid (fun hc => anyR_skip HG.out hR (cur := i) hc)
     have HSt := Lib.hid (anyR_set hR (cur := i) hid)
     have HStp := Lib.hid (fun hn hd t ht => any_step HG.out hI hlt2 hn hd (t := t) ht)
     have HLm := Lib.hid (fun hd => low_most HG.out hI hlt2 hd)
     have hdn := HG.out.down i hlt2
     have hls := HG.out.least i hlt2
     have HLw := Lib.hid (show lowR r h i = if rvD r i = -1 then 0 else h.getD (rvD r i).toNat 0 + rvL r i from rfl)
     have HDv := Lib.hid (fun (X : World) (hq : Qt wr X) j hj => drop_any (w := X) (k := j) (tn := i) ((HS.out _ hb).qt hq) HG.out hj hlt2)
     obtain ⟨ad, rfl, _, n0, n1, n2, n3⟩ := (HS.out _ hb).rv hlt2
     rw [show rvD r i = (r.getD i default).down from rfl] at HSk HStp hdn HLw HLm
     rw [show rvL r i = (r.getD i default).least from rfl] at hls HLw
     generalize r.getD i default = px at *
     obtain ⟨nm, dw, ls, hg4⟩ := px
     simp only at n0 n1 n2 n3 hdn hls HSk HStp HLw HLm
     have HA := Lib.hid ha
     have HBr := Lib.hid hbr
     have HI := Lib.hid hI
     have HR := Lib.hid hR
     have HB := Lib.hid hb
     clear ha hI hR hb n0 n3
     obtain ⟨db, hdb⟩ : ∃ t, t = dn.getD i false := ⟨_, rfl⟩
     rw [← hdb] at b1
     have HDb := Lib.hid hdb
     clear hdb
     cases db with
     | true =>
      have HR2 := Lib.hid (HSk.out (.inl HDb.out.symm))
      clear hbr
      go_wp2
      go_roundw
      case rel => exact ⟨i + 1, h, dn, by omega, by go_num, HA.out, HBr.out, HI.out, HR2.out, HB.out⟩
      case measure => simp [intOf]; omega
     | false =>
      by_cases hm : dw = -1
      ·have q1 : (dw != -1) = false := by simp [hm]
       have HLo := Lib.hid (HLw.out.trans (if_pos hm))
       have HD := Lib.hid (show dw = -1 ∨ dn.getD dw.toNat false = true from .inl hm)
       have hlb := HLm.out HD.out
       rw [HLo.out] at hlb
       have HMo := Lib.hid (show mostR r i = mostK r i r.length from rfl)
       have hmb := (mostK_bound HG.out i r.length (Nat.le_refl _)).2
       rw [HMo.out] at hlb
       have HSp := Lib.hid (fun t ht => HStp.out HDb.out.symm HD.out t ht)
       rw [HLo.out, HMo.out] at HSp
       have HLB := Lib.hid hlb
       have HMB := Lib.hid hmb
       clear hlb hmb
       clear hm
       go_wp2
       obtain ⟨wz, hwz⟩ : ∃ X, X = wr := ⟨_, rfl⟩
       rw [← hwz] at HA HBr HB HDv ⊢
       clear hwz 
       go_loopw [10, 11] (fun mv kv wy => ∃ q : Nat, q ≤ r.length ∧ kv = .int .i64 q ∧ mv = .int .i64 (mostK r i q) ∧ Qt wz wy) (fun _ kv _ => r.length - (intOf kv).toNat)
       case atStart => exact ⟨0, Nat.zero_le _, rfl, rfl, Qt.refl _⟩
       case round =>
        obtain ⟨q, hq, rfl, rfl, hqt⟩ := hrel
        by_cases hlq : q < r.length
        ·have HDq := Lib.hid (HDv.out _ hqt q hlq)
         have hdb := drop_le HG.out (i := i) hlq
         have hda := (drop_ge HG.out (i := i) hlq).1
         have hmk := mostK_bound HG.out i q hq
         have HMS := Lib.hid (mostK_succ r i q)
         have HQ := Lib.hid hqt
         clear hqt
         generalize mostK r i q = mk at *
         generalize dropR r q i = dq at *
         go_wp2_with (go_at_call 42; refine HDq.out.mono ?_; rintro e w5 ⟨rfl, hq5⟩)
         go_roundw
         case rel => exact ⟨q + 1, by omega, by go_num, by rw [HMS.out], HQ.out.trans hq5⟩
         case measure => simp [intOf]; omega
        ·have hqn : q = r.length := by omega
         subst hqn
         have HTi := Lib.hid (HT.out _ (HB.out.trans (hqt.below _)) i (by omega))
         have htb := HTn.out i
         have HA5 := Lib.hid (show LArr _ w.heap.size h from ((hqt.below (wz.heap.size)).block _ (lt_of_block HA.out)).trans HA.out)
         have HB5 := Lib.hid (show BArr _ (w.heap.size + 1) dn from ((hqt.below (wz.heap.size)).block _ (lt_of_block HBr.out)).trans HBr.out)
         have HBb := Lib.hid (HB.out.trans (hqt.below _))
         have HSq := Lib.hid (HSp.out (turnF x i) htb.1)
         have hlb := HLB.out
         have hmb := HMB.out
         clear hqt hlq hq
         generalize turnF x i = tt at *
         generalize mostK r i r.length = mk at *
         have a0 := HA5.out.cell hil
         have f0 := IArr.frozen HA5.out i
         have b0 := HB5.out.cell hid
         have g0 := HB5.out.frozen i
         obtain ⟨ho, hho⟩ : ∃ o, o = h.getD i 0 := ⟨_, rfl⟩
         obtain ⟨bo, hbo⟩ : ∃ o, o = dn.getD i false := ⟨_, rfl⟩
         rw [← hho] at a0
         rw [← hbo] at b0
         clear hho hbo
         have w0 : IntKind.i64.wrap ((0 : Int) + tt) = (0 : Int) + tt := IntWalk.i64_in _ (by omega)
         go_wp2_with (go_at_call 43; refine HTi.out.mono ?_; rintro e w6 ⟨rfl, hw6⟩; subst hw6)
         go_roundw
         case rel =>
          refine ⟨i + 1, _, _, by omega, by go_num, ?_, ?_, HSq.out, HSt.out, ?_⟩
          ·exact (Below.heap_setCell _ _ _ _ (by show w.heap.size ≠ w.heap.size + 1; omega)).trans (by have := HA5.out.set_ hil (min mk ((0 : Int) + tt)); simp only [Int.zero_add] at this ⊢; exact this)
          ·exact BArr.set_ ((Below.heap_setCell _ _ _ _ (by show w.heap.size + 1 ≠ w.heap.size; omega)).trans HB5.out) i true
          ·exact (HBb.out.setCell (Nat.le_refl _) _).setCell (by show w.heap.size ≤ w.heap.size + 1; omega) _
         case measure => simp [intOf]; omega
      ·have q1 : (dw != -1) = true := by simp [hm]
       obtain ⟨m, hmm⟩ : ∃ m : Nat, dw = m := ⟨dw.toNat, by omega⟩
       have HMm := Lib.hid hmm
       have hml : m < r.length := by omega
       have hmt : dw.toNat = m := by omega
       have b2 := hbr.cell (show m < dn.length by omega)
       have a2 := HA.out.cell (show m < h.length by omega)
       rw [hmt] at HSk HLw HStp HLm
       subst hmm
       obtain ⟨dd, hdde⟩ : ∃ t, t = dn.getD m false := ⟨_, rfl⟩
       rw [← hdde] at b2
       have HDd := Lib.hid hdde
       clear hmt hdde
       cases dd with
       | false =>
        have HR2 := Lib.hid (HSk.out (.inr ⟨hm, HDd.out.symm⟩))
        clear hbr hm a2
        go_wp2
        go_roundw
        case rel => exact ⟨i + 1, h, dn, by omega, by go_num, HA.out, HBr.out, HI.out, HR2.out, HB.out⟩
        case measure => simp [intOf]; omega
       | true =>
        have hdd : dn.getD m false = true := HDd.out.symm
        have HLo := Lib.hid (HLw.out.trans (if_neg hm))
        have HD := Lib.hid (show (m : Int) = -1 ∨ dn.getD m false = true from .inr hdd)
        have hlb := HLm.out HD.out
        rw [HLo.out] at hlb
        have HMo := Lib.hid (show mostR r i = mostK r i r.length from rfl)
        have hmb := (mostK_bound HG.out i r.length (Nat.le_refl _)).2
        rw [HMo.out] at hlb
        have HSp := Lib.hid (fun t ht => HStp.out HDb.out.symm HD.out t ht)
        rw [HLo.out, HMo.out] at HSp
        generalize h.getD m 0 = hv at *
        have w12 : IntKind.i64.wrap (hv + ls) = hv + ls := IntWalk.i64_in _ (by omega)
        have HLB := Lib.hid hlb
        have HMB := Lib.hid hmb
        clear hlb hmb
        clear hm hdd
        go_upto_region 12 with (fail)
        go_quiet (fail)
        obtain ⟨wn, hwn⟩ : ∃ X, X = wr.drewN nq := ⟨_, rfl⟩
        have HA' := Lib.hid (show LArr wn w.heap.size h by rw [hwn]; exact HA.out)
        have HBr' := Lib.hid (show BArr wn (w.heap.size + 1) dn by rw [hwn]; exact HBr.out)
        have HB' := Lib.hid (show Below w.heap.size w wn by rw [hwn]; exact below_drewN HB.out nq)
        have HDv' := Lib.hid (fun X (hq : Qt wn X) j hj => HDv.out X ((show Qt wr wn from ⟨nq, hwn⟩).trans hq) j hj)
        rw [← hwn]
        clear hwn HA HBr HB HDv n1 n2 a2 b1 b2 hbr
        obtain ⟨HA, HBr, HB, HDv⟩ := And.intro HA' (And.intro HBr' (And.intro HB' HDv'))
        clear HA' HBr' HB' HDv'
        go_wp2
        obtain ⟨wz, hwz⟩ : ∃ X, X = wn := ⟨_, rfl⟩
        rw [← hwz] at HA HBr HB HDv ⊢
        clear hwz 
        go_loopw [10, 11] (fun mv kv wy => ∃ q : Nat, q ≤ r.length ∧ kv = .int .i64 q ∧ mv = .int .i64 (mostK r i q) ∧ Qt wz wy) (fun _ kv _ => r.length - (intOf kv).toNat)
        case atStart => exact ⟨0, Nat.zero_le _, rfl, rfl, Qt.refl _⟩
        case round =>
         obtain ⟨q, hq, rfl, rfl, hqt⟩ := hrel
         by_cases hlq : q < r.length
         ·have HDq := Lib.hid (HDv.out _ hqt q hlq)
          have hdb := drop_le HG.out (i := i) hlq
          have hda := (drop_ge HG.out (i := i) hlq).1
          have hmk := mostK_bound HG.out i q hq
          have HMS := Lib.hid (mostK_succ r i q)
          have HQ := Lib.hid hqt
          clear hqt
          generalize mostK r i q = mk at *
          generalize dropR r q i = dq at *
          go_wp2_with (go_at_call 42; refine HDq.out.mono ?_; rintro e w5 ⟨rfl, hq5⟩)
          go_roundw
          case rel => exact ⟨q + 1, by omega, by go_num, by rw [HMS.out], HQ.out.trans hq5⟩
          case measure => simp [intOf]; omega
         ·have hqn : q = r.length := by omega
          subst hqn
          have HTi := Lib.hid (HT.out _ (HB.out.trans (hqt.below _)) i (by omega))
          have htb := HTn.out i
          have HA5 := Lib.hid (show LArr _ w.heap.size h from ((hqt.below (wz.heap.size)).block _ (lt_of_block HA.out)).trans HA.out)
          have HB5 := Lib.hid (show BArr _ (w.heap.size + 1) dn from ((hqt.below (wz.heap.size)).block _ (lt_of_block HBr.out)).trans HBr.out)
          have HBb := Lib.hid (HB.out.trans (hqt.below _))
          have HSq := Lib.hid (HSp.out (turnF x i) htb.1)
          have hlb := HLB.out
          have hmb := HMB.out
          clear hqt hlq hq
          generalize turnF x i = tt at *
          generalize mostK r i r.length = mk at *
          have a0 := HA5.out.cell hil
          have f0 := IArr.frozen HA5.out i
          have b0 := HB5.out.cell hid
          have g0 := HB5.out.frozen i
          obtain ⟨ho, hho⟩ : ∃ o, o = h.getD i 0 := ⟨_, rfl⟩
          obtain ⟨bo, hbo⟩ : ∃ o, o = dn.getD i false := ⟨_, rfl⟩
          rw [← hho] at a0
          rw [← hbo] at b0
          clear hho hbo
          have w0 : IntKind.i64.wrap ((hv + ls) + tt) = (hv + ls) + tt := IntWalk.i64_in _ (by omega)
          go_wp2_with (go_at_call 43; refine HTi.out.mono ?_; rintro e w6 ⟨rfl, hw6⟩; subst hw6)
          go_roundw
          case rel =>
           refine ⟨i + 1, _, _, by omega, by go_num, ?_, ?_, HSq.out, HSt.out, ?_⟩
           ·exact (Below.heap_setCell _ _ _ _ (by show w.heap.size ≠ w.heap.size + 1; omega)).trans (by have := HA5.out.set_ hil (min mk ((hv + ls) + tt)); exact this)
           ·exact BArr.set_ ((Below.heap_setCell _ _ _ _ (by show w.heap.size + 1 ≠ w.heap.size; omega)).trans HB5.out) i true
           ·exact (HBb.out.setCell (Nat.le_refl _) _).setCell (by show w.heap.size ≤ w.heap.size + 1; omega) _
          case measure => simp [intOf]; omega
    ·have hin : i = r.length := by omega
     subst hin
     have HR2 := Lib.hid (anyR_round hR)
     have HA := Lib.hid ha
     have HBr := Lib.hid hbr
     have HI := Lib.hid hI
     have HB := Lib.hid hb
     clear ha hbr hI hR hb
     go_wp2
     go_roundw
     case rel => exact ⟨n + 1, h, dn, by omega, by go_num, HA.out, HBr.out, HI.out, HR2.out, HB.out⟩
     case measure => simp [intOf]; omega
  ·have hnn : n = r.length := by omega
   subst hnn
   have HD := Lib.hid (any_done hI (anyR_all HG.out hR) HG.out)
   have HHl := Lib.hid hI.hl
   have HA := Lib.hid ha
   have HB := Lib.hid hb
   clear ha hbr hI hR hb
   go_wp2
   go_ret
   exact ⟨w.heap.size, h, rfl, HHl.out, HD.out.1, HD.out.2, HA.out, Nat.le_refl _, HB.out⟩
end Go.Proofs.YthnimhnlnddnoaaGreatDoor
