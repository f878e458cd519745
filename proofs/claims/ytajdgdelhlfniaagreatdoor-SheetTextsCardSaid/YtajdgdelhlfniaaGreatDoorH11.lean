/- Walks of the layer sheet: bounds of all notes; open. Walks of the layer sheet: open, Fits. -/
import Derived.Test.YtajdgdelhlfniaaGreatDoorH10
import Derived.WalkKit
import Derived.Deep.Quiet
set_option linter.unusedSimpArgs false
set_option linter.unusedVariables false
namespace Go.Proofs.YtajdgdelhlfniaaGreatDoor
open Go.RowKit

theorem results95 {w : World} {g : Nat} {m : Mat} {r : Bool} {tmps : Array Value} (h1 : MatAt w g 93 m) (t1 : tmps[4]?.getD undef = .pointer (some ⟨g, 0, none⟩)) (t2 : tmps[5]?.getD undef = .bool r) :
    (results Tryz.f95 tmps).run Tryz.prog w = .ok (.tuple #[.agg (matC m), .bool r]) w := by
  have hl := load_mat h1
  clear h1
  generalize matC m = cs at *
  simp [results, Tryz.results95, t1, t2, asAddr, hl]

/-- bounds of a sheet whose notes are wider -/
def boundsF (s : ShR) (wd : Int) : Mat × Bool := allM s.iv wd s.notes freeM
theorem allM_take {iv wd : Int} {l : List NoteR} {b : Mat} {k : Nat} (hk : k < l.length) (h : (allM iv wd (l.take k) b).2 = true) : allM iv wd (l.take (k + 1)) b = withM iv wd (allM iv wd (l.take k) b).1 (l.getD k default) := by
  rw [take_succ_getD hk default, allM_snoc _ _ _ _ _ h]
theorem allM_take_no {iv wd : Int} {l : List NoteR} {b : Mat} {k : Nat} (h : (allM iv wd (l.take k) b).2 = false) : allM iv wd l b = allM iv wd (l.take k) b := by
  conv => lhs; rw [← List.take_append_drop k l]
  exact allM_stop _ _ _ _ _ h

set_option maxRecDepth 100000 in
set_option maxHeartbeats 4000000 in
theorem all_any {B : Nat} {w : World} {v : Value} {s : ShR} {wd : Int} (hs : RdSh B w v s) (hg : Good s) (hwd : 0 ≤ wd ∧ wd ≤ 9000) (hB : B ≤ w.heap.size) :
    Calls Tryz.prog 95 #[v, .int .i64 wd] w fun e w' => e = .returned (.tuple #[.agg (matC (boundsF s wd).1), .bool (boundsF s wd).2]) ∧ Below w.heap.size w w' := by
  obtain ⟨vp, vn, rfl, hp, ho⟩ := id hs
  obtain ⟨An, cn, rfl, h5, h6, _⟩ := id ho
  obtain ⟨W1, hW1, r1, z1, d1⟩ := box_any w #[.int .i64 s.iv, vp, .slice An s.notes.length cn] 104
  obtain ⟨W2, hW2, r2, z2, d2⟩ := box_any W1 (matC zeroM) 93
  have c0 : W2.heap[w.heap.size]? = some (.cells #[.int .i64 s.iv, vp, .slice An s.notes.length cn] 104) := (d2.block _ (by omega)).trans r1
  have m2 : MatAt W2 (w.heap.size + 1) 93 zeroM := by have := r2; rwa [z1] at this
  have hb2 : Below w.heap.size w W2 := d1.trans (d2.mono (by omega))
  have hz2 : W2.heap.size = w.heap.size + 2 := by omega
  have C0 := Lib.hid c0
  have M2 := Lib.hid m2
  have HB2 := Lib.hid hb2
  have HZ := Lib.hid hz2
  have HS := Lib.hid hs
  clear c0 m2 hb2 hz2 r1 r2 z1 z2 d1 d2 hs hp ho h5 h6
  go_enter Tryz.func95, Tryz.ntmps95
  go_upto_region 1 with (refine wpList_alloc_mat rfl rfl ?_; intro W3 hW3 hm3 hb3 hz3)
  clear hW3 hm3 hb3 hz3
  rw [← hW1, ← hW2]
  clear hW1 hW2
  go_upto_region 2 with (first | (go_at_call 76; refine (free_any _).mono ?_; rintro e w3 ⟨rfl, hb3⟩) | (refine wpList_store_mat rfl _ _ rfl rfl rfl (M2.out.below hb3) ?_; intro w4 hm4 hg4))
  have hm4 : MatAt w4 (w.heap.size + 1) 93 freeM := hm4
  have hg4' : w3.grownBy w4 (some (w.heap.size + 1)) := hg4
  have hb4 : Below w.heap.size w w4 := HB2.out.trans ((hb3.mono HB2.out.size).trans (grown_below hg4' (by omega) (by have := HB2.out.size; have := hb3.size; omega)))
  have k4 : w4.heap[w.heap.size]? = some (.cells #[.int .i64 s.iv, vp, .slice An s.notes.length cn] 104) := by
    have h1 := (hb3.block _ (lt_of_block C0.out)).trans C0.out
    exact (hg4'.block _ (lt_of_block h1) (by simp)).trans h1
  have HM4 := Lib.hid hm4
  have HB4 := Lib.hid hb4
  have HK4 := Lib.hid k4
  clear hm4 hg4 hg4' hb4 hb3 C0 M2 HB2 k4
  have q2 := cellOf HK4.out 2 rfl
  go_wp2
  clear q2
  go_loopw [12] (fun i wr => ∃ k : Nat, k ≤ s.notes.length ∧ i = .int .i64 k ∧ (allM s.iv wd (s.notes.take k) freeM).2 = true ∧ MatAt wr (w.heap.size + 1) 93 (allM s.iv wd (s.notes.take k) freeM).1 ∧ Below w.heap.size w wr ∧
    wr.heap[w.heap.size]? = some (.cells #[.int .i64 s.iv, vp, .slice An s.notes.length cn] 104)) (fun i _ => s.notes.length - (intOf i).toNat)
  case atStart => exact ⟨0, Nat.zero_le _, rfl, rfl, HM4.out, HB4.out, HK4.out⟩
  case round =>
    obtain ⟨k, hk, rfl, hok, hm, hbr, hkr⟩ := hrel
    have HOK := Lib.hid hok
    have HM := Lib.hid hm
    have HBR := Lib.hid hbr
    have HKR := Lib.hid hkr
    have hnl := hg.nlen
    by_cases hlt : k < s.notes.length
    · have q0 := cellOf hkr 0 rfl
      have q1 := cellOf hkr 1 rfl
      have q2 := cellOf hkr 2 rfl
      have hfine := allM_fine (iv := s.iv) (wd := wd) hg.plen.2 (l := s.notes.take k) (fun x hx => hg.notes x (List.mem_of_mem_take hx)) free_fine
      have hcall := with_any (w := wr) (b := (allM s.iv wd (s.notes.take k) freeM).1) (i := k) (HS.out.below (hbr.mono hB)) hg hlt hfine hwd (by have := hbr.size; omega)
      rw [← allM_take hlt hok] at hcall
      have HC := Lib.hid hcall
      clear hfine hcall hok hbr hkr
      generalize hcur : (allM s.iv wd (s.notes.take k) freeM).1 = cur at *
      clear hcur
      cases hnx : (allM s.iv wd (s.notes.take (k + 1)) freeM).2 with
      | true =>
        have HNX := Lib.hid hnx
        rw [hnx] at HC
        clear hnx
        go_wp2_with (first | (refine wpList_load_mat rfl _ rfl rfl hm ?_) | (go_at_call 77; refine HC.out.mono ?_; rintro e w5 ⟨rfl, hb5⟩) | (refine wpList_store_mat rfl _ _ rfl rfl rfl (HM.out.below hb5) ?_; intro w6 hm6 hg6))
        have hm6 : MatAt w6 (w.heap.size + 1) 93 (allM s.iv wd (s.notes.take (k + 1)) freeM).1 := hm6
        have hg6 : w5.grownBy w6 (some (w.heap.size + 1)) := hg6
        have hs5 := HBR.out.size
        have hs6 := hb5.size
        refine ⟨⟨k + 1, by omega, by go_num, HNX.out, hm6, ?_, ?_⟩, by simp [intOf]; omega⟩
        · exact HBR.out.trans ((hb5.mono HBR.out.size).trans (grown_below hg6 (by omega) (by omega)))
        · have h1 := (hb5.block _ (lt_of_block HKR.out)).trans HKR.out
          exact (hg6.block _ (lt_of_block h1) (by simp)).trans h1
      | false =>
        have hend := Lib.hid (show boundsF s wd = allM s.iv wd (s.notes.take (k + 1)) freeM from allM_take_no hnx)
        rw [hnx] at HC
        have HNX := Lib.hid hnx
        clear hnx
        go_upto_region 7 with (first | (refine wpList_load_mat rfl _ rfl rfl hm ?_) | (go_at_call 77; refine HC.out.mono ?_; rintro e w5 ⟨rfl, hb5⟩) | (refine wpList_store_mat rfl _ _ rfl rfl rfl (HM.out.below hb5) ?_; intro w6 hm6 hg6))
        have hm6 : MatAt w6 (w.heap.size + 1) 93 (allM s.iv wd (s.notes.take (k + 1)) freeM).1 := hm6
        go_wp2_with (first | (refine wpList_load_mat rfl _ rfl rfl hm6 ?_) | (refine wpList_store_mat rfl _ _ rfl rfl rfl hm6 ?_; intro w7 hm7 hg7))
        have hg6 : w5.grownBy w6 (some (w.heap.size + 1)) := hg6
        have hg7 : w6.grownBy w7 (some (w.heap.size + 1)) := hg7
        have hs5 := HBR.out.size
        have hs6 := hb5.size
        have hs7 := hg6.size
        refine bodyPost_ret (results95 hm7 rfl rfl) rfl ⟨?_, ?_⟩
        · rw [hend.out, HNX.out]
        · exact HBR.out.trans ((hb5.mono HBR.out.size).trans ((grown_below hg6 (by omega) (by omega)).trans (grown_below hg7 (by omega) (by omega))))
    · have hk2 : k = s.notes.length := by omega
      have hend : boundsF s wd = allM s.iv wd (s.notes.take k) freeM := by unfold boundsF; rw [hk2, List.take_length]
      have HE := Lib.hid hend
      clear hend hk2 hok
      go_wp2_with (first | (refine wpList_load_mat rfl _ rfl rfl hm ?_) | (refine wpList_store_mat rfl _ _ rfl rfl rfl hm ?_; intro w7 hm7 hg7))
      have hg7 : wr.grownBy w7 (some (w.heap.size + 1)) := hg7
      have hs5 := HBR.out.size
      refine bodyPost_ret (results95 hm7 rfl rfl) rfl ⟨?_, ?_⟩
      · rw [HE.out, HOK.out]
      · exact HBR.out.trans (grown_below hg7 (by omega) (by omega))
end Go.Proofs.YtajdgdelhlfniaaGreatDoor
namespace Go.Proofs.YtajdgdelhlfniaaGreatDoor
open Go.RowKit

theorem rangeErr_range (lo hi low high : Int) : 0 ≤ rangeErr lo hi low high ∧ rangeErr lo hi low high ≤ 7 := by
  unfold rangeErr
  split
  · omega
  · split <;> omega
theorem noteErr_range (np : Nat) (iv : Int) (x : NoteR) : 0 ≤ noteErr np iv x ∧ noteErr np iv x ≤ 7 := by
  have h1 := rangeErr_range x.lo x.hi 0 9000
  have h2 := rangeErr_range x.lo x.hi (-9000) 9000
  have h3 := rangeErr_range x.lo x.hi 0 0
  have h4 := rangeErr_range x.lo x.hi 0 (9000 / iv)
  unfold noteErr
  split
  · omega
  · split
    · omega
    · split
      · omega
      · split
        · exact h1
        · split
          · exact h2
          · split
            · exact h3
            · split
              · exact h4
              · split <;> omega
theorem ptErr_range (s : ShR) (i : Nat) : 0 ≤ ptErr s i ∧ ptErr s i ≤ 7 := by
  unfold ptErr freshErr
  split
  · omega
  · split <;> omega
theorem errOf_range (s : ShR) : 0 ≤ errOf s ∧ errOf s ≤ 7 := by
  unfold errOf
  rcases check_cases s with ⟨_, e⟩ | ⟨_, _, e⟩ | ⟨_, _, i, _, h3, _, e⟩ | ⟨_, _, _, _, e⟩ | ⟨_, _, _, _, i, _, h3, _, e⟩ | ⟨h1, h2, h3, h4, h5, e⟩
  all_goals rw [e]
  · exact ⟨by show (0 : Int) ≤ 7; omega, by show (7 : Int) ≤ 7; omega⟩
  · exact ⟨by show (0 : Int) ≤ 3; omega, by show (3 : Int) ≤ 7; omega⟩
  · exact ptErr_range s i
  · exact ⟨by show (0 : Int) ≤ 3; omega, by show (3 : Int) ≤ 7; omega⟩
  · exact noteErr_range _ _ _
  · exact ⟨by show (0 : Int) ≤ 0; omega, by show (0 : Int) ≤ 7; omega⟩
/-- the bounds of a sheet and its error -/
def openM (s : ShR) : Mat := if errOf s ≠ 0 then zeroM else (boundsF s 0).1
def openE (s : ShR) : Int := if errOf s ≠ 0 then errOf s else if (boundsF s 0).2 = false then 9 else 0
theorem results68 {w : World} {g : Nat} {m : Mat} {r : Int} {tmps : Array Value} (h1 : MatAt w g 93 m) (t1 : tmps[2]?.getD undef = .pointer (some ⟨g, 0, none⟩)) (t2 : tmps[3]?.getD undef = .int .i64 r) :
    (results Tryz.f68 tmps).run Tryz.prog w = .ok (.tuple #[.agg (matC m), .int .i64 r]) w := by
  have hl := load_mat h1
  clear h1
  generalize matC m = cs at *
  simp [results, Tryz.results68, t1, t2, asAddr, hl]

set_option maxRecDepth 100000 in
set_option maxHeartbeats 4000000 in
theorem open_any {B : Nat} {w : World} {v : Value} {s : ShR} (hs : RdSh B w v s) (hn : Named s) (hB : B ≤ w.heap.size) :
    Calls Tryz.prog 68 #[v] w fun e w' => e = .returned (.tuple #[.agg (matC (openM s)), .int .i64 (openE s)]) ∧ Below w.heap.size w w' := by
  obtain ⟨vp, vn, rfl, hp, ho⟩ := id hs
  obtain ⟨An, cn, rfl, h5, h6, _⟩ := id ho
  obtain ⟨W1, hW1, r1, z1, d1⟩ := box_any w #[.int .i64 s.iv, vp, .slice An s.notes.length cn] 25
  obtain ⟨W2, hW2, r2, z2, d2⟩ := box_any W1 (matC zeroM) 93
  have c0 : W2.heap[w.heap.size]? = some (.cells #[.int .i64 s.iv, vp, .slice An s.notes.length cn] 25) := (d2.block _ (by omega)).trans r1
  have m2 : MatAt W2 (w.heap.size + 1) 93 zeroM := by have := r2; rwa [z1] at this
  have hb2 : Below w.heap.size w W2 := d1.trans (d2.mono (by omega))
  have C0 := Lib.hid c0
  have M2 := Lib.hid m2
  have HB2 := Lib.hid hb2
  have HZ := Lib.hid (show W2.heap.size = w.heap.size + 2 by omega)
  have HC := Lib.hid (pcheck_any (hs.below (hb2.mono hB)) hn (Nat.le_trans hB hb2.size))
  have HS := Lib.hid hs
  clear c0 m2 hb2 r1 r2 z1 z2 d1 d2 hs hp ho h5 h6
  unfold checkV at HC
  have heo : errOf s = (check s).2.2 := rfl
  rw [← heo] at HC
  generalize (check s).1 = e1 at *
  generalize (check s).2.1 = e2 at *
  clear heo
  have q0 := cellOf C0.out 0 rfl
  have q1 := cellOf C0.out 1 rfl
  have q2 := cellOf C0.out 2 rfl
  by_cases he : errOf s = 0
  · have hv : Valid s := he
    have hg := good_of_valid hv
    have hne : (errOf s != 0) = false := by simp [he]
    have HE := Lib.hid he
    clear he
    cases hbd : (boundsF s 0).2 with
    | true =>
      have HA := Lib.hid (fun (W : World) (hb : Below W2.heap.size W2 W) => all_any (w := W) (wd := 0) (HS.out.below ((HB2.out.trans (hb.mono HB2.out.size)).mono hB)) hg ⟨by omega, by omega⟩ (Nat.le_trans hB (Nat.le_trans HB2.out.size hb.size)))
      rw [hbd] at HA
      have HR := Lib.hid (show openM s = (boundsF s 0).1 ∧ openE s = 0 from ⟨by unfold openM; rw [if_neg (by simp [HE.out])], by unfold openE; rw [if_neg (by simp [HE.out]), if_neg (by simp [hbd])]⟩)
      clear hbd hv
      go_enter Tryz.func68, Tryz.ntmps68
      go_upto_region 1 with (refine wpList_alloc_mat rfl rfl ?_; intro W3 hW3 hm3 hb3 hz3)
      clear hW3 hm3 hb3 hz3
      rw [← hW1, ← hW2]
      clear hW1 hW2
      go_upto_region 4 with (go_at_call 16; refine HC.out.mono ?_; rintro e w3 ⟨rfl, hb3⟩)
      have k3 := (hb3.block _ (lt_of_block C0.out)).trans C0.out
      have q0 := cellOf k3 0 rfl
      have q1 := cellOf k3 1 rfl
      have q2 := cellOf k3 2 rfl
      clear k3
      go_wp2_with (first | (go_at_call 95; refine (HA.out _ hb3).mono ?_; rintro e w4 ⟨rfl, hb4⟩; have hm4 := (M2.out.below hb3).below hb4) | (refine wpList_load_mat rfl _ rfl rfl hm5 ?_) | (refine wpList_store_mat rfl _ _ rfl rfl rfl hm4 ?_; intro w5 hm5 hg5) | (refine wpList_store_mat rfl _ _ rfl rfl rfl hm5 ?_; intro w6 hm6 hg6))
      have hg5 : w4.grownBy w5 (some (w.heap.size + 1)) := hg5
      have hg6 : w5.grownBy w6 (some (w.heap.size + 1)) := hg6
      have z2 := HB2.out.size
      have z3 := hb3.size
      have z4 := hb4.size
      have z5 := hg5.size
      refine bodyPost_ret (results68 hm6 rfl rfl) rfl ⟨?_, ?_⟩
      · rw [HR.out.1, HR.out.2]
      · exact HB2.out.trans ((hb3.mono z2).trans ((hb4.mono (by omega)).trans ((grown_below hg5 (by omega) (by omega)).trans (grown_below hg6 (by omega) (by omega)))))
    | false =>
      have HA := Lib.hid (fun (W : World) (hb : Below W2.heap.size W2 W) => all_any (w := W) (wd := 0) (HS.out.below ((HB2.out.trans (hb.mono HB2.out.size)).mono hB)) hg ⟨by omega, by omega⟩ (Nat.le_trans hB (Nat.le_trans HB2.out.size hb.size)))
      rw [hbd] at HA
      have HR := Lib.hid (show openM s = (boundsF s 0).1 ∧ openE s = 9 from ⟨by unfold openM; rw [if_neg (by simp [HE.out])], by unfold openE; rw [if_neg (by simp [HE.out]), if_pos hbd]⟩)
      clear hbd hv
      go_enter Tryz.func68, Tryz.ntmps68
      go_upto_region 1 with (refine wpList_alloc_mat rfl rfl ?_; intro W3 hW3 hm3 hb3 hz3)
      clear hW3 hm3 hb3 hz3
      rw [← hW1, ← hW2]
      clear hW1 hW2
      go_upto_region 4 with (go_at_call 16; refine HC.out.mono ?_; rintro e w3 ⟨rfl, hb3⟩)
      have k3 := (hb3.block _ (lt_of_block C0.out)).trans C0.out
      have q0 := cellOf k3 0 rfl
      have q1 := cellOf k3 1 rfl
      have q2 := cellOf k3 2 rfl
      clear k3
      go_wp2_with (first | (go_at_call 95; refine (HA.out _ hb3).mono ?_; rintro e w4 ⟨rfl, hb4⟩; have hm4 := (M2.out.below hb3).below hb4) | (refine wpList_load_mat rfl _ rfl rfl hm5 ?_) | (refine wpList_store_mat rfl _ _ rfl rfl rfl hm4 ?_; intro w5 hm5 hg5) | (refine wpList_store_mat rfl _ _ rfl rfl rfl hm5 ?_; intro w6 hm6 hg6))
      have hg5 : w4.grownBy w5 (some (w.heap.size + 1)) := hg5
      have hg6 : w5.grownBy w6 (some (w.heap.size + 1)) := hg6
      have z2 := HB2.out.size
      have z3 := hb3.size
      have z4 := hb4.size
      have z5 := hg5.size
      refine bodyPost_ret (results68 hm6 rfl rfl) rfl ⟨?_, ?_⟩
      · rw [HR.out.1, HR.out.2]
      · exact HB2.out.trans ((hb3.mono z2).trans ((hb4.mono (by omega)).trans ((grown_below hg5 (by omega) (by omega)).trans (grown_below hg6 (by omega) (by omega)))))
  · have hne : (errOf s != 0) = true := by simp [he]
    have HR := Lib.hid (show openM s = zeroM ∧ openE s = errOf s from ⟨by unfold openM; rw [if_pos he], by unfold openE; rw [if_pos he]⟩)
    clear he
    go_enter Tryz.func68, Tryz.ntmps68
    go_upto_region 1 with (refine wpList_alloc_mat rfl rfl ?_; intro W3 hW3 hm3 hb3 hz3)
    clear hW3 hm3 hb3 hz3
    rw [← hW1, ← hW2]
    clear hW1 hW2
    go_wp2_with (first | (go_at_call 16; refine HC.out.mono ?_; rintro e w3 ⟨rfl, hb3⟩; have hm4 := M2.out.below hb3) | (refine wpList_load_mat rfl _ rfl rfl hm4 ?_) | (refine wpList_store_mat rfl _ _ rfl rfl rfl hm4 ?_; intro w5 hm5 hg5))
    have hg5 : w3.grownBy w5 (some (w.heap.size + 1)) := hg5
    have z2 := HB2.out.size
    have z3 := hb3.size
    refine bodyPost_ret (results68 hm5 rfl rfl) rfl ⟨?_, ?_⟩
    · rw [HR.out.1, HR.out.2]
    · exact HB2.out.trans ((hb3.mono z2).trans (grown_below hg5 (by omega) (by omega)))

/-- whether a sheet fits, and its error -/
def fitsB (s : ShR) : Bool := decide (openE s = 0)
theorem openE_err {s : ShR} (h : errOf s ≠ 0) : openE s = errOf s := by unfold openE; rw [if_pos h]
theorem openE_ok {s : ShR} (h : errOf s = 0) : openE s = if (boundsF s 0).2 = false then 9 else 0 := by unfold openE; rw [if_neg (by simp [h])]

set_option maxRecDepth 100000 in
set_option maxHeartbeats 4000000 in
theorem fits_any {B : Nat} {w : World} {v : Value} {s : ShR} (hs : RdSh B w v s) (hn : Named s) (hB : B ≤ w.heap.size) :
    Calls Tryz.prog 21 #[v] w fun e w' => e = .returned (.tuple #[.bool (fitsB s), .int .i64 (errOf s)]) ∧ Below w.heap.size w w' := by
  obtain ⟨vp, vn, rfl, hp, ho⟩ := id hs
  obtain ⟨W1, hW1, r1, z1, d1⟩ := box_any w #[.int .i64 s.iv, vp, vn] 25
  have HO := Lib.hid (open_any (hs.below (d1.mono hB)) hn (Nat.le_trans hB d1.size))
  have HB1 := Lib.hid d1
  have HR1 := Lib.hid r1
  have HC := Lib.hid (fun (W : World) (hb : Below W1.heap.size W1 W) => pcheck_any (w := W) (hs.below ((d1.trans (hb.mono d1.size)).mono hB)) hn (Nat.le_trans hB (Nat.le_trans d1.size hb.size)))
  have q0 := cellOf r1 0 rfl
  have q1 := cellOf r1 1 rfl
  have q2 := cellOf r1 2 rfl
  have hrange := errOf_range s
  unfold checkV at HC
  have heo : errOf s = (check s).2.2 := rfl
  rw [← heo] at HC
  generalize (check s).1 = e1 at *
  generalize (check s).2.1 = e2 at *
  clear heo hp ho hs r1 z1 d1
  have hfb : fitsB s = decide (openE s = 0) := rfl
  by_cases he : errOf s = 0
  · have hoe := openE_ok he
    have HE := Lib.hid he
    have hz : (errOf s == 0) = true := by simp [he]
    clear he
    by_cases hb : (boundsF s 0).2 = false
    · rw [if_pos hb] at hoe
      have HF := Lib.hid (show fitsB s = false by rw [hfb, hoe]; rfl)
      rw [hoe] at HO
      clear hoe hfb hb
      go_enter Tryz.func21, Tryz.ntmps21
      go_upto_region 1 with (fail)
      rw [← hW1]
      clear hW1
      go_upto_region 2 with (first | (go_at_call 68; refine HO.out.mono ?_; rintro e w3 ⟨rfl, hb3⟩) | (refine wpList_alloc_mat rfl rfl ?_; intro w4 hw4 hm4 hb4 hz4) | (refine wpList_store_mat rfl _ _ rfl rfl rfl hm4 ?_; intro w5 hm5 hg5))
      have hg5 : w4.grownBy w5 (some w3.heap.size) := hg5
      have z1 := HB1.out.size
      have z3 := hb3.size
      have hlt := lt_of_block HR1.out
      have hb5 : Below W1.heap.size W1 w5 := hb3.trans ((hb4.mono (by omega)).trans (grown_below hg5 (by omega) (by omega)))
      have k5 := (hb5.block _ hlt).trans HR1.out
      have q0 := cellOf k5 0 rfl
      have q1 := cellOf k5 1 rfl
      have q2 := cellOf k5 2 rfl
      have HB5 := Lib.hid hb5
      have Z1 := Lib.hid z1
      clear k5 hlt hb5 z1 z3 hg5 hm5 hb4 hm4 hw4 hz4 hb3
      go_wp2_with (go_at_call 16; refine (HC.out _ HB5.out).mono ?_; rintro e w6 ⟨rfl, hb6⟩)
      go_ret2
      exact ⟨by rw [HF.out, HE.out]; rfl, HB1.out.trans ((HB5.out.trans (hb6.mono HB5.out.size)).mono Z1.out)⟩
    · rw [if_neg hb] at hoe
      have HF := Lib.hid (show fitsB s = true by rw [hfb, hoe]; rfl)
      rw [hoe] at HO
      clear hoe hfb hb
      go_enter Tryz.func21, Tryz.ntmps21
      go_upto_region 1 with (fail)
      rw [← hW1]
      clear hW1
      go_upto_region 2 with (first | (go_at_call 68; refine HO.out.mono ?_; rintro e w3 ⟨rfl, hb3⟩) | (refine wpList_alloc_mat rfl rfl ?_; intro w4 hw4 hm4 hb4 hz4) | (refine wpList_store_mat rfl _ _ rfl rfl rfl hm4 ?_; intro w5 hm5 hg5))
      have hg5 : w4.grownBy w5 (some w3.heap.size) := hg5
      have z1 := HB1.out.size
      have z3 := hb3.size
      have hlt := lt_of_block HR1.out
      have hb5 : Below W1.heap.size W1 w5 := hb3.trans ((hb4.mono (by omega)).trans (grown_below hg5 (by omega) (by omega)))
      have k5 := (hb5.block _ hlt).trans HR1.out
      have q0 := cellOf k5 0 rfl
      have q1 := cellOf k5 1 rfl
      have q2 := cellOf k5 2 rfl
      have HB5 := Lib.hid hb5
      have Z1 := Lib.hid z1
      clear k5 hlt hb5 z1 z3 hg5 hm5 hb4 hm4 hw4 hz4 hb3
      go_wp2
      go_ret2
      exact ⟨by rw [HF.out, HE.out]; rfl, HB1.out.trans (HB5.out.mono Z1.out)⟩
  · have hoe := openE_err he
    rw [hoe] at HO
    have HF := Lib.hid (show fitsB s = false by rw [hfb, hoe]; simp [he])
    have h9 : (errOf s == 9) = false := by simp; omega
    have h0 : (errOf s == 0) = false := by simp [he]
    clear hoe hfb he hrange
    go_enter Tryz.func21, Tryz.ntmps21
    go_upto_region 1 with (fail)
    rw [← hW1]
    clear hW1
    go_upto_region 2 with (first | (go_at_call 68; refine HO.out.mono ?_; rintro e w3 ⟨rfl, hb3⟩) | (refine wpList_alloc_mat rfl rfl ?_; intro w4 hw4 hm4 hb4 hz4) | (refine wpList_store_mat rfl _ _ rfl rfl rfl hm4 ?_; intro w5 hm5 hg5))
    have hg5 : w4.grownBy w5 (some w3.heap.size) := hg5
    have z1 := HB1.out.size
    have z3 := hb3.size
    have hlt := lt_of_block HR1.out
    have hb5 : Below W1.heap.size W1 w5 := hb3.trans ((hb4.mono (by omega)).trans (grown_below hg5 (by omega) (by omega)))
    have k5 := (hb5.block _ hlt).trans HR1.out
    have q0 := cellOf k5 0 rfl
    have q1 := cellOf k5 1 rfl
    have q2 := cellOf k5 2 rfl
    have HB5 := Lib.hid hb5
    have Z1 := Lib.hid z1
    clear k5 hlt hb5 z1 z3 hg5 hm5 hb4 hm4 hw4 hz4 hb3
    go_wp2
    go_ret2
    exact ⟨by rw [HF.out]; rfl, HB1.out.trans (HB5.out.mono Z1.out)⟩
end Go.Proofs.YtajdgdelhlfniaaGreatDoor
