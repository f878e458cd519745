/- Walks of the layer sheet: search, Proof, Wrong. -/
import Derived.Test.YtajdgdelhlfniaaGreatDoorSrch4
import Derived.Test.YtajdgdelhlfniaaGreatDoorHeights
import Derived.WalkKit
import Derived.Deep.Quiet
set_option linter.unusedSimpArgs false
set_option linter.unusedVariables false
namespace Go.Proofs.YtajdgdelhlfniaaGreatDoor
open Go.RowKit

/-- the list that the search returns -/
def searchF (s : ShR) (left : Bool) : List Int := (tryS s.iv s.notes left s.notes.length freeM false [] (false, [])).2
theorem results74 {w : World} {g : Nat} {v : Value} {tmps : Array Value} (h1 : w.cell? ⟨g, 0, none⟩ = some v) (t1 : tmps[4]?.getD undef = .pointer (some ⟨g, 0, none⟩)) :
    (results Tryz.f74 tmps).run Tryz.prog w = .ok v w := by
  have hl : (loadVar 43 ⟨g, 0, none⟩).run Tryz.prog w = .ok v w := by
    simp [loadVar, go_sem, h1]
  simp [results, Tryz.results74, t1, asAddr, hl]

set_option maxRecDepth 100000 in
set_option maxHeartbeats 4000000 in
theorem search_any {B : Nat} {w : World} {v : Value} {s : ShR} (left : Bool) (hs : RdSh B w v s) (hg : Good s) (hB : B ≤ w.heap.size) :
    Calls Tryz.prog 74 #[v, .bool left] w fun e w' => ∃ A c, e = .returned (.slice A (searchF s left).length c) ∧ Own w.heap.size 3 w' (.slice A (searchF s left).length c) (searchF s left) ∧ Below w.heap.size w w' := by
  obtain ⟨vp, vn, rfl, hp, ho⟩ := id hs
  obtain ⟨An, cn, rfl, h5, h6, _⟩ := id ho
  obtain ⟨W0, hW0, r0, z0, d0⟩ := box_any w #[.int .i64 s.iv, vp, .slice An s.notes.length cn] 104
  obtain ⟨W1, hW1, r1, z1, d1⟩ := box_any W0 #[.bool left] 4
  obtain ⟨W2, hW2, r2, z2, d2⟩ := box_any W1 #[.slice none 0 0] 43
  obtain ⟨W3, hW3, r3, z3, d3⟩ := box_any W2 #[.bool false] 4
  obtain ⟨W4, hW4, r4, z4, d4⟩ := box_any W3 #[.slice none 0 0] 43
  obtain ⟨W5, hW5, r5, z5, d5⟩ := box_any W4 #[.func (.func 97) #[] #[.pointer (some ⟨w.heap.size + 1 + 1 + 1, 0, none⟩), .pointer (some ⟨w.heap.size + 1 + 1 + 1 + 1, 0, none⟩), .pointer (some ⟨w.heap.size + 1 + 1, 0, none⟩), .pointer (some ⟨w.heap.size + 1, 0, none⟩), .pointer (some ⟨w.heap.size, 0, none⟩), .pointer (some ⟨w.heap.size + 1 + 1 + 1 + 1 + 1, 0, none⟩)]] 139
  clear hp ho h5 h6
  go_enter Tryz.func74, Tryz.ntmps74
  go_upto_region 5 with (fail)
  rw [← hW0, ← hW1, ← hW2, ← hW3, ← hW4, ← hW5]
  clear hW0 hW1 hW2 hW3 hW4 hW5
  have k0 : W5.heap[w.heap.size]? = some (.cells #[.int .i64 s.iv, vp, .slice An s.notes.length cn] 104) := (d5.block _ (by omega)).trans ((d4.block _ (by omega)).trans ((d3.block _ (by omega)).trans ((d2.block _ (by omega)).trans ((d1.block _ (by omega)).trans r0))))
  have k1 : W5.heap[w.heap.size + 1]? = some (.cells #[.bool left] 4) := by
    have := (d5.block _ (by omega)).trans ((d4.block _ (by omega)).trans ((d3.block _ (by omega)).trans ((d2.block _ (by omega)).trans r1)))
    rwa [show W0.heap.size = w.heap.size + 1 by omega] at this
  have k2 : W5.heap[w.heap.size + 2]? = some (.cells #[.slice none 0 0] 43) := by
    have := (d5.block _ (by omega)).trans ((d4.block _ (by omega)).trans ((d3.block _ (by omega)).trans r2))
    rwa [show W1.heap.size = w.heap.size + 2 by omega] at this
  have k3 : W5.heap[w.heap.size + 3]? = some (.cells #[.bool false] 4) := by
    have := (d5.block _ (by omega)).trans ((d4.block _ (by omega)).trans r3)
    rwa [show W2.heap.size = w.heap.size + 3 by omega] at this
  have k4 : W5.heap[w.heap.size + 4]? = some (.cells #[.slice none 0 0] 43) := by
    have := (d5.block _ (by omega)).trans r4
    rwa [show W3.heap.size = w.heap.size + 4 by omega] at this
  have k5 : W5.heap[w.heap.size + 5]? = some (.cells #[.func (.func 97) #[] (tryP w.heap.size)] 139) := by
    have := r5
    rwa [show W4.heap.size = w.heap.size + 5 by omega] at this
  have hb5 : Below w.heap.size w W5 := d0.trans ((d1.mono (by omega)).trans ((d2.mono (by omega)).trans ((d3.mono (by omega)).trans ((d4.mono (by omega)).trans (d5.mono (by omega))))))
  have hI : TryI w.heap.size s.iv vp (.slice An s.notes.length cn) left [] (false, []) W5 := ⟨k0, k1, k3, k5, _, _, k4, k2, Own.nil _ _ _, Own.nil _ _ _, fun g hg => by cases hg⟩
  have HI := Lib.hid hI
  have HB5 := Lib.hid hb5
  have HS := Lib.hid hs
  have HK5 := Lib.hid k5
  clear r0 r1 r2 r3 r4 r5 z0 z1 z2 z3 z4 z5 d0 d1 d2 d3 d4 d5 k0 k1 k2 k3 k4 k5 hb5 hI hs
  have g5 := Aft.cell (cellOf HK5.out 0 rfl)
  unfold tryP at g5
  refine region_quiet_tail (C := fun w' => ∃ x : Aft W5, w' = x.1) 2 (by kernel_rfl) (by kernel_rfl) ⟨⟨W5.drew, (Below.refl _ _).drew⟩, rfl⟩ ?_
  simp only [List.take_succ_cons, List.take_zero, List.drop_succ_cons, List.drop_zero]
  repeat (first | go_big_quiet_step ((go_at_call 76; exact Aft.call (free_any _))) | quiet_step ((go_at_call 76; exact Aft.call (free_any _))))
  refine wpQuiet_nil ?_
  rintro wx ⟨⟨_, hbx⟩, rfl⟩
  have hbx : Below W5.heap.size W5 wx := hbx
  have hr : Calls Tryz.prog 97 #[.int .i64 0, .agg (matC freeM), .bool false, .pointer (some ⟨w.heap.size + 3, 0, none⟩), .pointer (some ⟨w.heap.size + 4, 0, none⟩), .pointer (some ⟨w.heap.size + 2, 0, none⟩), .pointer (some ⟨w.heap.size + 1, 0, none⟩), .pointer (some ⟨w.heap.size, 0, none⟩), .pointer (some ⟨w.heap.size + 5, 0, none⟩)] wx
      (TryRes w.heap.size s.iv vp (.slice An s.notes.length cn) left [] (tryS s.iv s.notes left s.notes.length freeM false [] (false, [])) wx) :=
    try_any (vp := vp) (An := An) (cn := cn) (left := left) hg hB s.notes.length 0 wx freeM false [] (false, []) (by omega) (HS.out.below ((HB5.out.trans (hbx.mono HB5.out.size)).mono hB)) (HI.out.below hbx) free_fine (Nat.zero_le _)
  have HR := Lib.hid hr
  have HBX := Lib.hid hbx
  have HF := Lib.hid (show searchF s left = (tryS s.iv s.notes left s.notes.length freeM false [] (false, [])).2 from rfl)
  clear hr hbx g5
  generalize tryS s.iv s.notes left s.notes.length freeM false [] (false, []) = st at *
  go_upto_region 6 with (go_at_call 97; refine HR.out.mono ?_; rintro e w9 ⟨rfl, hI9, hT9⟩)
  obtain ⟨_, A2, _, c2, hC9, _, ho9, _⟩ := hI9.reads
  have f2 := hC9.f2
  have z2 := hC9.z2
  have l2 := cell_lt f2
  have HT9 := Lib.hid hT9
  have HO9 := Lib.hid ho9
  clear hC9 hI9 hT9 ho9
  go_wp2
  have hset : ((w9.setCell ⟨w.heap.size + 2, 0, none⟩ (.slice A2 st.2.length c2))).cell? ⟨w.heap.size + 2, 0, none⟩ = some (.slice A2 st.2.length c2) := World.cell?_setCell_same' _ _ _ (by rw [f2]; rfl)
  refine bodyPost_ret (results74 hset rfl) rfl ⟨A2, c2, by rw [HF.out], ?_, ?_⟩
  · rw [HF.out]
    exact (HO9.out.other (by show w.heap.size + 2 < w.heap.size + 6; omega) _).mono (by omega)
  · exact HB5.out.trans (((HBX.out.mono HB5.out.size)).trans (HT9.out.below.setCell (by show w.heap.size ≤ w.heap.size + 2; omega) _))

def proofE (s : ShR) : Int := if errOf s ≠ 0 then errOf s else if fitsB s = true then 4 else 0
def proofF (s : ShR) : List Int := if errOf s ≠ 0 then [] else if fitsB s = true then [] else searchF s false
def wrongF (s : ShR) : List Int := if errOf s ≠ 0 then [] else searchF s true

set_option maxRecDepth 100000 in
set_option maxHeartbeats 4000000 in
theorem proof_any {B : Nat} {w : World} {v : Value} {s : ShR} (hs : RdSh B w v s) (hn : Named s) (hB : B ≤ w.heap.size) :
    Calls Tryz.prog 31 #[v] w (OwnRes w.heap.size 3 (proofF s) (proofE s) w) := by
  obtain ⟨vp, vn, rfl, hp, ho⟩ := id hs
  obtain ⟨W1, hW1, r1, z1, d1⟩ := box_any w #[.int .i64 s.iv, vp, vn] 25
  have HF := Lib.hid (fits_any (hs.below (d1.mono hB)) hn (Nat.le_trans hB d1.size))
  have HS := Lib.hid hs
  have HB1 := Lib.hid d1
  have HR1 := Lib.hid r1
  have q0 := cellOf r1 0 rfl
  have q1 := cellOf r1 1 rfl
  have q2 := cellOf r1 2 rfl
  clear hs hp ho d1 r1 z1
  by_cases he : errOf s = 0
  · have hg := good_of_valid he
    have hne : (errOf s != 0) = false := by simp [he]
    have HE := Lib.hid he
    clear he
    cases hf : fitsB s with
    | true =>
      have H1 := Lib.hid (show proofF s = [] ∧ proofE s = 4 by simp [proofF, proofE, HE.out, hf])
      rw [hf] at HF
      clear hf hg
      go_enter Tryz.func31, Tryz.ntmps31
      go_upto_region 1 with (fail)
      rw [← hW1]
      clear hW1
      go_wp2_with (go_at_call 21; refine HF.out.mono ?_; rintro e w3 ⟨rfl, hb3⟩)
      go_ret2
      exact ⟨none, 0, by rw [H1.out.1, H1.out.2]; rfl, by rw [H1.out.1]; exact Own.nil _ _ _, HB1.out.trans (hb3.mono HB1.out.size)⟩
    | false =>
      have H1 := Lib.hid (show proofF s = searchF s false ∧ proofE s = 0 by simp [proofF, proofE, HE.out, hf])
      rw [hf] at HF
      have HSr := Lib.hid (fun (X : World) (hb : Below W1.heap.size W1 X) => search_any (w := X) false (HS.out.below ((HB1.out.trans (hb.mono HB1.out.size)).mono hB)) hg (Nat.le_trans hB (Nat.le_trans HB1.out.size hb.size)))
      clear hf hg
      go_enter Tryz.func31, Tryz.ntmps31
      go_upto_region 1 with (fail)
      rw [← hW1]
      clear hW1
      go_wp2_with (first | (go_at_call 21; refine HF.out.mono ?_; rintro e w3 ⟨rfl, hb3⟩; have q0 := (hb3.cell (cell_lt q0)).trans q0; have q1 := (hb3.cell (cell_lt q1)).trans q1; have q2 := (hb3.cell (cell_lt q2)).trans q2) | (go_at_call 74; refine (HSr.out _ hb3).mono ?_; rintro e w4 ⟨A, c, rfl, ho4, hb4⟩))
      go_ret2
      exact ⟨A, c, by rw [H1.out.1, H1.out.2]; rfl, by rw [H1.out.1]; exact ho4.mono (Nat.le_trans HB1.out.size hb3.size), HB1.out.trans ((hb3.trans (hb4.mono hb3.size)).mono HB1.out.size)⟩
  · have hne : (errOf s != 0) = true := by simp [he]
    have H1 := Lib.hid (show proofF s = [] ∧ proofE s = errOf s by simp [proofF, proofE, he])
    clear he
    go_enter Tryz.func31, Tryz.ntmps31
    go_upto_region 1 with (fail)
    rw [← hW1]
    clear hW1
    go_wp2_with (go_at_call 21; refine HF.out.mono ?_; rintro e w3 ⟨rfl, hb3⟩)
    go_ret2
    exact ⟨none, 0, by rw [H1.out.1, H1.out.2]; rfl, by rw [H1.out.1]; exact Own.nil _ _ _, HB1.out.trans (hb3.mono HB1.out.size)⟩

set_option maxRecDepth 100000 in
set_option maxHeartbeats 4000000 in
theorem wrong_any {B : Nat} {w : World} {v : Value} {s : ShR} (hs : RdSh B w v s) (hn : Named s) (hB : B ≤ w.heap.size) :
    Calls Tryz.prog 33 #[v] w (OwnRes w.heap.size 3 (wrongF s) (errOf s) w) := by
  obtain ⟨vp, vn, rfl, hp, ho⟩ := id hs
  obtain ⟨W1, hW1, r1, z1, d1⟩ := box_any w #[.int .i64 s.iv, vp, vn] 25
  have HC := Lib.hid (pcheck_any (hs.below (d1.mono hB)) hn (Nat.le_trans hB d1.size))
  have HS := Lib.hid hs
  have HB1 := Lib.hid d1
  have q0 := cellOf r1 0 rfl
  have q1 := cellOf r1 1 rfl
  have q2 := cellOf r1 2 rfl
  unfold checkV at HC
  have heo : errOf s = (check s).2.2 := rfl
  rw [← heo] at HC
  generalize (check s).1 = e1 at *
  generalize (check s).2.1 = e2 at *
  clear heo hs hp ho d1 r1 z1
  by_cases he : errOf s = 0
  · have hg := good_of_valid he
    have hne : (errOf s != 0) = false := by simp [he]
    have H1 := Lib.hid (show wrongF s = searchF s true ∧ errOf s = 0 by unfold wrongF; rw [if_neg (by simp [he])]; exact ⟨rfl, he⟩)
    have HSr := Lib.hid (fun (X : World) (hb : Below W1.heap.size W1 X) => search_any (w := X) true (HS.out.below ((HB1.out.trans (hb.mono HB1.out.size)).mono hB)) hg (Nat.le_trans hB (Nat.le_trans HB1.out.size hb.size)))
    clear he hg
    go_enter Tryz.func33, Tryz.ntmps33
    go_upto_region 1 with (fail)
    rw [← hW1]
    clear hW1
    go_wp2_with (first | (go_at_call 16; refine HC.out.mono ?_; rintro e w3 ⟨rfl, hb3⟩; have q0 := (hb3.cell (cell_lt q0)).trans q0; have q1 := (hb3.cell (cell_lt q1)).trans q1; have q2 := (hb3.cell (cell_lt q2)).trans q2) | (go_at_call 74; refine (HSr.out _ hb3).mono ?_; rintro e w4 ⟨A, c, rfl, ho4, hb4⟩))
    go_ret2
    exact ⟨A, c, by rw [H1.out.1, H1.out.2]; rfl, by rw [H1.out.1]; exact ho4.mono (Nat.le_trans HB1.out.size hb3.size), HB1.out.trans ((hb3.trans (hb4.mono hb3.size)).mono HB1.out.size)⟩
  · have hne : (errOf s != 0) = true := by simp [he]
    have H1 := Lib.hid (show wrongF s = [] by unfold wrongF; rw [if_pos he])
    clear he
    go_enter Tryz.func33, Tryz.ntmps33
    go_upto_region 1 with (fail)
    rw [← hW1]
    clear hW1
    go_wp2_with (go_at_call 16; refine HC.out.mono ?_; rintro e w3 ⟨rfl, hb3⟩)
    go_ret2
    exact ⟨none, 0, by rw [H1.out]; rfl, by rw [H1.out]; exact Own.nil _ _ _, HB1.out.trans (hb3.mono HB1.out.size)⟩
end Go.Proofs.YtajdgdelhlfniaaGreatDoor
