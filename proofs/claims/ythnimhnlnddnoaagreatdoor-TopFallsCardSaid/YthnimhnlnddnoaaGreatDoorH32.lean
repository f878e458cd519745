/- Parts of the proof of TpP: Srch5, Eqs, EqArr, Wider. -/
import Derived.Test.YthnimhnlnddnoaaGreatDoorH31
import Derived.Test.YthnimhnlnddnoaaGreatDoorH16
import Derived.WalkKit
import Derived.Deep.Quiet
import Derived.Test.YthnimhnlnddnoaaGreatDoorH2
import Derived.Laws.StructEq
import Derived.Test.YthnimhnlnddnoaaGreatDoorH12
import Derived.Test.YthnimhnlnddnoaaGreatDoorH15
import Derived.WalkMore
set_option linter.unusedSimpArgs false
set_option linter.unusedVariables false
set_option maxRecDepth 100000
set_option maxHeartbeats 8000000
namespace Go.Proofs.YthnimhnlnddnoaaGreatDoor
open Go.RowKit
def searchF (s : ShR) (left : Bool) : List Int := (tryS s.iv s.notes left s.notes.length freeM false [] (false, [])).2
theorem results74 {w : World} {g : Nat} {v : Value} {tmps : Array Value} (h1 : w.cell? ⟨g, 0, none⟩ = some v) (t1 : tmps[4]?.getD undef = .pointer (some ⟨g, 0, none⟩)) :
  (results Tryz.f61 tmps).run Tryz.prog w = .ok v w := by
 have hl : (loadVar 30 ⟨g, 0, none⟩).run Tryz.prog w = .ok v w := by
  simp [loadVar, go_sem, h1]
 simp [results, Tryz.results61, t1, asAddr, hl]
theorem search_any {B : Nat} {w : World} {v : Value} {s : ShR} (left : Bool) (hs : RdSh B w v s) (hg : Good s) (hB : B ≤ w.heap.size) :
  Calls Tryz.prog 61 #[v, .bool left] w fun e w' => ∃ A c, e = .returned (.slice A (searchF s left).length c) ∧ Own w.heap.size 3 w' (.slice A (searchF s left).length c) (searchF s left) ∧ Below w.heap.size w w' := by
 obtain ⟨vp, vn, rfl, hp, ho⟩ := id hs
 obtain ⟨An, cn, rfl, h5, h6, _⟩ := id ho
 obtain ⟨W0, hW0, r0, z0, d0⟩ := box_any w #[.int .i64 s.iv, vp, .slice An s.notes.length cn] 108
 obtain ⟨W1, hW1, r1, z1, d1⟩ := box_any W0 #[.bool left] 4
 obtain ⟨W2, hW2, r2, z2, d2⟩ := box_any W1 #[.slice none 0 0] 30
 obtain ⟨W3, hW3, r3, z3, d3⟩ := box_any W2 #[.bool false] 4
 obtain ⟨W4, hW4, r4, z4, d4⟩ := box_any W3 #[.slice none 0 0] 30
 obtain ⟨W5, hW5, r5, z5, d5⟩ := box_any W4 #[.func (.func 97) #[] #[.pointer (some ⟨w.heap.size + 1 + 1 + 1, 0, none⟩), .pointer (some ⟨w.heap.size + 1 + 1 + 1 + 1, 0, none⟩), .pointer (some ⟨w.heap.size + 1 + 1, 0, none⟩), .pointer (some ⟨w.heap.size + 1, 0, none⟩), .pointer (some ⟨w.heap.size, 0, none⟩), .pointer (some ⟨w.heap.size + 1 + 1 + 1 + 1 + 1, 0, none⟩)]] 150
 clear hp ho h5 h6
 go_enter Tryz.func61, Tryz.ntmps61
 go_upto_region 5 with (fail)
 rw [← hW0, ← hW1, ← hW2, ← hW3, ← hW4, ← hW5]
 clear hW0 hW1 hW2 hW3 hW4 hW5
 have k0 : W5.heap[w.heap.size]? = some (.cells #[.int .i64 s.iv, vp, .slice An s.notes.length cn] 108) := (d5.block _ (by omega)).trans ((d4.block _ (by omega)).trans ((d3.block _ (by omega)).trans ((d2.block _ (by omega)).trans ((d1.block _ (by omega)).trans r0))))
 have k1 : W5.heap[w.heap.size + 1]? = some (.cells #[.bool left] 4) := by
  have := (d5.block _ (by omega)).trans ((d4.block _ (by omega)).trans ((d3.block _ (by omega)).trans ((d2.block _ (by omega)).trans r1)))
  rwa [show W0.heap.size = w.heap.size + 1 by omega] at this
 have k2 : W5.heap[w.heap.size + 2]? = some (.cells #[.slice none 0 0] 30) := by
  have := (d5.block _ (by omega)).trans ((d4.block _ (by omega)).trans ((d3.block _ (by omega)).trans r2))
  rwa [show W1.heap.size = w.heap.size + 2 by omega] at this
 have k3 : W5.heap[w.heap.size + 3]? = some (.cells #[.bool false] 4) := by
  have := (d5.block _ (by omega)).trans ((d4.block _ (by omega)).trans r3)
  rwa [show W2.heap.size = w.heap.size + 3 by omega] at this
 have k4 : W5.heap[w.heap.size + 4]? = some (.cells #[.slice none 0 0] 30) := by
  have := (d5.block _ (by omega)).trans r4
  rwa [show W3.heap.size = w.heap.size + 4 by omega] at this
 have k5 : W5.heap[w.heap.size + 5]? = some (.cells #[.func (.func 97) #[] (tryP w.heap.size)] 150) := by
  have := r5
  rwa [show W4.heap.size = w.heap.size + 5 by omega] at this
 have hb5 : Below w.heap.size w W5 := d0.trans ((d1.mono (by omega)).trans ((d2.mono (by omega)).trans ((d3.mono (by omega)).trans ((d4.mono (by omega)).trans (d5.mono (by omega))))))
 have hI : TryI w.heap.size s.iv vp (.slice An s.notes.length cn) left [] (false, []) W5 := ⟨k0, k1, k3, k5, _, _, k4, k2, Own.nil _ _ _, Own.nil _ _ _, fun g hg => by cases hg⟩
 have HI := Lib.hid hI
 have HB5 := Lib.hid hb5
 have HS := Lib.hid hs
 have HK5 := Lib.hid k5
 clear r0 r1 r2 r3 r4 r5 z0 z1 z2 z3 z4 z5 d0 d1 d2 d3 d4 d5 k0 k1 k2 k3 k4 k5 hb5 hI hs
 have g5 := Aft.cell (cellOf HK5.out 0 rfl)
 unfold tryP at g5
 refine region_quiet_tail (C := fun w' => ∃ x : Aft W5, w' = x.1) 2 (by kernel_rfl) (by kernel_rfl) ⟨⟨W5.drew, (Below.refl _ _).drew⟩, rfl⟩ ?_
 simp only [List.take_succ_cons, List.take_zero, List.drop_succ_cons, List.drop_zero]
 repeat (first | go_big_quiet_step ((go_at_call 62; exact Aft.call (free_any _))) | quiet_step ((go_at_call 62; exact Aft.call (free_any _))))
 refine wpQuiet_nil ?_
 rintro wx ⟨⟨_, hbx⟩, rfl⟩
 have hbx : Below W5.heap.size W5 wx := hbx
 have hr : Calls Tryz.prog 97 #[.int .i64 0, .agg (matC freeM), .bool false, .pointer (some ⟨w.heap.size + 3, 0, none⟩), .pointer (some ⟨w.heap.size + 4, 0, none⟩), .pointer (some ⟨w.heap.size + 2, 0, none⟩), .pointer (some ⟨w.heap.size + 1, 0, none⟩), .pointer (some ⟨w.heap.size, 0, none⟩), .pointer (some ⟨w.heap.size + 5, 0, none⟩)] wx
   (TryRes w.heap.size s.iv vp (.slice An s.notes.length cn) left [] (tryS s.iv s.notes left s.notes.length freeM false [] (false, [])) wx) :=
  try_any (vp := vp) (An := An) (cn := cn) (left := left) hg hB s.notes.length 0 wx freeM false [] (false, []) (by omega) (HS.out.below ((HB5.out.trans (hbx.mono HB5.out.size)).mono hB)) (HI.out.below hbx) free_fine (Nat.zero_le _)
 have HR := Lib.hid hr
 have HBX := Lib.hid hbx
 have HF := Lib.hid (show searchF s left = (tryS s.iv s.notes left s.notes.length freeM false [] (false, [])).2 from rfl)
 clear hr hbx g5
 generalize tryS s.iv s.notes left s.notes.length freeM false [] (false, []) = st at *
 go_upto_region 6 with (go_at_call 97; refine HR.out.mono ?_; rintro e w9 ⟨rfl, hI9, hT9⟩)
 obtain ⟨_, A2, _, c2, hC9, _, ho9, _⟩ := hI9.reads
 have f2 := hC9.f2
 have z2 := hC9.z2
 have l2 := cell_lt f2
 have HT9 := Lib.hid hT9
 have HO9 := Lib.hid ho9
 clear hC9 hI9 hT9 ho9
 go_wp2
 have hset : ((w9.setCell ⟨w.heap.size + 2, 0, none⟩ (.slice A2 st.2.length c2))).cell? ⟨w.heap.size + 2, 0, none⟩ = some (.slice A2 st.2.length c2) := World.cell?_setCell_same' _ _ _ (by rw [f2]; rfl)
 refine bodyPost_ret (results74 hset rfl) rfl ⟨A2, c2, by rw [HF.out], ?_, ?_⟩
 ·rw [HF.out]
  exact (HO9.out.other (by show w.heap.size + 2 < w.heap.size + 6; omega) _).mono (by omega)
 ·exact HB5.out.trans (((HBX.out.mono HB5.out.size)).trans (HT9.out.below.setCell (by show w.heap.size ≤ w.heap.size + 2; omega) _))
def proofE (s : ShR) : Int := if errOf s ≠ 0 then errOf s else if fitsB s = true then 4 else 0
def proofF (s : ShR) : List Int := if errOf s ≠ 0 then [] else if fitsB s = true then [] else searchF s false
def wrongF (s : ShR) : List Int := if errOf s ≠ 0 then [] else searchF s true
theorem proof_any {B : Nat} {w : World} {v : Value} {s : ShR} (hs : RdSh B w v s) (hn : Named s) (hB : B ≤ w.heap.size) :
  Calls Tryz.prog 26 #[v] w (OwnRes w.heap.size 3 (proofF s) (proofE s) w) := by
 obtain ⟨vp, vn, rfl, hp, ho⟩ := id hs
 obtain ⟨W1, hW1, r1, z1, d1⟩ := box_any w #[.int .i64 s.iv, vp, vn] 38
 have HF := Lib.hid (fits_any (hs.below (d1.mono hB)) hn (Nat.le_trans hB d1.size))
 have HS := Lib.hid hs
 have HB1 := Lib.hid d1
 have HR1 := Lib.hid r1
 have q0 := cellOf r1 0 rfl
 have q1 := cellOf r1 1 rfl
 have q2 := cellOf r1 2 rfl
 clear hs hp ho d1 r1 z1
 by_cases he : errOf s = 0
 ·have hg := good_of_valid he
  have hne : (errOf s != 0) = false := by simp [he]
  have HE := Lib.hid he
  clear he
  cases hf : fitsB s with
  | true =>
   have H1 := Lib.hid (show proofF s = [] ∧ proofE s = 4 by simp [proofF, proofE, HE.out, hf])
   rw [hf] at HF
   clear hf hg
   go_enter Tryz.func26, Tryz.ntmps26
   go_upto_region 1 with (fail)
   rw [← hW1]
   clear hW1
   go_wp2_with (go_at_call 23; refine HF.out.mono ?_; rintro e w3 ⟨rfl, hb3⟩)
   go_ret2
   exact ⟨none, 0, by rw [H1.out.1, H1.out.2]; rfl, by rw [H1.out.1]; exact Own.nil _ _ _, HB1.out.trans (hb3.mono HB1.out.size)⟩
  | false =>
   have H1 := Lib.hid (show proofF s = searchF s false ∧ proofE s = 0 by simp [proofF, proofE, HE.out, hf])
   rw [hf] at HF
   have HSr := Lib.hid (fun (X : World) (hb : Below W1.heap.size W1 X) => search_any (w := X) false (HS.out.below ((HB1.out.trans (hb.mono HB1.out.size)).mono hB)) hg (Nat.le_trans hB (Nat.le_trans HB1.out.size hb.size)))
   clear hf hg
   go_enter Tryz.func26, Tryz.ntmps26
   go_upto_region 1 with (fail)
   rw [← hW1]
   clear hW1
   go_wp2_with (first | (go_at_call 23; refine HF.out.mono ?_; rintro e w3 ⟨rfl, hb3⟩; have q0 := (hb3.cell (cell_lt q0)).trans q0; have q1 := (hb3.cell (cell_lt q1)).trans q1; have q2 := (hb3.cell (cell_lt q2)).trans q2) | (go_at_call 61; refine (HSr.out _ hb3).mono ?_; rintro e w4 ⟨A, c, rfl, ho4, hb4⟩))
   go_ret2
   exact ⟨A, c, by rw [H1.out.1, H1.out.2]; rfl, by rw [H1.out.1]; exact ho4.mono (Nat.le_trans HB1.out.size hb3.size), HB1.out.trans ((hb3.trans (hb4.mono hb3.size)).mono HB1.out.size)⟩
 ·have hne : (errOf s != 0) = true := by simp [he]
  have H1 := Lib.hid (show proofF s = [] ∧ proofE s = errOf s by simp [proofF, proofE, he])
  clear he
  go_enter Tryz.func26, Tryz.ntmps26
  go_upto_region 1 with (fail)
  rw [← hW1]
  clear hW1
  go_wp2_with (go_at_call 23; refine HF.out.mono ?_; rintro e w3 ⟨rfl, hb3⟩)
  go_ret2
  exact ⟨none, 0, by rw [H1.out.1, H1.out.2]; rfl, by rw [H1.out.1]; exact Own.nil _ _ _, HB1.out.trans (hb3.mono HB1.out.size)⟩
theorem wrong_any {B : Nat} {w : World} {v : Value} {s : ShR} (hs : RdSh B w v s) (hn : Named s) (hB : B ≤ w.heap.size) :
  Calls Tryz.prog 27 #[v] w (OwnRes w.heap.size 3 (wrongF s) (errOf s) w) := by
 obtain ⟨vp, vn, rfl, hp, ho⟩ := id hs
 obtain ⟨W1, hW1, r1, z1, d1⟩ := box_any w #[.int .i64 s.iv, vp, vn] 38
 have HC := Lib.hid (pcheck_any (hs.below (d1.mono hB)) hn (Nat.le_trans hB d1.size))
 have HS := Lib.hid hs
 have HB1 := Lib.hid d1
 have q0 := cellOf r1 0 rfl
 have q1 := cellOf r1 1 rfl
 have q2 := cellOf r1 2 rfl
 unfold checkV at HC
 have heo : errOf s = (check s).2.2 := rfl
 rw [← heo] at HC
 generalize (check s).1 = e1 at *
 generalize (check s).2.1 = e2 at *
 clear heo hs hp ho d1 r1 z1
 by_cases he : errOf s = 0
 ·have hg := good_of_valid he
  have hne : (errOf s != 0) = false := by simp [he]
  have H1 := Lib.hid (show wrongF s = searchF s true ∧ errOf s = 0 by unfold wrongF; rw [if_neg (by simp [he])]; exact ⟨rfl, he⟩)
  have HSr := Lib.hid (fun (X : World) (hb : Below W1.heap.size W1 X) => search_any (w := X) true (HS.out.below ((HB1.out.trans (hb.mono HB1.out.size)).mono hB)) hg (Nat.le_trans hB (Nat.le_trans HB1.out.size hb.size)))
  clear he hg
  go_enter Tryz.func27, Tryz.ntmps27
  go_upto_region 1 with (fail)
  rw [← hW1]
  clear hW1
  go_wp2_with (first | (go_at_call 58; refine HC.out.mono ?_; rintro e w3 ⟨rfl, hb3⟩; have q0 := (hb3.cell (cell_lt q0)).trans q0; have q1 := (hb3.cell (cell_lt q1)).trans q1; have q2 := (hb3.cell (cell_lt q2)).trans q2) | (go_at_call 61; refine (HSr.out _ hb3).mono ?_; rintro e w4 ⟨A, c, rfl, ho4, hb4⟩))
  go_ret2
  exact ⟨A, c, by rw [H1.out.1, H1.out.2]; rfl, by rw [H1.out.1]; exact ho4.mono (Nat.le_trans HB1.out.size hb3.size), HB1.out.trans ((hb3.trans (hb4.mono hb3.size)).mono HB1.out.size)⟩
 ·have hne : (errOf s != 0) = true := by simp [he]
  have H1 := Lib.hid (show wrongF s = [] by unfold wrongF; rw [if_pos he])
  clear he
  go_enter Tryz.func27, Tryz.ntmps27
  go_upto_region 1 with (fail)
  rw [← hW1]
  clear hW1
  go_wp2_with (go_at_call 58; refine HC.out.mono ?_; rintro e w3 ⟨rfl, hb3⟩)
  go_ret2
  exact ⟨none, 0, by rw [H1.out]; rfl, by rw [H1.out]; exact Own.nil _ _ _, HB1.out.trans (hb3.mono HB1.out.size)⟩
end Go.Proofs.YthnimhnlnddnoaaGreatDoor
namespace Go.Proofs.YthnimhnlnddnoaaGreatDoor
open Go.RowKit
theorem eqIn_int (d : Nat) (a b : Int) (w : World) : (Op.equalIn (d + 1) 3 (.int .i64 a) (.int .i64 b)).run Tryz.prog w = .ok (a == b) w := run_equalIn_int w d 3 .i64 .i64 a b Tryz.underlying3
end Go.Proofs.YthnimhnlnddnoaaGreatDoor
namespace Go.Proofs.YthnimhnlnddnoaaGreatDoor
open Go.RowKit
theorem eqIn_arr {P : Program} {w : World} (d : Nat) (t elem : TypeId) (len n : Nat) (xs ys : Array Value) (ht : P.underlying t = some (.array len elem)) (hs : (Go.sizeOf elem).run P w = .ok n w)
  (px py : Nat → Value) (f : Nat → Bool) (hx : ∀ i, i < len → (part elem xs (i * n)).run P w = .ok (px i) w) (hy : ∀ i, i < len → (part elem ys (i * n)).run P w = .ok (py i) w)
  (hf : ∀ i, i < len → (Op.equalIn d elem (px i) (py i)).run P w = .ok (f i) w) : (Op.equalIn (d + 1) t (.agg xs) (.agg ys)).run P w = .ok ((List.range len).all f) w := by
 rw [Op.equalIn]
 simp only [Sem.run_bind, run_underlying ht, Result.andThen_ok, hs]
 simp only [Std.Legacy.Range.forIn_eq_forIn_range', Std.Legacy.Range.size]
 have key : ∀ (L : List Nat), (∀ i ∈ L, i < len) → (forIn L ((none : Option Bool), ()) fun i (_ : Option Bool × Unit) => (do
   let a ← part elem xs (i * n)
   let b ← part elem ys (i * n)
   let r ← Op.equalIn d elem a b
   if (!r) = true then pure (ForInStep.done (some false, ())) else pure (ForInStep.yield (none, ())) : Sem _)).run P w = .ok (if L.all f = true then (none, ()) else (some false, ())) w := by
  intro L
  induction L with
  | nil => intro _; simp
  | cons i L ih =>
   intro h
   have hi := h i (by simp)
   rw [List.forIn_cons]
   simp only [Sem.run_bind, hx i hi, hy i hi, hf i hi, Result.andThen_ok]
   cases hfi : f i with
   | true =>
    simp only [Bool.not_true, Bool.false_eq_true, if_false, Sem.run_pure, Result.andThen_ok]
    rw [ih fun j hj => h j (by simp [hj])]
    simp [hfi]
   | false =>
    simp only [Bool.not_false, if_true, Sem.run_pure, Result.andThen_ok]
    simp [hfi]
 have hr : List.range' 0 ((len - 0 + 1 - 1) / 1) = List.range len := by simp [List.range_eq_range']
 rw [hr]
 rw [key (List.range len) (fun i hi => List.mem_range.1 hi)]
 simp only [Result.andThen_ok]
 by_cases h : (List.range len).all f = true
 ·rw [if_pos h, h]; rfl
 ·rw [if_neg h]
  have h : (List.range len).all f = false := by simpa using h
  rw [h]; rfl
theorem u91 : Tryz.prog.underlying 80 = some (.array 9 3) := by kernel_rfl
def rowC (f : Nat → Int) : Array Value := ((List.range 9).map fun k => Value.int .i64 (f k)).toArray
theorem rowC_get (f : Nat → Int) {k : Nat} (hk : k < 9) : (rowC f)[k]? = some (.int .i64 (f k)) := by
 unfold rowC
 rw [List.getElem?_toArray, List.getElem?_map, List.getElem?_range hk]
 rfl
theorem size3 (w : World) : (Go.sizeOf 3).run Tryz.prog w = .ok 1 w := by kernel_rfl
theorem size91 (w : World) : (Go.sizeOf 80).run Tryz.prog w = .ok 9 w := by kernel_rfl
theorem agg3 (w : World) : (isAgg 3).run Tryz.prog w = .ok false w := by kernel_rfl
theorem agg91 (w : World) : (isAgg 80).run Tryz.prog w = .ok true w := by kernel_rfl
theorem part_row (f : Nat → Int) {k : Nat} (hk : k < 9) (w : World) : (part 3 (rowC f) (k * 1)).run Tryz.prog w = .ok (.int .i64 (f k)) w := by
 unfold part
 rw [Nat.mul_one]
 simp only [Sem.run_bind, agg3, Result.andThen_ok, rowC_get f hk]
 rfl
theorem part_mat (b : Mat) {i : Nat} (hi : i < 9) (w : World) : (part 80 (matC b) (i * 9)).run Tryz.prog w = .ok (.agg (rowC (b i))) w := by
 unfold part
 simp only [Sem.run_bind, agg91, size91, Result.andThen_ok]
 have : (matC b).extract (i * 9) (i * 9 + 9) = rowC (b i) := by
  apply Array.ext_getElem?
  intro k
  rw [Array.getElem?_extract]
  by_cases hk : k < 9
  ·rw [if_pos (by have := matC_size b; omega), matC_at b hi hk, rowC_get _ hk]
  ·rw [if_neg (by have := matC_size b; omega), Array.getElem?_eq_none (by simp [rowC]; omega)]
 simp [this]
def matEq (b c : Mat) : Bool := (List.range 9).all fun i => (List.range 9).all fun k => b i k == c i k
theorem matEq_iff {b c : Mat} : matEq b c = true ↔ ∀ i k, i < 9 → k < 9 → b i k = c i k := by
 simp only [matEq, List.all_eq_true, List.mem_range, beq_iff_eq]
 exact ⟨fun h i k hi hk => h i hi k hk, fun h i hi k hk => h i k hi hk⟩
theorem matC_congr {b c : Mat} (h : ∀ i k, i < 9 → k < 9 → b i k = c i k) : matC b = matC c := by
 apply Array.ext_getElem?
 intro n
 by_cases hn : n < 81
 ·rw [matC_get _ hn, matC_get _ hn, h _ _ (by omega) (by omega)]
 ·have h1 := matC_size b
  have h2 := matC_size c
  rw [Array.getElem?_eq_none (by omega), Array.getElem?_eq_none (by omega)]
theorem eqIn_row (f g : Nat → Int) (w : World) : (Op.equalIn 9999 80 (.agg (rowC f)) (.agg (rowC g))).run Tryz.prog w = .ok ((List.range 9).all fun k => f k == g k) w :=
 eqIn_arr 9998 80 3 9 1 _ _ u91 (size3 w) (fun k => .int .i64 (f k)) (fun k => .int .i64 (g k)) _ (fun _ hk => part_row f hk w) (fun _ hk => part_row g hk w) (fun _ _ => eqIn_int 9997 _ _ w)
theorem eqIn_mat (b c : Mat) (w : World) : (Op.equalIn 10000 82 (.agg (matC b)) (.agg (matC c))).run Tryz.prog w = .ok (matEq b c) w :=
 eqIn_arr 9999 82 80 9 9 _ _ u93 (size91 w) (fun i => .agg (rowC (b i))) (fun i => .agg (rowC (c i))) _ (fun _ hi => part_mat b hi w) (fun _ hi => part_mat c hi w) (fun _ _ => eqIn_row _ _ w)
theorem run_neq_mat (b c : Mat) (w : World) : (binOp .neq 82 (.agg (matC b)) (.agg (matC c))).run Tryz.prog w = .ok (.bool (!matEq b c)) w := by
 rw [run_neq_struct, eqIn_mat]
 rfl
end Go.Proofs.YthnimhnlnddnoaaGreatDoor
namespace Go.Proofs.YthnimhnlnddnoaaGreatDoor
open Go.RowKit
theorem guard_mat (x y : Operand) (b c : Mat) (w : World) : (eqGuard .neq 82 x y (.agg (matC b)) (.agg (matC c))).run Tryz.prog w = .ok () w := run_eqGuard_agg w .neq 82 x y _ _ (by kernel_rfl)
theorem wpList_neq_mat {ops : Array Oper} {rest : List Oper} {o : Oper} {a : Act} {w : World} {Q : Exit → Act → World → Prop} (hgd : o.guard = none) (x y : Operand) (T : TypeId) (ho : o.op = .binOp .neq 82 x y T)
  {b c : Mat} (hx : a.eval x = .agg (matC b)) (hy : a.eval y = .agg (matC c)) (h : wpList Tryz.prog ops Q rest (a.put o.dst (.bool (!matEq b c))) w) : wpList Tryz.prog ops Q (o :: rest) a w := by
 refine wpList_plain hgd fun K hK => ?_
 unfold Oper.wp execOp
 simp only [ho, hx, hy, Sem.run_bind, Sem.run_pure, guard_mat, run_neq_mat, Result.andThen_ok]
 exact hK _ _ h
structure IsWider (s : ShR) (n : Int) : Prop where
 ge : 0 ≤ n
 le : n ≤ 9000
 yes : n = 9000 ∨ (boundsF s n).2 = true
 no : n = 0 ∨ (boundsF s (n - 1)).2 = false
def WiderRes (s : ShR) (w : World) (e : Ending) (w' : World) : Prop := ∃ n, e = .returned (.tuple #[.int .i64 n, .int .i64 (errOf s)]) ∧ (errOf s ≠ 0 → n = 0) ∧ (errOf s = 0 → IsWider s n) ∧ Below w.heap.size w w'
theorem wider_any {B : Nat} {w : World} {v : Value} {s : ShR} (hs : RdSh B w v s) (hn : Named s) (hB : B ≤ w.heap.size) :
  Calls Tryz.prog 28 #[v] w (WiderRes s w) := by
 obtain ⟨vp, vn, rfl, hp, ho⟩ := id hs
 obtain ⟨An, cn, rfl, h5, h6, _⟩ := id ho
 obtain ⟨W1, hW1, r1, z1, d1⟩ := box_any w #[.int .i64 s.iv, vp, .slice An s.notes.length cn] 38
 have HB1 := Lib.hid d1
 have HR1 := Lib.hid r1
 have HC := Lib.hid (pcheck_any (w := W1) (hs.below (d1.mono hB)) hn (Nat.le_trans hB d1.size))
 have HS := Lib.hid hs
 have q0 := cellOf r1 0 rfl
 have q1 := cellOf r1 1 rfl
 have q2 := cellOf r1 2 rfl
 unfold checkV at HC
 have heo : errOf s = (check s).2.2 := rfl
 rw [← heo] at HC
 generalize (check s).1 = e1 at *
 generalize (check s).2.1 = e2 at *
 clear heo hp ho hs r1 z1 d1 h5 h6
 by_cases he : errOf s = 0
 ·have hne : (errOf s != 0) = false := by simp [he]
  have hg := good_of_valid he
  have hnl := hg.nlen
  have hpl := hg.plen.2
  have HG := Lib.hid hg
  have HE := Lib.hid he
  clear he hg
  go_enter Tryz.func28, Tryz.ntmps28
  go_upto_region 1 with (fail)
  rw [← hW1]
  clear hW1
  go_step3
  go_wp2_with (go_at_call 58; refine HC.out.mono ?_; rintro e w3 ⟨rfl, hb3⟩)
  have HB3 := Lib.hid (HB1.out.trans (hb3.mono HB1.out.size))
  have HK3 := Lib.hid ((hb3.block _ (lt_of_block HR1.out)).trans HR1.out)
  clear hb3 q0 q1 q2
  go_step3
  go_wp2
  go_loopw [7, 8] (fun a b wr => ∃ lo hi : Int, a = .int .i64 lo ∧ b = .int .i64 hi ∧ -1 ≤ lo ∧ lo < hi ∧ hi ≤ 9000 ∧ (lo = -1 ∨ (boundsF s lo).2 = false) ∧ (hi = 9000 ∨ (boundsF s hi).2 = true) ∧ Below w3.heap.size w3 wr) (fun a b _ => (intOf b - intOf a).toNat)
  case atStart => exact ⟨-1, 9000, rfl, rfl, by omega, by omega, by omega, .inl rfl, .inl rfl, Below.refl _ _⟩
  case round =>
   obtain ⟨lo, hi, rfl, rfl, h1, h2, h3, hlo, hhi, hbr⟩ := hrel
   have HLo := Lib.hid hlo
   have HHi := Lib.hid hhi
   have Hbr := Lib.hid hbr
   have hkr := (hbr.block _ (lt_of_block HK3.out)).trans HK3.out
   have HKr := Lib.hid hkr
   have hwz : w.heap.size < wr.heap.size := lt_of_block hkr
   clear hlo hhi hbr hkr
   by_cases hgt : 1 < hi - lo
   ·have hmid : (lo + hi).tdiv 2 = (lo + hi) / 2 := Int.tdiv_eq_ediv_of_nonneg (by omega)
    obtain ⟨mid, hm⟩ : ∃ mid, mid = (lo + hi) / 2 := ⟨_, rfl⟩
    have m1 : lo < mid := by omega
    have m2 : mid < hi := by omega
    have m3 : 0 ≤ mid := by omega
    have m4 : mid ≤ 9000 := by omega
    have HMid := Lib.hid hm
    clear hm
    go_upto_region 7 with (fail)
    rw [← HMid.out]
    clear hmid
    go_upto_region 8 with (first | (go_at_call 62; refine (free_any _).mono ?_; rintro e w4 ⟨rfl, hb4⟩) | (refine wpList_alloc_mat rfl rfl ?_; intro w5 hw5 hm5 hb5 hz5) | (refine wpList_store_mat rfl _ _ rfl rfl rfl hm5 ?_; intro w6 hm6 hg6))
    have hg6 : w5.grownBy w6 (some w4.heap.size) := hg6
    have hm6 : MatAt w6 w4.heap.size 82 freeM := hm6
    have z4 := hb4.size
    have z5 := hb5.size
    have hb6 : Below wr.heap.size wr w6 := hb4.trans ((hb5.mono z4).trans (grown_below hg6 z4 (by omega)))
    have k6 := (hb6.block _ hwz).trans HKr.out
    have q2 := cellOf k6 2 rfl
    have HM6 := Lib.hid hm6
    have HB6 := Lib.hid hb6
    have HZ4 := Lib.hid z4
    clear hb4 hw5 hm5 hb5 hz5 hm6 hg6 hb6 k6 z4 z5
    go_wp2
    clear q2
    obtain ⟨wo, rfl⟩ : ∃ wo : World, wo = wr := ⟨_, rfl⟩
    go_loopw [7, 35] (fun a i wi => ∃ k : Nat, k ≤ s.notes.length ∧ i = .int .i64 k ∧ a = .int .i64 lo ∧ (allM s.iv mid (s.notes.take k) freeM).2 = true ∧ MatAt wi w4.heap.size 82 (allM s.iv mid (s.notes.take k) freeM).1 ∧ Below wo.heap.size wo wi) (fun _ i _ => s.notes.length - (intOf i).toNat)
    case atStart => exact ⟨0, Nat.zero_le _, rfl, rfl, rfl, HM6.out, HB6.out⟩
    case round =>
     obtain ⟨k, hk, rfl, rfl, hok, hm, hbi⟩ := hrel
     have HOK := Lib.hid hok
     have HM := Lib.hid hm
     have HBi := Lib.hid hbi
     have hki := (hbi.block _ hwz).trans HKr.out
     by_cases hlt : k < s.notes.length
     ·have q0 := cellOf hki 0 rfl
      have q1 := cellOf hki 1 rfl
      have q2 := cellOf hki 2 rfl
      have hfine := allM_fine (iv := s.iv) (wd := mid) HG.out.plen.2 (l := s.notes.take k) (fun x hx => HG.out.notes x (List.mem_of_mem_take hx)) free_fine
      have hcall := with_any (w := wr) (b := (allM s.iv mid (s.notes.take k) freeM).1) (i := k) (HS.out.below ((HB3.out.trans ((Hbr.out.trans (hbi.mono Hbr.out.size)).mono HB3.out.size)).mono hB)) HG.out hlt hfine ⟨m3, m4⟩ (by have := HB3.out.size; have := Hbr.out.size; have := hbi.size; omega)
      rw [← allM_take hlt hok] at hcall
      have HCl := Lib.hid hcall
      clear hfine hcall hok hbi hki
      generalize hcur : (allM s.iv mid (s.notes.take k) freeM).1 = cur at *
      clear hcur
      cases hnx : (allM s.iv mid (s.notes.take (k + 1)) freeM).2 with
      | true =>
       have HNX := Lib.hid hnx
       rw [hnx] at HCl
       clear hnx
       generalize hnew : (allM s.iv mid (s.notes.take (k + 1)) freeM).1 = new at *
       have HNew := Lib.hid hnew
       clear hnew
       go_upto_region 12 with (first | (refine wpList_load_mat rfl _ rfl rfl hm ?_) | (go_at_call 63; refine HCl.out.mono ?_; rintro e w7 ⟨rfl, hb7⟩) | (refine wpList_alloc_mat rfl rfl ?_; intro w8 hw8 hm8 hb8 hz8) | (refine wpList_store_mat rfl _ _ rfl rfl rfl hm8 ?_; intro w9 hm9 hg9))
       have hg9 : w8.grownBy w9 (some w7.heap.size) := hg9
       have hm9 : MatAt w9 w7.heap.size 82 new := hm9
       have z7 := hb7.size
       have z8 := hb8.size
       have hb9 : Below wr.heap.size wr w9 := hb7.trans ((hb8.mono z7).trans (grown_below hg9 z7 (by omega)))
       have hc9 : MatAt w9 w4.heap.size 82 cur := HM.out.below hb9
       have HB9 := Lib.hid hb9
       clear hb7 hw8 hm8 hb8 hz8 hg9 hb9 z7 z8 q0 q1 q2 hm
       cases hne : matEq new cur with
       | true =>
        have hcong := Lib.hid (matC_congr (matEq_iff.1 hne))
        go_wp2_with (first | (refine wpList_load_mat rfl _ rfl rfl hm9 ?_) | (refine wpList_load_mat rfl _ rfl rfl hc9 ?_) | (refine wpList_neq_mat rfl _ _ _ rfl rfl rfl ?_; rw [hne]))
        refine ⟨⟨k + 1, by omega, rfl, rfl, HNX.out, ?_, HBi.out.trans (HB9.out.mono HBi.out.size)⟩, by simp [intOf]; omega⟩
        rw [HNew.out]
        unfold MatAt at hc9 ⊢
        rw [hcong.out]
        exact hc9
       | false =>
        go_wp2_with (first | (refine wpList_load_mat rfl _ rfl rfl hm9 ?_) | (refine wpList_load_mat rfl _ rfl rfl hc9 ?_) | (refine wpList_neq_mat rfl _ _ _ rfl rfl rfl ?_; rw [hne]) | (refine wpList_store_mat rfl _ _ rfl rfl rfl hc9 ?_; intro w10 hm10 hg10))
        have hg10 : w9.grownBy w10 (some w4.heap.size) := hg10
        have z4 := HZ4.out
        have zb := HBi.out.size
        have zc := HB9.out.size
        refine ⟨⟨k + 1, by omega, rfl, rfl, HNX.out, ?_, HBi.out.trans ((HB9.out.mono zb).trans (grown_below hg10 z4 (by omega)))⟩, by simp [intOf]; omega⟩
        rw [HNew.out]
        exact hm10
      | false =>
       have HNX := Lib.hid hnx
       rw [hnx] at HCl
       clear hnx
       go_wp2_with (first | (refine wpList_load_mat rfl _ rfl rfl hm ?_) | (go_at_call 63; refine HCl.out.mono ?_; rintro e w7 ⟨rfl, hb7⟩) | (refine wpList_alloc_mat rfl rfl ?_; intro w8 hw8 hm8 hb8 hz8) | (refine wpList_store_mat rfl _ _ rfl rfl rfl hm8 ?_; intro w9 hm9 hg9))
       have hg9 : w8.grownBy w9 (some w7.heap.size) := hg9
       have z7 := hb7.size
       have z8 := hb8.size
       have zb := HBi.out.size
       have hb9 : Below wr.heap.size wr w9 := hb7.trans ((hb8.mono z7).trans (grown_below hg9 z7 (by omega)))
       refine ⟨⟨mid, hi, rfl, rfl, by omega, m2, h3, .inr ?_, HHi.out, Hbr.out.trans ((HBi.out.trans (hb9.mono zb)).mono Hbr.out.size)⟩, by simp [intOf]; omega⟩
       have : boundsF s mid = allM s.iv mid (s.notes.take (k + 1)) freeM := allM_take_no HNX.out
       rw [this]
       exact HNX.out
     ·have hk2 : k = s.notes.length := by omega
      have hend : boundsF s mid = allM s.iv mid (s.notes.take k) freeM := by unfold boundsF; rw [hk2, List.take_length]
      have HE2 := Lib.hid hend
      clear hend hk2 hok
      go_wp2
      refine ⟨⟨lo, mid, rfl, rfl, h1, m1, m4, HLo.out, .inr ?_, Hbr.out.trans (HBi.out.mono Hbr.out.size)⟩, by simp [intOf]; omega⟩
      rw [HE2.out]
      exact HOK.out
   ·have hh : lo = hi - 1 := by omega
    have HH := Lib.hid hh
    clear hh
    go_wp2
    go_ret2
    refine ⟨hi, by rw [HE.out]; rfl, fun h => absurd HE.out h, fun _ => ⟨by omega, h3, HHi.out, ?_⟩, HB3.out.trans (Hbr.out.mono HB3.out.size)⟩
    rcases HLo.out with e | e
    ·exact .inl (by have := HH.out; omega)
    ·rw [HH.out] at e
     exact .inr e
 ·have hne : (errOf s != 0) = true := by simp [he]
  go_enter Tryz.func28, Tryz.ntmps28
  go_upto_region 1 with (fail)
  rw [← hW1]
  clear hW1
  have HE := Lib.hid he
  clear he
  go_step3
  go_wp2_with (go_at_call 58; refine HC.out.mono ?_; rintro e w3 ⟨rfl, hb3⟩)
  rw [Exit.noGoto_ret]
  go_ret2
  exact ⟨0, rfl, fun _ => rfl, fun h => absurd h HE.out, HB1.out.trans (hb3.mono HB1.out.size)⟩
end Go.Proofs.YthnimhnlnddnoaaGreatDoor
